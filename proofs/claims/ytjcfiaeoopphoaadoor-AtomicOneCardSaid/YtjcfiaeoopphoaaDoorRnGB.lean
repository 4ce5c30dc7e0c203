import Derived.Test.YtjcfiaeoopphoaaDoorRnGA
import Derived.Orders
import Derived.RangeFuncIn
import Derived.RangeFuncLeaves
import Derived.Maps.RangeRun
import Derived.CheckFast
import Derived.Lib.ItoaNum
import Derived.LaidMore
import Derived.LaidHandle
import Derived.Lib.LaidTab
import Derived.Sort.Grow
import Derived.Deep.Draws
set_option maxRecDepth 100000
set_option maxHeartbeats 8000000
set_option linter.unusedSimpArgs false
set_option linter.unusedVariables false
open Array renaming all_eq_true_iff_forall_mem → WA, foldl_toList → Vk, getD_eq_getD_getElem? → Ua, getElem?_append_left → Wi, getElem?_eq_getElem → Ur, getElem?_eq_none → VM, getElem?_eq_some_iff → UR, getElem?_push → VI, getElem?_setIfInBounds_ne → Vh, getElem?_setIfInBounds_self_of_lt → Vg, getElem?_toList → VC, length_toList → Uq, mapM_eq_mapM_toList → Wj, mem_append → Wf, mem_toList_iff → U7, replicate → Us, size_setIfInBounds → Wc, toList_append → Vx
open Bool renaming and_eq_true → TW, and_eq_true_iff → UI, and_true → VE, false_eq_true → UK, false_or → We, not_eq_true' → Wg, not_false → Vy, not_true → VQ, or_eq_true → U0, true_and → VN
open Classical renaming byContradiction → Ut
open Go.Region renaming before → T1
open Go.Result renaming andThen_ok → TH
open Go.Sem renaming run_bind → TF, run_pure → TK
open Int renaming emod_eq_of_lt → Wn, tmod → Uh
open List renaming Perm.refl → UL, Perm.swap → Vz, all_append → U9, all_cons → TS, all_eq_true → TG, append_assoc → Um, append_nil → U8, cons.injEq → TQ, drop_drop → Up, drop_eq_getElem_cons → U6, drop_eq_nil_of_le → Wm, drop_zero → T8, eq_nil_of_length_eq_zero → UY, ext_getElem? → U2, flatten_cons → T5, foldl_cons → Un, getElem?_append_left → Ux, getElem?_append_right → UJ, getElem?_cons_succ → Wh, getElem?_cons_zero → UA, getElem?_drop → Ue, getElem?_eq_getElem → TE, getElem?_eq_none → Uf, getElem?_eq_some_iff → TZ, getElem?_map → Uc, getElem?_range → Vt, getElem?_take → Wk, getElem?_take_of_lt → U4, getElem_mem → VD, length_append → TM, length_cons → TL, length_drop → Vo, length_map → T3, length_set → T2, length_take → T4, mapM_cons → V6, map_append → Vm, map_cons → T0, map_nil → U5, mem_append_left → T7, mem_append_right → TU, mem_cons → Ty, mem_cons_of_mem → TB, mem_cons_self → TA, mem_filter → Wd, mem_map → TI, mem_map_of_mem → UZ, mem_of_getElem? → TY, mem_range → Uz, nil_append → UB, nodup_cons → UF, range → Ui, range' → VO, range'_succ → Wa, reverse_nil → VB, take_append → Wl, take_append_drop → VP, take_length → UM, take_succ_cons → Vs, take_zero → Vp
open Nat renaming add_assoc → UU, add_mul → Uo, add_zero → Ul, beq → Tx, ble → Tw, blt → Tv, eq_of_beq_eq_true → Ug, eq_zero_or_pos → Vl, le_of_lt → U1, le_refl → Tz, le_trans → TO, lt_irrefl → US, lt_of_lt_of_le → TJ, lt_or_ge → UX, lt_succ_self → UT, min_eq_left → Vj, mod_lt → Vv, mul_comm → UQ, mul_le_mul_right → UW, mul_one → Va, not_lt_zero → Wb, one_mul → UN, sub_zero → Uk, succ_mul → VK, succ_pos → Uu, zero_add → T6, zero_le → TN, zero_mul → UE
open Option renaming bind_some → Vn, getD_some → VA, map_some → Uj, some.injEq → Ud
noncomputable section
namespace Go.Rn
open Go.RowKit
section
variable {nt i:Nat} {a:Act} {ops:Array Oper} {t1:Tr AV} {dst:Option Tmp}
section
variable {P:Program} {B:aE} {ρ:Ren} {w:World} {s s1:AS} {x:AV} {Tu:aJ} {t:Tr AV} {o:Oper}
theorem alV{f:AV}{args:List AV}{vf:Value}{vs:Array Value}(hc:gk P B Tu)(hg:gG ρ)(fi:bH s)(r:Rel B ρ s.h w)(hf:dU s.nx s1.nx ρ)(zj:VR ρ f vf)(hl:ax ρ args vs.toList)(h4:nK Tu f args s= .ok x s1):jj P ((do let d ←Deferred.ofValue vf vs;invoke d.target d.args:Sem Next).run P w)<|ky B ρ s s1 w x:=by
 unfold nK at h4;split at h4
 ·rename_i g first captured
  let⟨_,p,q,e,hp,hq⟩:=zj.amF;have QK:ax ρ (first++args++captured) (p++vs++q).toList:=by rw[Vx,Vx];exact(hp.append hl).append hq
  have:=hc.fn g _ x s s1 ρ w _ fi r hg hf h4 QK;simp only[Deferred.ofValue,e,TF,TK,TH,invoke];exact this
 ·rename_i n;have kO:=zj;simp only[VR] at kO;let⟨b,N,hn,e⟩:=kO;have:=hc.round n b N _ x s s1 ρ w vs fi r hg hf h4 hl hn;simp only[Deferred.ofValue,e,TF,TK,TH,invoke];simpa using this
 ·cases h4
theorem aaQ{R:Value->World->Prop}(ho:ops[i]? =some o)(hw:Region.wanted o (yielded ops a.tmps)=true)(hd:∀c,o.op≠ .defer c)(h:jj P ((execOp a.eval o).run P w) R)(b:Frame)(k:List Item)(cs:List Frame)(rest:List Nat):
 ∃v w',R v w'/\Steps P (lone (b.atR a<|.inRegion ops (i::rest)::k) cs w) (lone (b.atR (a.put o.dst v)<|.inRegion ops rest::k) cs w'):=by
 have hg:=stepGR_op (P:=P) (b:=b) (k:=k) (cs:=cs) (w:=w) (rest:=rest) ho hw;rw[Oper.semAt_eq _ _ _ hd] at hg;have qq:∀v,(b.atR a<|.inRegion ops (i::rest)::k).finish v=b.atR (a.put o.dst v) (.inRegion ops rest::k):=by intro v;rw[Frame.finish_atR,ho];rfl
 generalize hr:(execOp a.eval o).run P w=res at h;unfold jj at h;split at h
 ·rename_i v w';refine⟨v,w',h,.one<|step_lone_go ?_⟩;rw[hg, ←qq];simp[stepG.apply,hr]
 ·rename_i w';refine⟨undef,w',h,.one<|step_lone_go ?_⟩;rw[hg, ←qq];simp[stepG.apply,hr]
 ·rename_i f args w';obtain⟨e,nS,fr,⟨v,rfl,hR⟩,Cc,cv,P3⟩:=h<|b.atR a (.inRegion ops (i::rest)::k)::cs;have Cd:step P (lone (b.atR a<|.inRegion ops (i::rest)::k) cs w)= .next (lone (Frame.enter P f args .normal) (b.atR a (.inRegion ops (i::rest)::k)::cs) w'):=step_lone_go (by rw[hg];simp[stepG.apply,hr,Frame.atR])
  refine⟨v,nS,hR,.head Cd<|Steps.trans Cc<|.one ?_⟩;rw[←qq];exact step_leave_returned P3
 ·rename_i l f tmps assign body w';let⟨v,nS,hR,Cc⟩:=h (b.atR a<|.inRegion ops (i::rest)::k) cs;have Cd:step P (lone (b.atR a<|.inRegion ops (i::rest)::k) cs w)= .next (lone (Frame.round l f tmps assign body .normal) (b.atR a (.inRegion ops (i::rest)::k)::cs) w'):=step_lone_go (by rw[hg];simp[stepG.apply,hr,Frame.atR])
  refine⟨v,nS,hR,.head Cd ?_⟩;rw[←qq];exact Cc
 ·cases h
theorem abI(ht:TR ρ nt t a.tmps)(j:Nat)(hk:uk ops t j=true):yielded ops a.tmps j=GI ops t j:=by
 unfold uk at hk;unfold yielded GI;cases e1:ops[j]? with
 |none=>rfl
 |some q=>
  rw[e1] at hk;simp only[Vn];simp only at hk;cases e2:q.dst with
  |none=>rfl
  |some d=>
   rw[e2] at hk;simp only[Vn];simp only at hk;cases e4:t.get d with
   |none=>rw[e4] at hk;cases hk
   |some y=>
    have hv:=ht.2 d y e4;rw[Ua] at hv;cases e3:a.tmps[d]? with
    |none=>rw[e3] at hv;cases y<;>first|rfl|(exfalso;simp only[Option.getD_none,VR,Go.undef] at hv;cases hv)
    |some v=>
     rw[e3] at hv;simp only[VA] at hv;cases v with
     |bool c=>rw[anv hv]
     |_=>cases y<;>first|rfl|(exfalso;simp only[VR] at hv;cases hv)
theorem abJ{g:Nat×Bool}(ht:TR ρ nt t a.tmps)(hg:o.guard=some g)(hk:uk ops t g.1=true):Region.wanted o (yielded ops a.tmps)=qO ops g t:=by
 unfold Region.wanted qO;rw[hg];simp only[abI ht g.1 hk];cases GI ops t g.1 with
 |none=>rfl
 |some b=>cases b<;>cases g.2<;>rfl
theorem D3{v:AV}(h:jD nt t dst v=some t1):(dst=none/\t1=t)\/∃d,dst=some d/\d<nt/\t1=t.put d (some v):=by
 cases dst with
 |none=>injection h with h;exact .inl ⟨rfl,h.symm⟩
 |some d=>
  have h': @Bool.rec (fun _=>Option<|Tr AV) none (some<|t.put d<|some v) (Tv d nt)=some t1:=h;rw[zW] at h';by_cases q:d<nt
  ·rw[if_pos q] at h';injection h' with h';exact .inr ⟨d,rfl,q,h'.symm⟩
  ·rw[if_neg q] at h';cases h'
theorem D4{y:AV}{v:Value}(ht:TR ρ nt t a.tmps)(jt:nt<=top)(h:jD nt t dst y=some t1)(hv:VR ρ y v):TR ρ nt t1 (a.put dst v).tmps/\(a.put dst v).defers=a.defers:=by
 rcases D3 h with⟨rfl,rfl⟩|⟨d,rfl,hd,rfl⟩
 ·exact⟨ht,rfl⟩
 ·exact⟨ht.set hd jt hv,rfl⟩
structure At (B:aE) (ρ:Ren) (s:AS) (nt:Nat) (t:Tr AV) (w:World) (a:Act):Prop where
 tr:TR ρ nt t a.tmps
 rel:Rel B ρ s.h w
 g:gG ρ
 nt:nt<=top
 cG:bH s
def Fj(P:Program)(B:aE)(ρ:Ren)(s s1:AS)(nt:Nat)(t1:Tr AV)(w:World)(a:Act)(m:Machine)(m':Act->World->Machine):Prop:=∃σ a' w',Ext s.nx s1.nx ρ σ/\At B σ s1 nt t1 w' a'/\a'.defers=a.defers/\cI B w w'/\Steps P m (m' a' w')
theorem amG(hc:gk P B Tu)(hl:∀t a,Tt<|Tu t a)(ho:ops[i]? =some o)(ay:At B ρ s nt t w a)(hf:dU s.nx s1.nx ρ)(h:hU P Tu nt ops o t s= .ok t1 s1)(b:Frame)(k:List Item)(cs:List Frame)(rest:List Nat):
 Fj P B ρ s s1 nt t1 w a (lone (b.atR a<|.inRegion ops (i::rest)::k) cs w) (fun a' w'=>lone (b.atR a'<|.inRegion ops rest::k) cs w'):=by
 have main:∀(f:(dY P o.op).val Tu t s=(dY P o.op).val Tu t s),Region.wanted o (yielded ops a.tmps)=true->te (dY P o.op) o.dst Tu nt t s= .ok t1 s1->
  Fj P B ρ s s1 nt t1 w a (lone (b.atR a<|.inRegion ops (i::rest)::k) cs w) (fun a' w'=>lone (b.atR a'<|.inRegion ops rest::k) cs w'):=by
  intro _ hw hk;unfold te at hk;let⟨v,s2,h1,h2⟩:=M.aQ hk;obtain⟨h3,rfl⟩:=ij h2;let⟨hd,hb⟩:=agW hc hl ay.tr ay.g ay.cG ay.rel hf h1;let⟨u,w',⟨σ,e1,e2,e3,e4⟩,st⟩:=aaQ ho hw hd hb b k cs rest;let⟨q1,q2⟩:=D4 (ay.tr.mono e1.le) ay.nt h3 e2;exact⟨σ,a.put o.dst u,w',e1,⟨q1,e3,ay.g.mono e1.le,ay.nt,(Tt.Iq P hl t o.op).cG ay.cG h1⟩,q2,e4,st⟩
 unfold hU Cs at h;cases hg:o.guard with
 |none=>rw[hg] at h;exact main rfl (by unfold Region.wanted;rw[hg]) h
 |some g=>
  rw[hg] at h;have h':uG ops g (dY P o.op) o.dst Tu nt t s= .ok t1 s1:=h;unfold uG at h';let⟨hk,h'⟩:=dv h';have hw:=abJ (ops:=ops) ay.tr hg hk;cases q:qO ops g t with
  |true=>rw[q] at h' hw;exact main rfl hw h'
  |false=>rw[q] at h' hw;obtain⟨h3,rfl⟩:=ij (show lift (jD nt t o.dst qQ) s= .ok t1 s1 from h');let⟨q1,q2⟩:=D4 ay.tr ay.nt h3<|VR.undef ρ;have hs:=stepR_op_skip (P:=P) (b:=b) (a:=a) (k:=k) (cs:=cs) (w:=w) (ops:=ops) (i:=i) (rest:=rest) (by simp[ho];simpa using hw);simp only[ho,Vn] at hs;exact⟨ρ,a.put o.dst undef,w,Ext.refl _ _ _,⟨q1,ay.rel,ay.g,ay.nt,ay.cG⟩,q2,cI.refl _ _,.one hs⟩
theorem OQ{ops:Array Oper}{nt:Nat}(hc:gk P B Tu)(hl:∀t a,Tt<|Tu t a)(b:Frame)(k:List Item)(cs:List Frame):∀(n i:Nat) (l:List Oper) {t t1:Tr AV} {s s1:AS} {ρ:Ren} {a:Act} {w:World},l.length=n->ops.toList.drop i=l->
 At B ρ s nt t w a->dU s.nx s1.nx ρ->jE P Tu nt ops l t s= .ok t1 s1->
 Fj P B ρ s s1 nt t1 w a (lone (b.atR a<|.inRegion ops (VO i n)::k) cs w) (fun a' w'=>lone (b.atR a' k) cs w')
 |0,i,l,t,t1,s,s1,ρ,a,w,hn,_,ay,_,h=>by have:l=[]:=UY hn;subst this;obtain⟨rfl,rfl⟩:=bG (show M.pure t s= .ok t1 s1 from h);exact⟨ρ,a,w,Ext.refl _ _ _,ay,rfl,cI.refl _ _,.one stepR_region_end⟩
 |n+1,i,l,t,t1,s,s1,ρ,a,w,hn,kQ,ay,hf,h=>by
  cases l with
  |nil=>cases hn
  |cons o l=>
   let⟨t2,s2,h1,h2⟩:=M.aQ (show((hU P Tu nt ops o t).bind<|jE P Tu nt ops l) s= .ok t1 s1 from h);have ho:ops[i]? =some o:=by
    have:(ops.toList.drop i)[0]? =some o:=by rw[kQ];rfl
    rw[Ue] at this;simpa using this
   have aiq:ops.toList.drop (i+1)=l:=by rw[←Up,kQ];rfl
   have lE:s.nx<=s2.nx:=(Tt.hU P hl nt ops o t).le ay.cG h1;have dO:bH s2:=(Tt.hU P hl nt ops o t).cG ay.cG h1;have qA:s2.nx<=s1.nx:=(Tt.jE P hl nt ops l t2).le dO h2;let⟨σ,a',w',e1,e2,e3,e4,e5⟩:=amG hc hl ho ay (hf.sub (Tz _) qA) h1 b k cs<|VO (i+1) n;let⟨τ,Iz,nS,f1,f2,f3,f4,f5⟩:=OQ hc hl b k cs n (i+1) l (by simpa using hn) aiq e2 (hf.next lE e1) h2;exact⟨τ,Iz,nS,e1.trans lE qA f1,f2,f3.trans e3,e4.trans f4,by rw[Wa];exact Steps.trans e5 f5⟩
theorem aca{id:Nat}(hc:gk P B Tu)(hl:∀t a,Tt<|Tu t a)(ay:At B ρ s nt t w a)(hf:dU s.nx s1.nx ρ)(h:jE P Tu nt ops ops.toList t s= .ok t1 s1)(b:Frame)(k:List Item)(cs:List Frame):
 Fj P B ρ s s1 nt t1 w a (lone (b.atR a<|.code (.region id ops false)::k) cs w) (fun a' w'=>lone (b.atR a' k) cs w'):=by
 let⟨σ,a',w',e1,e2,e3,e4,e5⟩:=OQ hc hl b k cs ops.size 0 ops.toList j0 j0 ay hf h;exact⟨σ,a',w',e1,e2,e3,e4,.head stepR_region (by rw[List.range_eq_range'];exact e5)⟩
end
end
section
variable {listed:Array Bool} {i:Nat}
def o9(acc:Array Nat)(o:Oper):Nat:=o.after.foldl (fun s e=>if Region.binds .any e then s|||2 ^ e.on|||acc.getD e.on 0 else s) 0
theorem aap(acc:Array Nat)(o:Oper)(i:Nat):(o9 acc o).testBit i=true↔∃e∈o.after.toList,Region.binds .any e=true/\(e.on=i\/(acc.getD e.on 0).testBit i=true):=by
 unfold o9;rw[←Vk];have:∀(l:List Edge) (s:Nat),(l.foldl (fun s e=>if Region.binds .any e then s|||2 ^ e.on|||acc.getD e.on 0 else s) s).testBit i=true↔
  s.testBit i=true\/∃e∈l,Region.binds .any e=true/\(e.on=i\/(acc.getD e.on 0).testBit i=true):=by
  intro l;induction l with
  |nil=>intro s;simp
  |cons e l ih=>
   intro s;rw[Un,ih];by_cases q:Region.binds .any e=true
   ·rw[if_pos q];simp only[Nat.testBit_or,U0,Nat.testBit_two_pow,decide_eq_true_eq,Ty,exists_eq_or_imp,q,true_and];constructor
    ·rintro ((h|h)|h)
     ·rcases h with h|h
      ·exact .inl h
      ·exact .inr<|.inl<|.inl h
     ·exact .inr<|.inl<|.inr h
     ·exact .inr<|.inr h
    ·rintro (h|(h|h)|h)
     ·exact .inl<|.inl<|.inl h
     ·exact .inl<|.inl<|.inr h
     ·exact .inl<|.inr h
     ·exact .inr h
   ·rw[if_neg q];simp only[Ty,exists_eq_or_imp,q,false_and,false_or,UK]
 have h:=this o.after.toList 0;simpa using h
theorem NJ(l:List Oper):∀(acc:Array Nat),(l.foldl (fun acc o=>acc.push<|o9 acc o) acc).size=acc.size+l.length/\
 (∀k,k<acc.size->(l.foldl (fun acc o=>acc.push<|o9 acc o) acc).getD k 0=acc.getD k 0):=by
 induction l with
 |nil=>intro acc;exact⟨by simp,fun k _=>rfl⟩
 |cons o l ih=>intro acc;rw[Un];let⟨h1,h2⟩:=ih<|acc.push<|o9 acc o;refine⟨by rw[h1];simp;omega,fun k hk=>?_⟩;rw[h2 k xk];simp only[Ua,VI];rw[if_neg ak]
theorem alW{ops:Array Oper}{j:Nat}{o:Oper}(ho:ops[j]? =some o):
 (T1 ops).getD j 0=o9 ((ops.toList.take j).foldl (fun acc o=>acc.push<|o9 acc o) #[]) o/\
 ∀k,k<j->((ops.toList.take j).foldl (fun acc o=>acc.push<|o9 acc o) #[]).getD k 0=(T1 ops).getD k 0:=by
 have hb:T1 ops=ops.toList.foldl (fun acc o=>acc.push<|o9 acc o) #[]:=by unfold T1;rw[←Vk];rfl
 have hj:j<ops.toList.length:=by have:=(UR.1 ho).1;simpa using this
 have ll:ops.toList[j]? =some o:=by simpa using ho
 have agX:ops.toList=ops.toList.take j++o::ops.toList.drop (j+1):=by
  have e:ops.toList.drop j=o::ops.toList.drop (j+1):=by rw[U6 hj];congr 1;rw[TE hj] at ll;injection ll
  rw[←e,VP]
 let⟨s1,_⟩:=NJ (ops.toList.take j) #[];have j9:((ops.toList.take j).foldl (fun acc o=>acc.push<|o9 acc o) #[]).size=j:=by rw[s1,T4,Vj ak];exact T6 j
 generalize hA:(ops.toList.take j).foldl (fun acc o=>acc.push<|o9 acc o) #[]=A at*;have Da:T1 ops=(ops.toList.drop<|j+1).foldl (fun acc o=>acc.push<|o9 acc o) (A.push<|o9 A o):=by
  rw[hb]
  conv=>lhs;rw[agX]
  rw[List.foldl_append,hA,Un]
 let⟨_,q2⟩:=NJ (ops.toList.drop<|j+1)<|A.push<|o9 A o;refine⟨?_,fun k hk=>?_⟩
 ·rw[Da,q2 j xk];rw[Ua,VI,if_pos j9.symm];rfl
 ·rw[Da,q2 k xk];simp only[Ua,VI];rw[if_neg ak]
theorem aaE(ops:Array Oper):(T1 ops).size=ops.size:=by
 have hb:T1 ops=ops.toList.foldl (fun acc o=>acc.push<|o9 acc o) #[]:=by unfold T1;rw[←Vk];rfl
 rw[hb,(NJ ops.toList #[]).1];simp
theorem abg{ops:Array Oper}(he:J5 ops)(D:Nat->Prop)(hD:∀(j:Nat) (o:Oper) (e:Edge),ops[j]? =some o->D j->e∈o.after->Region.binds .any e=true->D e.on):
 ∀(n j i:Nat),j<=n->((T1 ops).getD j 0).testBit i=true->i<j/\(D j->D i)/\((∀(o:Oper) (e:Edge),ops[j]? =some o->e∈o.after->Region.binds .any e=true->D e.on)->D i):=by
 intro n;induction n with
 |zero=>
  intro j i hj h;have:j=0:=by omega
  subst this;cases ho:ops[0]? with
  |none=>
   have:¬0<(T1 ops).size:=by rw[aaE];intro q;rw[Ur q] at ho;cases ho
   rw[Ua,VM ak] at h;simp at h
  |some o=>let⟨h1,_⟩:=alW ho;rw[h1,aap] at h;let⟨e,hm,A6,_⟩:=h;exact absurd (he 0 o e ho (U7.1 hm) A6)<|Wb _
 |succ n ih=>
  intro j i hj h;by_cases q:j<=n
  ·exact ih j i q h
  ·have:j=n+1:=by omega
   subst this;cases ho:ops[n+1]? with
   |none=>
    have:¬n+1<(T1 ops).size:=by rw[aaE];intro q;rw[Ur q] at ho;cases ho
    rw[Ua,VM ak] at h;simp at h
   |some o=>
    let⟨h1,h2⟩:=alW ho;rw[h1,aap] at h;let⟨e,hm,A6,cV⟩:=h;have fG:=U7.1 hm;have ct:=he (n+1) o e ho fG A6;rcases cV with rfl|cV
    ·exact⟨ct,fun R8=>hD _ o e ho R8 fG A6,fun dL=>dL o e rfl fG A6⟩
    ·rw[h2 e.on ct] at cV;let⟨a,b,_⟩:=ih e.on i ak cV;exact⟨by omega,fun R8=>b<|hD _ o e ho R8 fG A6,fun dL=>b<|dL o e rfl fG A6⟩
def open_(listed:Array Bool):Nat:=(Ui listed.size).countP fun i=> !listed.getD i true
theorem acS{n:Nat}{p q:Nat->Bool}(hi:i<n)(hp:p i=true)(hq:q i=false)(cz:∀k,k≠i->q k=p k):(Ui n).countP q<(Ui n).countP p:=by
 induction n with
 |zero=>omega
 |succ n ih=>
  rw[List.range_succ,List.countP_append,List.countP_append];by_cases e:i=n
  ·subst e;have:(Ui i).countP q=(Ui i).countP p:=by
    apply List.countP_congr;intro k hk;have:k≠i:=by have:=Uz.1 hk;omega
    rw[cz k this]
   rw[this];simp[hp,hq]
  ·have:=ih ak;have e2:(List.countP q [n])=List.countP p [n]:=by simp[List.countP_cons,cz n<|Ne.symm e]
   rw[e2];omega
theorem ad4(hi:listed.getD i true=false):open_ (listed.setIfInBounds i true)<open_ listed:=by
 have ct:i<listed.size:=by
  rcases UX i listed.size with q|q
  ·exact q
  ·rw[Ua,VM q] at hi;cases hi
 unfold open_;rw[Wc];refine acS ct (by simp[hi]) ?_ fun k hk=>?_
 ·simp[Ua,Vg ct]
 ·simp only[Ua];rw[Vh ak]
theorem acT(h:open_ listed=0):∀i,i<listed.size->listed.getD i false=true:=by intro i hi;unfold open_ at h;rw[List.countP_eq_zero] at h;have:=h i<|Uz.2 hi;rw[Ua,Ur hi] at this ⊢;simpa using this
theorem acb{ops:Array Oper}(he:J5 ops)(hs:listed.size=ops.size)(hr:Region.ready .any ops listed=[]):∀n i,i<n->i<ops.size->listed.getD i false=true:=by
 intro n;induction n with
 |zero=>intro i hi;omega
 |succ n ih=>
  intro i hi ct;by_cases q:i<n
  ·exact ih i q ct
  ·have:i=n:=by omega
   subst this;cases h:listed.getD i false with
   |true=>rfl
   |false=>
    exfalso;have rj:i∈Region.ready .any ops listed:=by
     unfold Region.ready;rw[Wd];refine⟨Uz.2 ct,?_⟩;have h1:listed.getD i true=false:=by rw[Ua,Ur ak] at h ⊢;simpa using h
     rw[h1,Ur ct];simp only[Vy,VN,Uj,VA];rw[WA];intro e hm;cases hb:Region.binds .any e with
     |false=>rfl
     |true=>have akg:=he i ops[i] e (Ur ct) hm hb;simp only[VQ,We];exact ih e.on akg ak
    rw[hr] at rj;cases rj
section
variable {P:Program} {ops:Array Oper}
theorem acU(he:J5 ops)(b:Frame)(k:List Item)(cs:List Frame)(Inv:Array Bool->Act->World->Prop)(air:∀(listed:Array Bool) (a:Act) (w:World) (i:Nat) (o:Oper) (rest:List Nat),listed.size=ops.size->Inv listed a w->ops[i]? =some o->listed.getD i true=false->
 (∀e∈o.after,Region.binds .any e=true->listed.getD e.on false=true)->
 ∃a' w',Inv (listed.setIfInBounds i true) a' w'/\Steps P (lone (b.atR a<|.inRegion ops (i::rest)::k) cs w) (lone (b.atR a'<|.inRegion ops rest::k) cs w')):
 ∀(fuel t:Nat) (listed:Array Bool) (a:Act) (w:World),listed.size=ops.size->open_ listed<=fuel->Inv listed a w->∃BV a' w',BV.size=ops.size/\(∀i,i<ops.size->BV.getD i false=true)/\Inv BV a' w'/\Steps P (lone (b.atR a<|.inRegion ops (Region.linearise.go .any ops fuel t listed [])::k) cs w) (lone (b.atR a' k) cs w'):=by
 intro fuel;induction fuel with
 |zero=>
  intro t listed a w hs ho hi;refine⟨listed,a,w,hs,?_,hi,?_⟩
  ·intro i ct;exact acT ak i ak
  ·simp only[Region.linearise.go,VB];exact .one stepR_region_end
 |succ fuel ih=>
  intro t listed a w hs ho hi;simp only[Region.linearise.go];change ∃BV a' w',BV.size=ops.size/\(∀i,i<ops.size->BV.getD i false=true)/\Inv BV a' w'/\
   Steps P (lone (b.atR a<|.inRegion ops (match (Region.ready .any ops listed)[t % (Region.ready .any ops listed).length]? with
    |some i=>Region.linearise.go .any ops fuel (t / (Region.ready .any ops listed).length) (listed.setIfInBounds i true) [i]
    |none=>[].reverse)::k) cs w) (lone (b.atR a' k) cs w')
  cases hq:(Region.ready .any ops listed)[t % (Region.ready .any ops listed).length]? with
  |none=>
   have LY:Region.ready .any ops listed=[]:=by
    cases hr:Region.ready .any ops listed with
    |nil=>rfl
    |cons x xs=>rw[hr] at hq;have ct:t % (x::xs).length<(x::xs).length:=Vv _ j0;simp at hq;simp at ct;omega
   refine⟨listed,a,w,hs,fun i ct=>acb he hs LY (i+1) i ak ct,hi,?_⟩;simp only[VB];exact .one stepR_region_end
  |some i=>
   simp only[];have rj:=TY hq;unfold Region.ready at rj;rw[Wd,TW] at rj;let⟨ct,h1,h2⟩:=rj;have akh:=Uz.1 ct;have ZM:ops[i]? =some ops[i]:=Ur akh;rw[ZM] at h2;simp only[Uj,VA] at h2;rw[WA] at h2;have ze:listed.getD i true=false:=by simpa using h1
   rw[linearise_go_acc,List.reverse_singleton,List.singleton_append];let⟨a',w',j1,j2⟩:=air listed a w i ops[i] (Region.linearise.go .any ops fuel (t / (Region.ready .any ops listed).length) (listed.setIfInBounds i true) []) hs hi ZM ze (fun e hm hb=>by have:=h2 e hm;rw[hb] at this;simpa using this);let⟨l',Iz,nS,k0,k1,k2,k3⟩:=ih (t / (Region.ready .any ops listed).length) (listed.setIfInBounds i true) a' w' (by simp[hs]) (by have:=ad4 ze;omega) j1;exact⟨l',Iz,nS,k0,k1,k2,Steps.trans j2 k3⟩
theorem ad5(n:Nat):open_ (Us n false)<=n:=by unfold open_;have:=List.countP_le_length (p:=fun i=> !(Us n false).getD i true) (l:=Ui (Us n false).size);simpa using this
end
end
section
variable {g f:Operand->Option AV}
section
variable {P:Program} {Tu:aJ} {t u:Tr AV}
theorem Ji:∀{l:List Operand},(∀y∈l,f y=g y)->kv f l=kv g l
 |[],_=>rfl
 |y::l,h=>by simp only[kv,h y TA,Ji fun z hz=>h z<|TB _ hz]
theorem NK:∀{l:List<|Nat×Operand},(∀y∈l,f y.2=g y.2)->wG f l=wG g l
 |[],_=>rfl
 |(i,y)::l,h=>by simp only[wG,h (i,y) TA,NK fun z hz=>h z<|TB _ hz]
theorem Og{y:Option Operand}(h:∀z,y=some z->f z=g z):opt f y=opt g y:=by
 cases y with
 |none=>rfl
 |some z=>simp only[opt,h z rfl]
theorem acV{op:Op}(h:∀y∈op.operands,aF t y=aF u y):(dY P op).val Tu t=(dY P op).val Tu u:=by
 cases op
 case move y=>show wJ y Tu t=wJ y Tu u;simp only[wJ,h y gp]
 case assign y=>show wJ y Tu t=wJ y Tu u;simp only[wJ,h y gp]
 case pick c p q=>show Cr c p q Tu t=Cr c p q Tu u;simp only[Cr,h c gp,h p gp,h q gp]
 case alloc e=>rfl
 case box e y=>show CD y Tu t=CD y Tu u;simp only[CD,h y gp]
 case build ty parts=>show B5 P ty parts.toList Tu t=B5 P ty parts.toList Tu u;simp only[B5,NK (f:=aF t) (g:=aF u) (l:=parts.toList) fun y hy=>h y.2 (by simp only[Op.operands,List.mem_toArray];exact UZ hy)]
 case buildSlice ty len parts=>show Bz P ty len parts.toList Tu t=Bz P ty len parts.toList Tu u;simp only[Bz,NK (f:=aF t) (g:=aF u) (l:=parts.toList) fun y hy=>h y.2 (by simp only[Op.operands,List.mem_toArray];exact UZ hy)]
 case load ty y=>show uE P ty y Tu t=uE P ty y Tu u;simp only[uE,h y gp]
 case store ty y z=>show yp P ty y z Tu t=yp P ty y z Tu u;simp only[yp,h y gp,h z gp]
 case nilCheck y=>show BC y Tu t=BC y Tu u;simp only[BC,h y gp]
 case binOp op ty y z v=>show uS P op ty y z Tu t=uS P op ty y z Tu u;simp only[uS,h y gp,h z gp]
 case unOp op ty y=>show C3 op y Tu t=C3 op y Tu u;simp only[C3,h y gp]
 case convert src dst y=>show BJ P src dst y Tu t=BJ P src dst y Tu u;simp only[BJ,h y gp]
 case makeInterface ty y=>show DP P ty y Tu t=DP P ty y Tu u;simp only[DP,h y gp]
 case makeFunc fn first captured=>show BD fn first.toList captured.toList Tu t=BD fn first.toList captured.toList Tu u;simp only[BD,Ji (f:=aF t) (g:=aF u) (l:=first.toList) fun y hy=>h y (by simp only[Op.operands,Wf];exact .inl<|U7.1 hy),Ji (f:=aF t) (g:=aF u) (l:=captured.toList) fun y hy=>h y (by simp only[Op.operands,Wf];exact .inr<|U7.1 hy)]
 case makeMap ty y=>
  cases y with
  |none=>rfl
  |some y=>show BK P ty (some y) Tu t=BK P ty (some y) Tu u;simp only[BK,h y gp]
 case makeSlice ty l c=>show xS P ty l c Tu t=xS P ty l c Tu u;simp only[xS,h l gp,h c gp]
 case slice ty y lo hi mx=>show uj P ty y lo hi mx Tu t=uj P ty y lo hi mx Tu u;simp only[uj,h y gp,Og (f:=aF t) (g:=aF u) (y:=lo) (fun z hz=>h z<|by simp[Op.operands,hz]),Og (f:=aF t) (g:=aF u) (y:=hi) (fun z hz=>h z<|by simp[Op.operands,hz]),Og (f:=aF t) (g:=aF u) (y:=mx) fun z hz=>h z<|by simp[Op.operands,hz]]
 case fieldAddr ty y f=>show BA P ty y f Tu t=BA P ty y f Tu u;simp only[BA,h y gp]
 case field ty y f=>show B6 P ty y f Tu t=B6 P ty y f Tu u;simp only[B6,h y gp]
 case indexAddr ty y z=>show qL P ty y z Tu t=qL P ty y z Tu u;simp only[qL,h y gp,h z gp]
 case index ty y z=>show B7 P ty y z Tu t=B7 P ty y z Tu u;simp only[B7,h y gp,h z gp]
 case lookup ty y z ok=>show ye P ty y z ok Tu t=ye P ty y z ok Tu u;simp only[ye,h y gp,h z gp]
 case mapUpdate ty m k y=>show qN P ty m k y Tu t=qN P ty m k y Tu u;simp only[qN,h m gp,h k gp,h y gp]
 case insert ty m k y=>show qN P ty m k y Tu t=qN P ty m k y Tu u;simp only[qN,h m gp,h k gp,h y gp]
 case typeAssert y xt asserted ok=>show Ee P asserted ok y Tu t=Ee P asserted ok y Tu u;simp only[Ee,h y gp]
 case range ty y=>show B8 P ty y Tu t=B8 P ty y Tu u;simp only[B8,h y gp]
 case entry y=>show B9 y Tu t=B9 y Tu u;simp only[B9,h y gp]
 case next y R7=>
  cases R7 with
  |true=>show D2 y Tu t=D2 y Tu u;simp only[D2,h y gp]
  |false=>rfl
 case extract y i=>show BL y i Tu t=BL y i Tu u;simp only[BL,h y gp]
 case call c=>
  let⟨callee,args,ts⟩:=c;have ha:∀(cl:Callee),(∀y∈(Op.call ⟨cl,args,ts⟩).operands,aF t y=aF u y)->kv (aF t) args.toList=kv (aF u) args.toList:=fun cl hh=>Ji fun y hy=>hh y (by simp only[Op.operands,Call.operands,Wf];exact .inr<|U7.1 hy);cases callee with
  |builtin b=>show o8 P b ts args.toList Tu t=o8 P b ts args.toList Tu u;simp only[o8,ha _ h]
  |value f=>show uF f args.toList Tu t=uF f args.toList Tu u;simp only[uF,ha _ h,h f<|by simp[Op.operands,Call.operands]]
  |invoke r name=>rfl
 all_goals rfl
theorem ad6{y:Operand}(h:∀d,y= .tmp d->t.get d=u.get d):aF t y=aF u y:=by
 cases y with
 |tmp d=>show t.get d=u.get d;rw[h d rfl]
 |_=>rfl
theorem aaR{nt:Nat}{ops:Array Oper}{o:Oper}(h:∀d∈o.looksAt ops,t.get d=u.get d){s s1:AS}{t1:Tr AV}(hr:hU P Tu nt ops o t s= .ok t1 s1):
 ∃v,jD nt t o.dst v=some t1/\∀u1,jD nt u o.dst v=some u1->hU P Tu nt ops o u s= .ok u1 s1:=by
 have fB:(dY P o.op).val Tu t=(dY P o.op).val Tu u:=acV fun y hy=>ad6 fun d hd=>h d (by unfold Oper.looksAt;refine T7 _<|List.mem_filterMap.2 ⟨y,U7.2 hy,by rw[hd]⟩);have main:te (dY P o.op) o.dst Tu nt t s= .ok t1 s1->∃v,jD nt t o.dst v=some t1/\∀u1,jD nt u o.dst v=some u1->te (dY P o.op) o.dst Tu nt u s= .ok u1 s1:=by intro hk;unfold te at hk;let⟨v,s2,h1,h2⟩:=M.aQ hk;obtain⟨h3,rfl⟩:=ij h2;refine⟨v,h3,fun u1 hu=>?_⟩;unfold te;rw[←fB,M.bO h1];unfold lift;rw[hu]
 unfold hU Cs at hr ⊢;cases hg:o.guard with
 |none=>rw[hg] at hr;exact main hr
 |some g=>
  rw[hg] at hr;have kI:uG ops g (dY P o.op) o.dst Tu nt t s= .ok t1 s1:=hr;have hw:qO ops g t=qO ops g u:=by
   unfold qO GI;cases e1:ops[g.1]? with
   |none=>rfl
   |some q=>
    simp only;cases e2:q.dst with
    |none=>rfl
    |some d=>simp only;rw[h d (by unfold Oper.looksAt;refine TU _ ?_;rw[hg];simp[e1,e2])]
  have jG:uk ops t g.1=uk ops u g.1:=by
   unfold uk;cases e1:ops[g.1]? with
   |none=>rfl
   |some q=>
    simp only;cases e2:q.dst with
    |none=>rfl
    |some d=>simp only;rw[h d (by unfold Oper.looksAt;refine TU _ ?_;rw[hg];simp[e1,e2])]
  show ∃v,jD nt t o.dst v=some t1/\∀u1,jD nt u o.dst v=some u1->uG ops g (dY P o.op) o.dst Tu nt u s= .ok u1 s1;unfold uG at kI ⊢;let⟨hk,kI⟩:=dv kI;rw[←hw, ←jG,hk,dR];cases q:qO ops g t with
  |true=>rw[q] at kI;exact main kI
  |false=>rw[q] at kI;obtain⟨h3,rfl⟩:=ij (show lift (jD nt t o.dst qQ) s= .ok t1 s1 from kI);refine⟨qQ,h3,fun u1 hu=>?_⟩;show lift (jD nt u o.dst qQ) s1= .ok u1 s1;unfold lift;rw[hu]
end
end
section
variable {b:Array Nat}
theorem Rel.congr{B:aE}{ρ:Ren}{h h':Tr ah}{w:World}(r:Rel B ρ h w)(e:∀m,m<top->h'.get m=h.get m):Rel B ρ h' w:=by
 refine⟨fun n o hn hg=>r.is n o hn (by rw[←e n hn];exact hg),fun n m o p b N M hn hm h1 h2 cV=>r.one n m o p b N M hn hm (by rw[←e n hn];exact h1) (by rw[←e m hm];exact h2) cV,fun n m es ex left cur hn h1=>?_,r.size,
  fun i j m es ex left cur iw jr iW iY hi hj h1 h2=>r.lone i j m es ex left cur iw jr iW iY hi hj (by rw[←e i hi];exact h1) (by rw[←e j hj];exact h2),
  r.fz.of (Ren.le_refl _) (fun _ _ _=>rfl) (fun b1 _ hn=>hn.sub fun m q hm hq iy=>⟨q,by rw[←e m hm];exact hq,iy⟩),
  r.tk.of (Ren.le_refl _) (fun n q hn hq _=>by rw[←e n hn];exact hq) (Tz _) (fun _ _ _=>rfl) (fun b1 _ hn=>hn.sub fun m q hm hq iy=>⟨q,by rw[←e m hm];exact hq,iy⟩) (fun _ _ _ _ _ e=>e)⟩
 let⟨a,b,c⟩:=r.iter n m es ex left cur hn (by rw[←e n hn];exact h1);exact⟨a,by rw[e m a];exact b,c⟩
theorem aad{x:Met}:∀{all:List Met},tU b x all=true->∀y∈all,x.i=y.i\/uo x y=true\/loose b x.i y.i=false
 |[],_,y,hy=>by cases hy
 |z::l,h,y,hy=>by
  simp only[tU] at h;cases q:(Tx x.i z.i||(uo x z|| !loose b x.i z.i)) with
  |false=>rw[q] at h;cases h
  |true=>
   rw[q] at h;rcases Ty.1 hy with rfl|hy
   ·simp only[U0,Wg] at q;rcases q with q|q|q
    ·exact .inl<|eP.1 q
    ·exact .inr<|.inl q
    ·exact .inr<|.inr q
   ·exact aad h y hy
theorem alX{all:List Met}:∀{l:List Met},qU b all l=true->∀x∈l,uq x=true\/tU b x all=true
 |[],_,x,hx=>by cases hx
 |z::l,h,x,hx=>by
  simp only[qU] at h;cases q:(uq z||tU b z all) with
  |false=>rw[q] at h;cases h
  |true=>
   rw[q] at h;rcases Ty.1 hx with rfl|hx
   ·exact Bool.or_eq_true_iff.1 q
   ·exact alX h x hx
theorem aaF{m:List Nat}:∀{l:List Nat},meets l m=false->∀x∈l,x ∉ m
 |[],_,x,hx=>by cases hx
 |z::l,h,x,hx=>by
  simp only[meets] at h;cases q:CE z m with
  |true=>rw[q] at h;cases h
  |false=>
   rw[q] at h;rcases Ty.1 hx with rfl|hx
   ·intro e;rw[JI.2 e] at q;cases q
   ·exact aaF h x hx
theorem aaG{lo hi:Nat}:∀{l:List Nat},Aj lo hi l=false->∀x∈l,¬(lo<=x/\x<hi)
 |[],_,x,hx=>by cases hx
 |z::l,h,x,hx=>by
  simp only[Aj] at h;cases q:(Tw lo z&&Tv z hi) with
  |true=>rw[q] at h;cases h
  |false=>
   rw[q] at h;rcases Ty.1 hx with rfl|hx
   ·rintro ⟨h1,h2⟩;rw[show Tw lo x=true from aI.2 h1,show Tv x hi=true from(blt_eq _ _).mpr h2] at q;cases q
   ·exact aaG h x hx
section
variable {P:Program} {Tu:aJ} {ops:Array Oper} {nt:Nat}
structure Rh (P:Program) (Tu:aJ) (ops:Array Oper) (nt:Nat) (H:Nat->Tr ah) (N:Nat->Nat) (T:Nat->Tr AV) (k:Nat) (o:Oper) (x:Met) (s1:AS):Prop where
 lo:x.lo=N k
 hi:x.hi=N (k+1)
 run:hU P Tu nt ops o (T k) ⟨H k,N k,N k,[],[]⟩= .ok (T<|k+1) s1
 h:s1.h=H (k+1)
 nx:s1.nx=N (k+1)
 rd:x.rd=below (N k) s1.rd
 wr:x.wr=below (N k) s1.wr
theorem alY(hl:∀t a,Tt<|Tu t a):∀(l:List Oper) (i:Nat) {t t':Tr AV} {s s':AS} {ms:List Met},bH s->nL P Tu nt ops l i t s= .ok (t',ms) s'->
 bH s'/\∃(H:Nat->Tr ah) (N:Nat->Nat) (T:Nat->Tr AV),H 0=s.h/\N 0=s.nx/\T 0=t/\H l.length=s'.h/\N l.length=s'.nx/\T l.length=t'/\(∀k,k<=l.length->N k<=top)/\∀k o,l[k]? =some o->∃x s1,ms[k]? =some x/\x.i=i+k/\Rh P Tu ops nt H N T k o x s1
 |[],i,t,t',s,s',ms,fi,h=>by obtain⟨e,rfl⟩:=bG (show M.pure (t,[]) s= .ok (t',ms) s' from h);cases e;exact⟨fi,fun _=>s'.h,fun _=>s'.nx,fun _=>t,rfl,rfl,rfl,rfl,rfl,rfl,fun _ _=>fi.nx,fun k o h=>by simp at h⟩
 |o::l,i,t,t',s,s',ms,fi,h=>by
  let⟨x,s2,h1,h2⟩:=M.aQ (show((alone i<|hU P Tu nt ops o t).bind fun x=>(nL P Tu nt ops l (i+1) x.1).bind fun y=>M.pure (y.1,x.2::y.2)) s= .ok (t',ms) s' from h);let⟨y,s3,h3,h4⟩:=M.aQ h2;obtain⟨e,rfl⟩:=bG h4;cases e;obtain⟨a,s1,g1,rfl,rfl⟩:=alO h1;have R9:bH s1:=(Tt.hU P hl nt ops o t).cG (s:=⟨s.h,s.nx,s.nx,[],[]⟩) ⟨Tz _,fi.nx⟩ g1;have fle:s.nx<=s1.nx:=(Tt.hU P hl nt ops o t).le (s:=⟨s.h,s.nx,s.nx,[],[]⟩) ⟨Tz _,fi.nx⟩ g1;have dO:bH ⟨s1.h,s1.nx,s.mark,below s.mark s1.rd++s.rd,below s.mark s1.wr++s.wr⟩:=⟨TO fi.mark fle,R9.nx⟩;let⟨f3,H,N,T,a1,a2,a3,a4,a5,a6,a7,a8⟩:=alY hl l (i+1) (t':=y.1) (ms:=y.2) dO h3;refine⟨f3,fun k=>match k with|0=>s.h|k+1=>H k,fun k=>match k with|0=>s.nx|k+1=>N k,fun k=>match k with|0=>t|k+1=>T k,rfl,rfl,rfl,a4,a5,a6,?_,?_⟩
  ·intro k hk;cases k with
   |zero=>exact fi.nx
   |succ k=>exact a7 k (by simpa using hk)
  ·intro k o2 hk;cases k with
   |zero=>simp only[UA,Ud] at hk;subst hk;refine⟨_,s1,rfl,rfl,⟨rfl,a2.symm,?_,a1.symm,a2.symm,rfl,rfl⟩⟩;show hU P Tu nt ops o t ⟨s.h,s.nx,s.nx,[],[]⟩= .ok (T 0) s1;rw[a3];exact g1
   |succ k=>simp only[Wh] at hk;let⟨x,s4,b1,b2,b3⟩:=a8 k o2 hk;exact⟨x,s4,by simpa using b1,by rw[b2];omega,⟨b3.lo,b3.hi,b3.run,b3.h,b3.nx,b3.rd,b3.wr⟩⟩
structure Text (P:Program) (Tu:aJ) (ops:Array Oper) (nt:Nat) (H:Nat->Tr ah) (N:Nat->Nat) (T:Nat->Tr AV) (Rd Wr:Nat->Nat->Prop):Prop where
 top:∀k,k<=ops.size->N k<=Rn.top
 up:∀k,k<ops.size->N k<=N (k+1)
 nr:∀k m,k<ops.size->¬Wr k m->m<Rn.top->(H<|k+1).get m=(H k).get m
 made:∀k m,k<ops.size->N k<=m->m<N (k+1)->Wr k m
 wrote:∀k m,k<ops.size->Wr k m->m<N (k+1)/\(m<N k->Rd k m)
 slot:∀k o d,ops[k]? =some o->o.dst≠some d->(T<|k+1).get d=(T k).get d
 apart:∀i j m,i<ops.size->j<ops.size->i≠j->loose (T1 ops) i j=true->Wr i m->¬Rd j m
 again:∀j o,ops[j]? =some o->∀(h:Tr ah),(∀m,m<Rn.top->Rd j m->h.get m=(H j).get m)->∃t1,hU P Tu nt ops o (T j) ⟨h,N j,N j,[],[]⟩= .ok (T<|j+1) t1/\t1.nx=N (j+1)/\
  (∀m,Wr j m->t1.h.get m=(H<|j+1).get m)/\(∀m,¬Wr j m->m<Rn.top->t1.h.get m=h.get m)
theorem afi(hl:∀t a,Tt<|Tu t a)(jt:nt<=top){t t':Tr AV}{s s':AS}{ms:List Met}(fi:bH s)(h:nL P Tu nt ops ops.toList 0 t s= .ok (t',ms) s')(hm:qU (T1 ops) ms ms=true):
 bH s'/\∃(H:Nat->Tr ah) (N:Nat->Nat) (T:Nat->Tr AV) (Rd Wr:Nat->Nat->Prop),H 0=s.h/\N 0=s.nx/\T 0=t/\H ops.size=s'.h/\N ops.size=s'.nx/\T ops.size=t'/\Text P Tu ops nt H N T Rd Wr:=by
 let⟨f',H,N,T,a1,a2,a3,a4,a5,a6,a7,a8⟩:=alY hl ops.toList 0 fi h;have hlen:ops.toList.length=ops.size:=by simp
 rw[hlen] at a4 a5 a6 a7;refine⟨f',H,N,T,fun k m=>∃x,ms[k]? =some x/\m∈x.rd,fun k m=>∃x,ms[k]? =some x/\(m∈x.wr\/(N k<=m/\m<N (k+1))),a1,a2,a3,a4,a5,a6,?_⟩;have aw:∀k,k<ops.size->∃o x s1,ops[k]? =some o/\ms[k]? =some x/\x.i=k/\Rh P Tu ops nt H N T k o x s1:=by
  intro k hk;have ho:ops.toList[k]? =some ops[k]:=by simp[hk]
  let⟨x,s1,b1,b2,b3⟩:=a8 k _ ho;exact⟨ops[k],x,s1,Ur hk,b1,by omega,b3⟩
 have MP:∀k,k<ops.size->∀o x s1,Rh P Tu ops nt H N T k o x s1->∃dr dw,ME ⟨H k,N k,N k,[],[]⟩ s1 dr dw/\
  (∀A m0 t,QH A m0 ⟨H k,N k,N k,[],[]⟩ t->(∀q∈dr,q<m0->A q)->∃t1,hU P Tu nt ops o (T k) t= .ok (T<|k+1) t1/\YP A m0 s1 t t1 dr dw)/\(∀m,m∈x.rd↔m∈dr/\m<N k)/\(∀m,m∈x.wr↔m∈dw/\m<N k):=by
  intro k hk o x s1 hd;let⟨dr,dw,d1,d2⟩:=Tt.hU P hl nt ops o (T k) _ _ _ ⟨Tz _,a7 k ak⟩ hd.run;refine⟨dr,dw,d1,d2,fun m=>?_,fun m=>?_⟩
  ·rw[hd.rd,xV,d1.rd];simp
  ·rw[hd.wr,xV,d1.wr];simp
 refine⟨a7,?_,?_,?_,?_,?_,?_,?_⟩
 ·intro k hk;let⟨o,x,s1,_,_,_,hd⟩:=aw k hk;let⟨dr,dw,d1,_⟩:=MP k hk o x s1 hd;have:=d1.nx;rw[hd.nx] at this;exact this
 ·intro k m hk hw kJ;let⟨o,x,s1,_,hx,_,hd⟩:=aw k hk;let⟨dr,dw,d1,_,_,d4⟩:=MP k hk o x s1 hd;rw[←hd.h];by_cases q:m<N k
  ·refine d1.same m q fun e=>hw ⟨_,hx,.inl<|(d4 m).2 ⟨e,q⟩⟩
  ·refine d1.tf m ?_ kJ;rw[hd.nx];rcases UX m (N<|k+1) with q2|q2
   ·exact absurd ⟨_,hx,.inr ⟨by omega,q2⟩⟩ hw
   ·exact q2
 ·intro k m hk h1 h2;let⟨o,x,s1,_,hx,_,hd⟩:=aw k hk;exact⟨x,hx,.inr ⟨h1,h2⟩⟩
 ·rintro k m hk ⟨x',rF,hw⟩;let⟨o,x,s1,_,hx,_,hd⟩:=aw k hk;rw[hx] at rF;cases rF;let⟨dr,dw,d1,_,d3,d4⟩:=MP k hk o _ s1 hd;have IA:=d1.nx;rw[hd.nx] at IA;have aki:N k<=N (k+1):=IA;rcases hw with hw|⟨h1,h2⟩
  ·let⟨e1,e2⟩:=(d4 m).1 hw;exact⟨by omega,fun _=>⟨_,hx,(d3 m).2 ⟨d1.sub m e1,e2⟩⟩⟩
  ·exact⟨h2,fun q=>by omega⟩
 ·intro k o d ho cz;have hk:k<ops.size:=(UR.1 ho).1;let⟨o',x,s1,ll,hx,_,hd⟩:=aw k hk;rw[ho] at ll;cases ll;let⟨v,hv,_⟩:=aaR (u:=T k) (fun _ _=>rfl) hd.run;rcases D3 hv with⟨_,e⟩|⟨d',e1,e2,e3⟩
  ·rw[e]
  ·rw[e3,Tr.mh _ _ _ _<|TJ e2 jt,if_neg (by intro e;subst e;exact cz e1)]
 ·rintro i j m hi hj cz agY ⟨x',rF,hw⟩ ⟨y',xp,hr⟩;let⟨_,x,s1,_,hx,xi,hd⟩:=aw i hi;let⟨_,y,s2,_,hy,yi,he⟩:=aw j hj;rw[hx] at rF;cases rF;rw[hy] at xp;cases xp;rcases alX hm _ (TY hx) with q|q
  ·unfold uq at q;split at q
   ·rename_i hwr;rcases hw with hw|⟨h1,h2⟩
    ·rw[hwr] at hw;cases hw
    ·have:=aI.1 q;rw[hd.lo,hd.hi] at this;omega
   ·cases q
  ·rcases aad q _ (TY hy) with e|e|e
   ·rw[xi,yi] at e;exact cz e
   ·unfold uo at e;simp only[TW,Wg] at e;rcases hw with hw|⟨h1,h2⟩
    ·exact aaF e.1 m hw hr
    ·exact aaG e.2 m hr ⟨by rw[hd.lo];exact h1,by rw[hd.hi];exact h2⟩
   ·rw[xi,yi,agY] at e;cases e
 ·intro j o ho h' hag;have hj:j<ops.size:=(UR.1 ho).1;let⟨o',x,s1,ll,hx,_,hd⟩:=aw j hj;rw[ho] at ll;cases ll;let⟨dr,dw,d1,d2,d3,d4⟩:=MP j hj o x s1 hd;let⟨t1,c1,c2⟩:=d2 (fun m=>∃x,ms[j]? =some x/\m∈x.rd) (N j) ⟨h',N j,N j,[],[]⟩
   ⟨rfl,rfl,Tz _,fun k hk cV=>by
    rcases cV with cV|cV
    ·exact(hag k (TJ hk<|a7 j ak) cV).symm
    ·exact absurd hk<|Nat.not_lt.2 cV⟩ (fun q hq ct=>⟨x,hx,(d3 q).2 ⟨hq,ct⟩⟩)
  have cM:t1.nx=N (j+1):=by rw[←c2.agree.nx,hd.nx]
  refine⟨t1,c1,cM,?_,?_⟩
  ·rintro m ⟨x',rF,hw⟩;rw[hx] at rF;cases rF;rw[←hd.h];have IA:=d1.nx;rw[hd.nx] at IA;have aki:N j<=N (j+1):=IA;symm;rcases hw with hw|⟨h1,h2⟩
   ·let⟨e1,e2⟩:=(d4 m).1 hw;exact c2.agree.is m (by rw[hd.nx];omega)<|.inl ⟨x,hx,(d3 m).2 ⟨d1.sub m e1,e2⟩⟩
   ·exact c2.agree.is m (by rw[hd.nx];exact h2)<|.inr h1
  ·intro m hw kJ;by_cases q:m<N j
   ·exact c2.same m q fun e=>hw ⟨_,hx,.inl<|(d4 m).2 ⟨e,q⟩⟩
   ·refine c2.tf m ?_ kJ;rw[hd.nx];rcases UX m (N<|j+1) with q2|q2
    ·exact absurd ⟨_,hx,.inr ⟨by omega,q2⟩⟩ hw
    ·exact q2
end
end
section
variable {ρ:Ren} {w:World} {t:Tr AV} {listed:Array Bool} {j:Nat} {a:Act}
section
variable {P:Program} {B:aE} {Tu:aJ} {ops:Array Oper} {nt:Nat} {H:Nat->Tr ah} {N:Nat->Nat} {T:Nat->Tr AV} {Rd Wr:Nat->Nat->Prop}
def kz(listed:Array Bool)(i:Nat):Prop:=listed.getD i false=true
def Cut(n:Nat)(W:Nat->Prop)(D:Nat->Prop)(c:Nat):Prop:=c<=n/\∀i,i<n->W i->(D i↔i<c)
theorem aaS{α:Type}{f:Nat->α}{n:Nat}{W:Nat->Prop}(hk:∀k,k<n->¬W k->f (k+1)=f k):∀(m c:Nat),c+m<=n->(∀i,c<=i->i<c+m->¬W i)->f (c+m)=f c
 |0,_,_,_=>rfl
 |m+1,c,hn,hw=>by have h1:=hk (c+m) ak<|hw (c+m) ak ak;rw[show c+(m+1)=c+m+1 from rfl,h1];exact aaS hk m c ak fun i h1 h2=>hw i h1 ak
theorem JL{α:Type}{f:Nat->α}{n:Nat}{W D:Nat->Prop}(hk:∀k,k<n->¬W k->f (k+1)=f k){c c':Nat}(h:Cut n W D c)(h':Cut n W D c'):f c=f c':=by
 have key:∀{a b:Nat},Cut n W D a->Cut n W D b->a<=b->f b=f a:=by intro a b ha hb Iv;obtain⟨m,rfl⟩:∃m,b=a+m:=⟨b - a,by omega⟩;refine aaS hk m a hb.1 fun i h1 h2 hw=>?_;have iN:i<n:=TJ h2 hb.1;have:=(ha.2 i iN hw).1<|(hb.2 i iN hw).2 h2;omega
 rcases Nat.le_total c c' with q|q
 ·exact(key h h' q).symm
 ·exact key h' h q
theorem Ac(x:Text P Tu ops nt H N T Rd Wr):∀{i j:Nat},i<=j->j<=ops.size->N i<=N j:=by
 intro i j lZ hj;obtain⟨m,rfl⟩:∃m,j=i+m:=⟨j - i,by omega⟩;clear lZ;induction m with
 |zero=>exact Tz _
 |succ m ih=>exact TO (ih ak)<|x.up (i+m) ak
structure Inv (B:aE) (ops:Array Oper) (nt:Nat) (H:Nat->Tr ah) (N:Nat->Nat) (T:Nat->Tr AV) (Wr:Nat->Nat->Prop) (wL:Ren) (LZ:World) (L5:Act) (listed:Array Bool) (a:Act) (w:World) (h:Tr ah) (t:Tr AV) (ρ:Ren):Prop where
 rel:Rel B ρ h w
 tr:TR ρ nt t a.tmps
 le:wL.le ρ
 new:∀m,m<top->ρ m≠wL m->∃i,i<ops.size/\kz listed i/\N i<=m/\m<N (i+1)
 heap:∀m,m<top->∃c,Cut ops.size (fun i=>Wr i m) (kz listed) c/\h.get m=(H c).get m
 EK:∀d,∃c,Cut ops.size (fun i=>∃o,ops[i]? =some o/\o.dst=some d) (kz listed) c/\t.get d=(T c).get d
 below:cI B LZ w
 defers:a.defers=L5.defers
 closed:∀(j:Nat) (o:Oper) (e:Edge),ops[j]? =some o->kz listed j->e∈o.after->Region.binds .any e=true->kz listed e.on
theorem GK(hj:j<listed.size)(i:Nat):kz (listed.setIfInBounds j true) i↔i=j\/kz listed i:=by
 unfold kz;simp only[Ua];by_cases e:i=j
 ·subst e;rw[Vg hj];simp
 ·rw[Vh<|Ne.symm e];simp[e]
theorem OS(A7:Ll ops)(x:Text P Tu ops nt H N T Rd Wr)(hc:gk P B Tu)(hl:∀t a,Tt<|Tu t a)(jt:nt<=top){wL:Ren}(hg:gG wL)(mq:dU (N 0) (N ops.size) wL){LZ:World}{L5:Act}{o:Oper}(hs:listed.size=ops.size){h:Tr ah}(inv:Inv B ops nt H N T Wr wL LZ L5 listed a w h t ρ)(ho:ops[j]? =some o)(hj:listed.getD j true=false)(XG:∀e∈o.after,Region.binds .any e=true->listed.getD e.on false=true)(b:Frame)(k:List Item)(cs:List Frame)(rest:List Nat):
 ∃a' w' h' t' gU,Inv B ops nt H N T Wr wL LZ L5 (listed.setIfInBounds j true) a' w' h' t' gU/\Steps P (lone (b.atR a<|.inRegion ops (j::rest)::k) cs w) (lone (b.atR a'<|.inRegion ops rest::k) cs w'):=by
 have A8:j<ops.size:=(UR.1 ho).1;have A9:¬kz listed j:=by unfold kz;rw[Ua,Ur ak] at hj ⊢;simp at hj ⊢;exact hj
 have YT:=abg A7.Yf (kz listed) inv.closed;have ordered:∀i,i≠j->loose (T1 ops) i j=false->(kz listed i↔i<j):=by
  intro i lZ eY;unfold loose at eY;simp only[Bool.not_eq_false',U0] at eY;rcases eY with q|q
  ·let⟨h1,h2,_⟩:=YT i i j (Tz _) q;exact⟨fun hd=>absurd (h2 hd) A9,fun e=>by omega⟩
  ·let⟨h1,_,h3⟩:=YT j j i (Tz _) q;exact⟨fun _=>h1,fun _=>h3 fun o' e ll hm hb=>by rw[ho] at ll;cases ll;exact XG e hm hb⟩
 have agZ:∀i,loose (T1 ops) i j=loose (T1 ops) j i:=by intro i;unfold loose;rw[Bool.or_comm]
 have cutAt:∀(W:Nat->Prop),(∀i,i<ops.size->W i->i≠j->loose (T1 ops) i j=false)->Cut ops.size W (kz listed) j:=by
  intro W hW;refine⟨U1 A8,fun i hi hw=>?_⟩;by_cases e:i=j
  ·subst e;exact⟨fun hd=>absurd hd A9,fun q=>absurd q<|US _⟩
  ·exact ordered i e<|hW i hi hw e
 have anw:∀(W:Nat->Prop),(∀i,i<ops.size->W i->i≠j->loose (T1 ops) i j=false)->Cut ops.size W (kz<|listed.setIfInBounds j true) (j+1):=by
  intro W hW;refine⟨A8,fun i hi hw=>?_⟩;rw[GK ak];by_cases e:i=j
  ·subst e;exact⟨fun _=>UT _,fun _=>.inl rfl⟩
  ·have:=ordered i e<|hW i hi hw e;constructor
   ·rintro (q|q)
    ·exact absurd q e
    ·have:=this.1 q;omega
   ·intro q;exact .inr<|this.2 ak
 have anx:∀(W:Nat->Prop) (c:Nat),¬W j->Cut ops.size W (kz listed) c->Cut ops.size W (kz<|listed.setIfInBounds j true) c:=by
  intro W c hW YU;refine⟨YU.1,fun i hi hw=>?_⟩;rw[GK ak];have lZ:i≠j:=by intro e;subst e;exact hW hw
  rw[←YU.2 i hi hw];exact⟨fun q=>q.resolve_left lZ,.inr⟩
 have anz:∀i m,i<ops.size->i≠j->Wr i m->Rd j m->loose (T1 ops) i j=false:=by
  intro i m hi lZ hw hr;cases q:loose (T1 ops) i j with
  |false=>rfl
  |true=>exact absurd hr<|x.apart i j m hi A8 lZ q hw
 have aok:∀m,m<N j->m<top:=fun m hm=>TJ hm<|x.top j ak;have ais:∀m,m<top->Rd j m->h.get m=(H j).get m:=by intro m hm hr;let⟨c,j8,xu⟩:=inv.heap m hm;rw[xu];exact JL (f:=fun c=>(H c).get m) (fun k hk hw=>x.nr k m hk hw hm) j8<|cutAt _ fun i hi hw lZ=>anz i m hi lZ hw hr
 have ait:∀d∈o.looksAt ops,(T j).get d=t.get d:=by
  intro d hd;let⟨c,j8,xu⟩:=inv.EK d;rw[xu];refine JL (f:=fun c=>(T c).get d) (fun k hk hw=>?_) (cutAt _ ?_) j8
  ·have fH:ops[k]? =some ops[k]:=Ur hk;exact x.slot k _ d fH fun e=>hw ⟨_,fH,e⟩
  ·rintro i hi ⟨y,hy,IB⟩ lZ;exact A7.EK i j y o d lZ hy ho IB<|.inl hd
 let⟨t1,c1,c2,c3,c4⟩:=x.again j o ho h ais;let⟨v,v1,v2⟩:=aaR ait c1;obtain⟨u1,Sa⟩:∃u1,jD nt t o.dst v=some u1:=by
  rcases D3 v1 with⟨e,_⟩|⟨d,e,hd,_⟩
  ·rw[e];exact⟨t,rfl⟩
  ·rw[e];refine⟨t.put d<|some v,?_⟩;show @Bool.rec (fun _=>Option<|Tr AV) none (some<|t.put d<|some v) (Tv d nt)=_;rw[zW,if_pos hd]
 have ri:=v2 u1 Sa;have hNj:N j<=N (j+1):=x.up j A8;have bI:dU (N j) (N<|j+1) ρ:=by
  intro m h1 h2 kJ;have e0:wL m=none:=mq m (TO (Ac x (TN j) ak) h1) (TJ h2<|Ac x A8<|Tz _) kJ;by_cases e:ρ m=wL m
  ·rw[e];exact e0
  ·exfalso;let⟨i,hi,Sb,p1,p2⟩:=inv.new m kJ e;have lZ:i≠j:=by intro q;subst q;exact A9 Sb
   rcases UX i j with q|q
   ·have:=Ac x (show i+1<=j from q) ak;omega
   ·have:=Ac x (show j+1<=i from by omega) ak;omega
 have ay:At B ρ ⟨h,N j,N j,[],[]⟩ nt t w a:=⟨inv.tr,inv.rel,hg.mono inv.le,jt,⟨Tz _,x.top j ak⟩⟩;let⟨σ,a',w',g1,g2,g3,g4,g5⟩:=amG hc hl ho ay (by rw[c2];exact bI) ri b k cs rest;rw[c2] at g1;refine⟨a',w',t1.h,u1,σ,⟨g2.rel,g2.tr,Ren.le_trans inv.le g1.le,?_,?_,?_,inv.below.trans g4,g3.trans inv.defers,?_⟩,g5⟩
 ·intro m kJ hm;by_cases e:ρ m=wL m
  ·by_cases q:N j<=m/\m<N (j+1)
   ·exact⟨j,A8,(GK ak j).2<|.inl rfl,q.1,q.2⟩
   ·exact absurd ((g1.out m kJ q).trans e) hm
  ·let⟨i,hi,Sb,p⟩:=inv.new m kJ e;exact⟨i,hi,(GK ak i).2<|.inr Sb,p⟩
 ·intro m hm;by_cases q:Wr j m
  ·refine⟨j+1,anw _ fun i hi hw lZ=>?_,c3 m q⟩;let⟨w1,w2⟩:=x.wrote j m A8 q;by_cases e:m<N j
   ·exact anz i m hi lZ hw<|w2 e
   ·let⟨y1,y2⟩:=x.wrote i m hi hw;have him:m<N i:=by
     rcases UX i j with r|r
     ·have:=Ac x (show i+1<=j from r) ak;omega
     ·have:=Ac x (show j+1<=i from by omega) ak;omega
    cases zi:loose (T1 ops) i j with
    |false=>rfl
    |true=>rw[agZ] at zi;exact absurd (y2 him)<|x.apart j i m A8 hi (Ne.symm lZ) zi q
  ·let⟨c,j8,xu⟩:=inv.heap m hm;exact⟨c,anx _ c q j8,(c4 m q hm).trans xu⟩
 ·intro d;by_cases q:o.dst=some d
  ·refine⟨j+1,anw _ fun i hi hw lZ=>?_,?_⟩
   ·let⟨y,hy,IB⟩:=hw;exact A7.EK i j y o d lZ hy ho IB<|.inr q
   ·rcases D3 v1 with⟨e,_⟩|⟨d1,e,hd,e3⟩
    ·rw[e] at q;cases q
    ·rw[q] at e;cases e;rcases D3 Sa with⟨e,_⟩|⟨d2,e,MQ,e4⟩
     ·rw[e] at q;cases q
     ·rw[q] at e;cases e;rw[e3,e4,Tr.mh _ _ _ _<|TJ hd jt,Tr.mh _ _ _ _<|TJ hd jt,if_pos rfl,if_pos rfl]
  ·let⟨c,j8,xu⟩:=inv.EK d;refine⟨c,anx _ c (fun hw=>?_) j8,?_⟩
   ·let⟨y,hy,IB⟩:=hw;rw[ho] at hy;cases hy;exact q IB
   ·rw[←xu];rcases D3 Sa with⟨_,e⟩|⟨d2,e,MQ,e4⟩
    ·rw[e]
    ·rw[e4,Tr.mh _ _ _ _<|TJ MQ jt,if_neg (by intro r;subst r;exact q e)]
 ·intro j' o' e ll hd hm hb;rw[GK ak] at hd ⊢;rcases hd with rfl|hd
  ·rw[ho] at ll;cases ll;exact .inr<|XG e hm hb
  ·exact .inr<|inv.closed j' o' e ll hd hm hb
theorem Oh(n i:Nat):¬kz (Us n false) i:=by
 unfold kz;rw[Ua];by_cases h:i<n
 ·simp[h]
 ·simp[h]
theorem abK(bR:P.follows .mixedOrders=true)(A7:Ll ops)(hc:gk P B Tu)(hl:∀t a,Tt<|Tu t a){id:Nat}{t1:Tr AV}{s s1:AS}(ay:At B ρ s nt t w a)(hf:dU s.nx s1.nx ρ)(h:qM P Tu nt ops t s= .ok t1 s1)(b:Frame)(k:List Item)(cs:List Frame):
 Fj P B ρ s s1 nt t1 w a (lone (b.atR a<|.code (.region id ops true)::k) cs w) (fun a' w'=>lone (b.atR a' k) cs w'):=by
 let⟨⟨t',ms⟩,s',h1,h2⟩:=M.aQ (show((nL P Tu nt ops ops.toList 0 t).bind fun x=>aG (qU (T1 ops) x.2 x.2) <| M.pure x.1) s= .ok t1 s1 from h);let⟨h3,h4⟩:=dv h2;obtain⟨rfl,rfl⟩:=bG h4;let⟨f',H,N,T,Rd,Wr,a1,a2,a3,a4,a5,a6,x⟩:=afi hl ay.nt ay.cG h1 h3;have mq:dU (N 0) (N ops.size) ρ:=by rw[a2,a5];exact hf
 let w1:World:={w with drawn:=w.drawn+1};have akj:Rel B ρ s.h w1:=ay.rel.Fi<|iq.drew w;have akk:Inv B ops nt H N T Wr ρ w a (Us ops.size false) a w1 s.h t ρ:=by refine⟨akj,ay.tr,Ren.le_refl ρ,fun m _ hm=>absurd rfl hm,fun m _=>⟨0,⟨TN _,fun i _ _=>⟨fun q=>absurd q<|Oh _ _,fun q=>absurd q<|Wb _⟩⟩,by rw[a1]⟩,fun d=>⟨0,⟨TN _,fun i _ _=>⟨fun q=>absurd q<|Oh _ _,fun q=>absurd q<|Wb _⟩⟩,by rw[a3]⟩,(iq.drew w).below ay.rel.size,rfl,fun j o e _ q=>absurd q<|Oh _ _⟩
 let⟨l',a',w',z1,z2,⟨h',t',gU,inv⟩,z3⟩:=acU (P:=P) A7.Yf b k cs (fun listed a2 w2=>∃h' t' gU,Inv B ops nt H N T Wr ρ w a listed a2 w2 h' t' gU)
  (fun listed a2 w2 i o rest q1 ⟨h',t',gU,inv⟩ q3 q4 q5=>by let⟨a3,w3,h3,t3,ρ3,i3,st⟩:=OS A7 x hc hl ay.nt ay.g mq q1 inv q3 q4 q5 b k cs rest;exact⟨a3,w3,⟨h3,t3,ρ3,i3⟩,st⟩)
  ops.size (w.tape w.drawn<|.order b.fn id) (Us ops.size false) a w1 j0 (ad5 _) ⟨s.h,t,ρ,akk⟩
 have all:∀(W:Nat->Prop),Cut ops.size W (kz l') ops.size:=fun W=>⟨Tz _,fun i hi _=>⟨fun _=>hi,fun _=>z2 i hi⟩⟩;have akl:∀m,m<top->s1.h.get m=h'.get m:=by intro m hm;let⟨c,c1,c2⟩:=inv.heap m hm;rw[c2, ←a4];exact JL (f:=fun c=>(H c).get m) (fun k hk hw=>x.nr k m hk hw hm) (all _) c1
 have akm:∀d,t'.get d=(T ops.size).get d:=by intro d;let⟨c,c1,c2⟩:=inv.EK d;rw[c2];refine JL (f:=fun c=>(T c).get d) (fun k hk hw=>?_) c1<|all _;have fH:ops[k]? =some ops[k]:=Ur hk;exact x.slot k _ d fH fun e=>hw ⟨_,fH,e⟩
 refine⟨gU,a',w',⟨inv.le,fun m kJ hm=>?_⟩,⟨?_,inv.rel.congr akl,ay.g.mono inv.le,ay.nt,f'⟩,inv.defers,inv.below,?_⟩
 ·by_cases e:gU m=ρ m
  ·exact e
  ·exfalso;let⟨i,hi,_,p1,p2⟩:=inv.new m kJ e;have q1:=Ac x (TN i) ak;have q2:=Ac x (show i+1<=ops.size from hi)<|Tz _;exact hm ⟨by omega,by omega⟩
 ·rw[←a6];exact⟨inv.tr.1,fun i x hx=>inv.tr.2 i x (by rw[akm i];exact hx)⟩
 ·refine .head stepR_region_draw ?_;simp only[Region.schedule,bR,Bool.true_or,if_true];exact z3
end
end
section
variable {l bl N:Nat} {σ:Ren} {r:Loop}
def G3(ρ:Ren):Option Nat->Option Nat->Prop
 |none,none=>True
 |some l,some b=>∃N,ρ l=some (b,N)
 |_,_=>False
theorem G3.mono{ρ:Ren}(h:ρ.le σ):∀{x y:Option Nat},G3 ρ x y->G3 σ x y
 |none,none,k=>k
 |some _,some _,⟨N,e⟩=>⟨N,h _ _ e⟩
 |none,some _,k=>k
 |some _,none,k=>k
def wZ(ρ:Ren):List Nat->List Deferred->Prop
 |[],l=>l=[]
 |d::ds,l=>∃b N r,l={target:=.collected b,args:= #[]}::r/\ρ d=some (b,N)/\wZ ρ ds r
theorem wZ.mono{ρ:Ren}(h:ρ.le σ):∀{x:List Nat} {y:List Deferred},wZ ρ x y->wZ σ x y
 |[],_,k=>k
 |_::_,_,⟨b,N,r,e,a,d⟩=>⟨b,N,r,e,h _ _ a,d.mono h⟩
def bw.fr:bw->AF
 | .go fr=>fr
 | .leave fr _=>fr
def Leaves(j:Option Code)(todo:List Item):Prop:=
 match j with
 |none=>todo=[]
 |some .ret=>∃k,todo= .code .ret::k
 |some (.exit id)=>∃k,todo= .code (.exit id)::k/\exitTo id k=none
 |some (.goto l)=>∃k,todo= .code (.goto l)::k/\gotoIn l k=none
 |_=>False
def bw.ok:bw->Prop
 | .go _=>True
 | .leave fr j=>Leaves j fr.todo
theorem Leaves.code{j:Option Code}{todo:List Item}(h:Leaves j todo):∀c,j=some c->iS c:=by intro c e;subst e;cases c<;>first|trivial|cases h
structure Fr (ρ:Ren) (af:AF) (b:Frame) (a:Act):Prop where
 fn:b.fn=af.fn
 kind:b.kind= .normal
 round:G3 ρ af.round b.roundOf
 defs:wZ ρ af.defers a.defers
 ok:jQ af.todo
def mw(P:Program)(B:aE)(ρ:Ren)(s s1:AS)(w:World)(af:AF)(b:Frame)(cs:List Frame)(m:Machine)(x:bw):Prop:=∃σ a' w',Ext s.nx s1.nx ρ σ/\At B σ s1 af.nt x.fr.tmps w' a'/\wZ σ x.fr.defers a'.defers/\cI B w w'/\(x.fr.fn=af.fn/\x.fr.nt=af.nt/\x.fr.round=af.round)/\jQ x.fr.todo/\x.ok/\Steps P m (lone (b.atR a' x.fr.todo) cs w')
section
variable {P:Program} {B:aE} {ρ:Ren} {w:World} {s s1:AS} {Tu:aJ} {b:Frame} {a:Act} {cs:List Frame}
theorem DQ(hb:w.heap[l]? =some (.loop r)):(Instr.getLoop l).run P w= .ok r w:=by simp[Instr.getLoop,getObj,Sem.run,hb]
theorem Nw{o:Obj}(hb:w.heap[l]? =some (.loop r)):(setObj l o).run P w= .ok () {w with heap:=w.heap.setIfInBounds l o}:=by simp[setObj,Sem.run,hb]
theorem DT{o:ah}(h:getLoop l s= .ok o s1):bA l s= .ok o s1/\∃st bU fn t nt ps aa bb d,o= .loop st bU fn t nt ps aa bb d:=by
 unfold getLoop at h;let⟨o',s2,h1,h2⟩:=M.aQ h;split at h2
 ·obtain⟨rfl,rfl⟩:=bG h2;exact⟨h1,_,_,_,_,_,_,_,_,_,rfl⟩
 ·cases h2
theorem OT{st br:LoopState}{bU Hm:Option Code}{fn nt d:Nat}{t:Tr AV}{ps:List Tmp}{aa bb:Code}{u:Unit}{s2:AS}(fi:bH s)(r:Rel B ρ s.h w)(hg:bA l s= .ok (.loop st bU fn t nt ps aa bb d) s2)(hl:ρ l=some (bl,N))(fH:∀c,Hm=some c->iS c)(h:bS l (some<|.loop br Hm fn t nt ps aa bb d) s2= .ok u s1):
 s1.nx=s.nx/\∃q:Loop,w.heap[bl]? =some (.loop q)/\q.state=st/\q.pending=bU/\q.fn=fn/\TR ρ nt t q.tmps/\q.params=ps.toArray/\q.assign=aa/\q.body=bb/\nt<=top/\G1 bU aa bb/\Rel B ρ s1.h {w with heap:=w.heap.setIfInBounds bl<|.loop {q with state:=br,pending:=Hm}}/\cI B w {w with heap:=w.heap.setIfInBounds bl<|.loop {q with state:=br,pending:=Hm}}:=by
 let⟨hx,jk,hh,cM⟩:=gr hg;have ht:l<top:=TJ hx fi.nx;let⟨o',hb,hO,hB⟩:=r.block ht jk hl;obtain⟨ta,db,M,rfl,zk,jt,hd,eY⟩:=hO;let⟨_,_,_,e1,e2⟩:=jP h;let⟨g3,g4⟩:=DS (o':=.loop {state:=br,pending:=Hm,fn:=fn,tmps:=ta,params:=ps.toArray,assign:=aa,body:=bb,defers:=db}) hb;refine⟨by rw[e2,cM],_,hb,rfl,rfl,rfl,zk,rfl,rfl,rfl,jt,eY,?_,g3.below<|hB rfl⟩;rw[e1,hh];exact r.put ht jk rfl rfl hl rfl g3 g4 ⟨ta,db,M,rfl,zk,jt,hd,fH,eY.assign,eY.body⟩
theorem aaq{p:Option Code}(fi:bH s)(r:Rel B ρ s.h w)(hl:ρ l=some (bl,N))(h:mj l s= .ok p s1):
 s1.nx=s.nx/\(∀c,p=some c->iS c)/\∃w',(Instr.endLoop bl).run P w= .ok p w'/\Rel B ρ s1.h w'/\cI B w w':=by
 unfold mj at h;let⟨o,s2,h1,h2⟩:=M.aQ h;obtain⟨h3,st,bU,fn,t,nt,ps,aa,bb,d,rfl⟩:=DT h1;let⟨h4,h5⟩:=dv h2;let⟨u,s3,h6,h7⟩:=M.aQ h5;obtain⟨rfl,rfl⟩:=bG h7;have jk:=(gr h3);have fH:∀c,p=some c->iS c:=by let⟨o',hb,hO,_⟩:=r.block (TJ jk.1 fi.nx) jk.2.1 hl;let⟨_,_,_,_,_,_,_,eY⟩:=hO;exact eY.bU
 let⟨e1,q,e2,e3,e4,_,_,_,_,_,_,_,e5,e6⟩:=OT fi r h3 hl fH h6;refine⟨e1,fH,_,?_,e5,e6⟩;have cz:(q.state == LoopState.busy)=false:=by rw[e3];cases st<;>first|rfl|cases h4
 simp only[Instr.endLoop,TF,DQ e2,TH,cz,UK,if_false,Nw e2,TK,e4]
theorem aaa{g:Operand}{ps:Array Tmp}{assign body:Code}{k:List Item}{mark:List Deferred}{L6:World}{R:Value->World->Prop}(he:(Instr.enterLoop b.fn a.tmps ps assign body b.roundOf).run P w= .ok (l,mark) L6)(h:jj P ((do let d ←Deferred.ofValue (a.eval g) #[.func (.yield l) #[] #[]];invoke d.target d.args:Sem Next).run P L6) R):
 ∃v w',R v w'/\Steps P (lone (b.atR a<|.code (.rangeFunc g ps assign body)::k) cs w) (lone (b.atR {a with defers:=mark++a.defers}<|.endRangeFunc l::k) cs w'):=by
 have FK:=Frame.eval_atR b {a with defers:=mark++a.defers}<|.inRangeFunc l::k;simp only[Frame.atR] at FK;have lT:(do let d ←resolve ({tmps:=a.tmps,defers:=mark++a.defers}:Act).eval {callee:=.value g,args:= #[.const<|.func (.yield l) #[] #[]],argTypes:= #[]} 0;invoke d.target d.args:Sem Next)=
  (do let d ←Deferred.ofValue (a.eval g) #[.func (.yield l) #[] #[]];invoke d.target d.args:Sem Next):=by
  have e1:({tmps:=a.tmps,defers:=mark++a.defers}:Act).eval g=a.eval g:=by cases g<;>rfl
  have e2:(#[Operand.const<|Value.func (Fn.yield l) #[] #[]]:Array Operand).map ({tmps:=a.tmps,defers:=mark++a.defers}:Act).eval= #[Value.func (Fn.yield l) #[] #[]]:=by simp[Act.eval]
  simp only[resolve,e1,e2]
 generalize hr:(do let d ←Deferred.ofValue (a.eval g) #[.func (.yield l) #[] #[]];invoke d.target d.args:Sem Next).run P L6=res at h;rw[←lT] at hr;have Lp:stepG P true {frame:=b.atR a<|.code (.rangeFunc g ps assign body)::k,callers:=cs,status:=.running,dying:=none} w=
  GStep.after (seen P b.fn ((Instr.enterLoop b.fn a.tmps ps assign body b.roundOf).runT P w #[]).2) (stepG.apply P true (b.atR {a with defers:=mark++a.defers}<|.inRangeFunc l::k) cs none (do let d ←resolve ({tmps:=a.tmps,defers:=mark++a.defers}:Act).eval {callee:=.value g,args:= #[.const<|.func (.yield l) #[] #[]],argTypes:= #[]} 0;invoke d.target d.args) L6):=by
  simp only[stepG,stepG.exec,Frame.atR,Sem.runT_eq,he,FK]
 unfold jj at h;split at h
 ·rename_i v w';refine⟨v,w',h,.one<|step_lone_go ?_⟩;rw[Lp,GStep.bare_after, ←finish_atR_inRangeFunc l v];simp[stepG.apply,hr]
 ·rename_i w';refine⟨undef,w',h,.one<|step_lone_go ?_⟩;rw[Lp,GStep.bare_after, ←finish_atR_inRangeFunc l undef];simp[stepG.apply,hr]
 ·rename_i f args w';obtain⟨e,nS,fr,⟨v,rfl,hR⟩,Cc,cv,P3⟩:=h<|b.atR {a with defers:=mark++a.defers} (.inRangeFunc l::k)::cs;have Cd:step P (lone (b.atR a<|.code (.rangeFunc g ps assign body)::k) cs w)= .next (lone (Frame.enter P f args .normal) (b.atR {a with defers:=mark++a.defers} (.inRangeFunc l::k)::cs) w'):=step_lone_go (by rw[Lp,GStep.bare_after];simp[stepG.apply,hr,Frame.atR])
  refine⟨v,nS,hR,.head Cd<|Steps.trans Cc<|.one ?_⟩;rw[←finish_atR_inRangeFunc l v];exact step_leave_returned P3
 ·rename_i l' f tmps afj aiu w';let⟨v,nS,hR,Cc⟩:=h (b.atR {a with defers:=mark++a.defers}<|.inRangeFunc l::k) cs;have Cd:step P (lone (b.atR a<|.code (.rangeFunc g ps assign body)::k) cs w)= .next (lone (Frame.round l' f tmps afj aiu .normal) (b.atR {a with defers:=mark++a.defers} (.inRangeFunc l::k)::cs) w'):=step_lone_go (by rw[Lp,GStep.bare_after];simp[stepG.apply,hr,Frame.atR])
  refine⟨v,nS,hR,.head Cd ?_⟩;rw[←finish_atR_inRangeFunc l v];exact Cc
 ·cases h
end
end
section
variable {t:Tr AV} {ps:Array Tmp} {k:List Item} {body assign:Code} {af:AF} {x:bw} {nt fn:Nat}
section
variable {P:Program} {B:aE} {ρ:Ren} {w:World} {s s1:AS} {Tu:aJ} {b:Frame} {a:Act} {cs:List Frame}
theorem DX(bI:Fr ρ af b a)(ay:At B ρ s af.nt af.tmps w a)(h1:x.fr.tmps=af.tmps)(h2:x.fr.defers=af.defers)(h3:x.fr.fn=af.fn/\x.fr.nt=af.nt/\x.fr.round=af.round)(h4:jQ x.fr.todo)(h5:x.ok)(h6:Steps P (lone (b.atR a af.todo) cs w)<|lone (b.atR a x.fr.todo) cs w):mw P B ρ s s w af b cs (lone (b.atR a af.todo) cs w) x:=⟨ρ,a,w,Ext.refl _ _ _,by rw[h1];exact ay,by rw[h2];exact bI.defs,cI.refl _ _,h3,h4,h5,h6⟩
theorem alZ{fr:AF}(bI:Fr ρ af b a)(hx:fr={af with tmps:=t,todo:=k})(hk:jQ k)(h:Fj P B ρ s s1 af.nt t w a (lone (b.atR a af.todo) cs w) fun a' w'=>lone (b.atR a' k) cs w'):mw P B ρ s s1 w af b cs (lone (b.atR a af.todo) cs w)<|.go fr:=by subst hx;let⟨σ,a',w',e1,e2,e3,e4,e5⟩:=h;exact⟨σ,a',w',e1,e2,by rw[e3];exact bI.defs.mono e1.le,e4,⟨rfl,rfl,rfl⟩,hk,trivial,e5⟩
theorem afk(ay:At B ρ s nt t w a)(h1:ρ s.nx=none)(h2:ρ (s.nx+1)=none)(l1:s.nx<top)(l2:s.nx+1<top)(eY:G1 none assign body):
 ∃σ,Ext s.nx (s.nx+2) ρ σ/\σ s.nx=some (w.heap.size,0)/\σ (s.nx+1)=some (w.heap.size+1,0)/\
  (Instr.enterLoop fn a.tmps ps assign body none).run P w= .ok (w.heap.size+1,[{target:=.collected w.heap.size,args:= #[]}]) {w with heap:=(w.heap.push<|.deferred<|some []).push<|.loop {state:=.ready,pending:=none,fn,tmps:=a.tmps,params:=ps,assign,body,defers:=w.heap.size}}/\
  Rel B σ ((s.h.put s.nx<|some .defs).put (s.nx+1)<|some<|.loop .ready none fn t nt ps.toList assign body s.nx) {w with heap:=(w.heap.push<|.deferred<|some []).push<|.loop {state:=.ready,pending:=none,fn,tmps:=a.tmps,params:=ps,assign,body,defers:=w.heap.size}}/\
  cI B w {w with heap:=(w.heap.push<|.deferred<|some []).push<|.loop {state:=.ready,pending:=none,fn,tmps:=a.tmps,params:=ps,assign,body,defers:=w.heap.size}}:=by
 have r1:=ay.rel.new (n:=s.nx) (o:=.defs) (o':=.deferred<|some []) (N:=0) l1 h1 rfl rfl;have vp:eW ρ s.nx (w.heap.size,0) (s.nx+1)=none:=by rw[gO ρ _ ak];exact h2
 have HH:ρ.le<|eW ρ s.nx (w.heap.size,0):=oh h1;have L7:(eW ρ s.nx (w.heap.size,0)).le<|eW (eW ρ s.nx (w.heap.size,0)) (s.nx+1) (w.heap.size+1,0):=oh vp;have j9:({w with heap:=w.heap.push<|.deferred<|some []}:World).heap.size=w.heap.size+1:=by simp
 have r2:=r1.new (n:=s.nx+1) (o:=.loop .ready none fn t nt ps.toList assign body s.nx) (o':=.loop {state:=.ready,pending:=none,fn,tmps:=a.tmps,params:=ps,assign,body,defers:=w.heap.size}) (N:=0) l2 vp rfl (by rw[j9];exact⟨a.tmps,w.heap.size,0,by simp,(ay.tr.mono HH).mono L7,ay.nt,L7 _ _<|jg _ _ _,eY⟩);rw[j9] at r2;refine⟨_,⟨Ren.le_trans HH L7,fun k _ hk=>?_⟩,L7 _ _<|jg _ _ _,jg _ _ _,?_,r2,?_⟩
 ·rw[gO _ _ ak,gO _ _ ak]
 ·simp only[Instr.enterLoop,TF,newObj,Sem.run,TH,TK];simp
 ·exact((iq.alloc w _).trans<|iq.alloc _ _).below ay.rel.size
theorem afl{l0 bl N:Nat}{st:LoopState}{bU:Option Code}{f0 FL d0:Nat}{t0:Tr AV}{FN:List Tmp}{a0 b0:Code}{s2:AS}(ay:At B ρ s nt t w a)(h1:ρ s.nx=none)(l1:s.nx<top)(eY:G1 none assign body)(hg:bA l0 s= .ok (.loop st bU f0 t0 FL FN a0 b0 d0) s2)(hl:ρ l0=some (bl,N)):
 ∃σ w',Ext s.nx (s.nx+1) ρ σ/\(∃bb M,σ s.nx=some (bb,M)/\(Instr.enterLoop fn a.tmps ps assign body<|some bl).run P w= .ok (bb,[]) w')/\Rel B σ (s.h.put s.nx<|some<|.loop .ready none fn t nt ps.toList assign body d0) w'/\cI B w w':=by
 let⟨hx,jk,hh,cM⟩:=gr hg;have ht:l0<top:=TJ hx ay.cG.nx;let⟨o',hb,hO,hB⟩:=ay.rel.block ht jk hl;obtain⟨ta,db,M,rfl,zk,jt,hd,_⟩:=hO;have HH:ρ.le<|eW ρ s.nx (w.heap.size,0):=oh h1;have r1:=ay.rel.new (n:=s.nx) (o:=.loop .ready none fn t nt ps.toList assign body d0) (o':=.loop {state:=.ready,pending:=none,fn,tmps:=a.tmps,params:=ps,assign,body,defers:=db}) (N:=0) l1 h1 rfl ⟨a.tmps,db,M,by simp,ay.tr.mono HH,ay.nt,HH _ _ hd,eY⟩;refine⟨_,_,Ext.cX h1,⟨w.heap.size,0,jg _ _ _,?_⟩,r1,(iq.alloc w _).below ay.rel.size⟩;simp only[Instr.enterLoop,TF,DQ hb,TH,TK,newObj,Sem.run]
theorem aab{p:Option Code}(hp:∀c,p=some c->iS c)(hk:jQ k):jQ<|andThen p k:=by
 cases p with
 |none=>exact hk
 |some c=>exact .cons (hp c rfl) hk
theorem aaT(p:Option Code)(k:List Item):(p.map Item.code).toList++k=andThen p k:=by cases p<;>rfl
theorem acW{f:Operand}(hc:gk P B Tu)(hl:∀t a,Tt<|Tu t a)(bI:Fr ρ af b a)(ay:At B ρ s af.nt af.tmps w a)(hf:dU s.nx s1.nx ρ)(pn:af.todo= .code (.rangeFunc f ps assign body)::k)(h:wt f ps.toList assign body Tu af.fn af.tmps af.nt af.defers af.round k s= .ok x s1):mw P B ρ s s1 w af b cs (lone (b.atR a af.todo) cs w) x:=by
 have ES:iS assign/\iS body:=by have:=bI.ok;rw[pn] at this;exact this.head
 have eY:G1 none assign body:=⟨(fun c e=>by cases e),ES.1,ES.2⟩;have hk:jQ k:=by have:=bI.ok;rw[pn] at this;exact this.tail
 unfold wt at h;cases hr:af.round with
 |none=>
  rw[hr] at h;have om:=bI.round;rw[hr] at om;have IC:b.roundOf=none:=by
   cases e:b.roundOf with
   |none=>rfl
   |some _=>rw[e] at om;cases om
  let⟨df,s2,h1,h⟩:=M.aQ h;let⟨l,s3,h2,h⟩:=M.aQ h;let⟨g,h3,h⟩:=bz h;let⟨y,s4,h4,h⟩:=M.aQ h;let⟨p,s5,h5,h⟩:=M.aQ h;obtain⟨rfl,rfl⟩:=bG h;obtain⟨t1,rfl,rfl⟩:=v8 h1;obtain⟨t2,rfl,rfl⟩:=v8 h2;have jH:bH {s with h:=(s.h.put s.nx<|some .defs).put (s.nx+1)<|some<|.loop .ready none af.fn af.tmps af.nt ps.toList assign body s.nx,nx:=s.nx+1+1}:=⟨by have:=ay.cG.mark;show s.mark<=s.nx+1+1;omega,t2⟩;have Db:=(Tt.nK hl _ _).le jH h4;have pK:=(Tt.nK hl _ _).cG jH h4;have Sc:=(Tt.mj _).le pK h5;have Ri:s.nx+2<=s4.nx:=Db;let⟨σ,e1,e2,e3,e4,e5,e6⟩:=afk (P:=P) (fn:=af.fn) (ps:=ps) ay (hf _ (Tz _) ak ak) (hf _ ak ak ak) t1 t2 eY;have zj:VR σ g<|a.eval f:=(Eg ay.tr ay.g h3).mono e1.le;have mq:dU (s.nx+2) s4.nx σ:=(hf.sub (Tz _) Sc).next ak e1
  have QL:=alV (P:=P) hc (ay.g.mono e1.le) jH e5 mq zj (args:=[.yield<|s.nx+1]) (vs:= #[.func (.yield<|w.heap.size+1) #[] #[]]) (by simp only[ax,VR];exact⟨_,_,rfl,⟨_,_,e3,rfl⟩,rfl⟩) h4;have HI:=(show(Instr.enterLoop b.fn a.tmps ps assign body b.roundOf).run P w=(Instr.enterLoop af.fn a.tmps ps assign body none).run P w by rw[bI.fn,IC]).trans e4;let⟨v,w',⟨τ,g1,g2,g3,g4⟩,st⟩:=aaa (cs:=cs) (k:=k) HI QL;let⟨q1,q2,w5,q3,q4,q5⟩:=aaq (P:=P) pK g3 (g1.le _ _ e3) h5;have ext:Ext s.nx s4.nx ρ τ:=e1.trans ak Ri g1;refine⟨τ,{a with defers:=[{target:=.collected w.heap.size,args:= #[]}]++a.defers},w5,by rw[q1];exact ext,⟨ay.tr.mono ext.le,q4,ay.g.mono ext.le,ay.nt,(Tt.mj _).cG pK h5⟩,?_,(e6.trans g4).trans q5,⟨rfl,rfl,hr.symm⟩,aab q2 hk,trivial,?_⟩
  ·exact⟨w.heap.size,0,a.defers,rfl,g1.le _ _ e2,bI.defs.mono ext.le⟩
  ·rw[pn];refine Steps.trans st<|.one ?_;rw[stepR_endRangeFunc q3,aaT];rfl
 |some l0=>
  rw[hr] at h;have om:=bI.round;rw[hr] at om;obtain⟨bl,IC,N0,FO⟩:∃bl,b.roundOf=some bl/\∃N,ρ l0=some (bl,N):=by
   cases e:b.roundOf with
   |none=>rw[e] at om;cases om
   |some bl=>rw[e] at om;exact⟨bl,rfl,om⟩
  let⟨ob,s2,h1,h⟩:=M.aQ h;obtain⟨ze,st0,aol,f0,t0,FL,FN,a0,b0,d0,rfl⟩:=DT h1;let⟨l,s3,h2,h⟩:=M.aQ h;let⟨g,h3,h⟩:=bz h;let⟨y,s4,h4,h⟩:=M.aQ h;let⟨p,s5,h5,h⟩:=M.aQ h;obtain⟨rfl,rfl⟩:=bG h;let⟨hx,jk,hh,cM⟩:=gr ze;have dO:bH s2:=(Tt.bA _).cG ay.cG ze;obtain⟨t2,rfl,rfl⟩:=v8 h2;have jH:bH {s2 with h:=s2.h.put s2.nx<|some<|.loop .ready none af.fn af.tmps af.nt ps.toList assign body d0,nx:=s2.nx+1}:=⟨by have:=dO.mark;show s2.mark<=s2.nx+1;omega,t2⟩;have Db:=(Tt.nK hl _ _).le jH h4;have pK:=(Tt.nK hl _ _).cG jH h4;have Sc:=(Tt.mj _).le pK h5;have Ri:s2.nx+1<=s4.nx:=Db;let⟨σ,w2,e1,⟨bb,M2,e3,e4⟩,e5,e6⟩:=afl (P:=P) (fn:=af.fn) (ps:=ps) ay (hf _ (Tz _) ak ak) (by rw[←cM];omega) eY ze FO;rw[←hh, ←cM] at e5;rw[←cM] at e1 e3;have zj:VR σ g<|a.eval f:=(Eg ay.tr ay.g h3).mono e1.le;have mq:dU (s2.nx+1) s4.nx σ:=(show dU s2.nx s4.nx ρ by rw[cM];exact hf.sub (Tz _) Sc).next ak e1
  have QL:=alV (P:=P) hc (ay.g.mono e1.le) jH e5 mq zj (args:=[.yield s2.nx]) (vs:= #[.func (.yield bb) #[] #[]]) (by simp only[ax,VR];exact⟨_,_,rfl,⟨_,_,e3,rfl⟩,rfl⟩) h4;have HI:=(show(Instr.enterLoop b.fn a.tmps ps assign body b.roundOf).run P w=(Instr.enterLoop af.fn a.tmps ps assign body<|some bl).run P w by rw[bI.fn,IC]).trans e4;let⟨v,w',⟨τ,g1,g2,g3,g4⟩,st⟩:=aaa (cs:=cs) (k:=k) HI QL;let⟨q1,q2,w5,q3,q4,q5⟩:=aaq (P:=P) pK g3 (g1.le _ _ e3) h5;have ext:Ext s.nx s4.nx ρ τ:=by rw[←cM];exact e1.trans ak Ri g1
  refine⟨τ,{a with defers:=[]++a.defers},w5,by rw[q1];exact ext,⟨ay.tr.mono ext.le,q4,ay.g.mono ext.le,ay.nt,(Tt.mj _).cG pK h5⟩,?_,(e6.trans g4).trans q5,⟨rfl,rfl,hr.symm⟩,aab q2 hk,trivial,?_⟩
  ·exact bI.defs.mono ext.le
  ·rw[pn];refine Steps.trans st<|.one ?_;rw[stepR_endRangeFunc q3,aaT];rfl
end
end
section
variable {x:bw} {s2:AS} {k:List Item} {c:Code} {af:AF}
theorem abh{P:Program}{b:Frame}{a:Act}{cs:List Frame}{w:World}:step P (lone (b.atR a<|.inScope c::k) cs w)= .next (lone (b.atR a k) cs w):=step_lone_go (by simp[stepG,stepG.exec,Frame.atR])
theorem abL{P:Program}{b:Frame}{a:Act}{cs:List Frame}{w:World}:step P (lone (b.atR a<|.code (.scope c)::k) cs w)= .next (lone (b.atR a<|.code c:: .inScope c::k) cs w):=step_lone_go (by simp[stepG,stepG.exec,Frame.atR])
section
variable {P:Program} {B:aE} {ρ:Ren} {w:World} {s s1:AS} {Tu:aJ} {b:Frame} {a:Act} {cs:List Frame}
theorem acX{l bl N:Nat}{bU:Option Code}{f0 FL d0:Nat}{t0:Tr AV}{FN:List Tmp}{a0 b0:Code}{u:Unit}(fi:bH s)(r:Rel B ρ s.h w)(hl:ρ l=some (bl,N))(hg:bA l s= .ok (.loop .ready bU f0 t0 FL FN a0 b0 d0) s2)(h:bS l (some<|.loop .busy bU f0 t0 FL FN a0 b0 d0) s2= .ok u s1):
 s1.nx=s.nx/\∃w',(Instr.beginRound bl).run P w= .ok () w'/\Rel B ρ s1.h w'/\cI B w w':=by
 have jk:=gr hg;have fH:∀c,bU=some c->iS c:=by let⟨o',hb,hO,_⟩:=r.block (TJ jk.1 fi.nx) jk.2.1 hl;let⟨_,_,_,_,_,_,_,eY⟩:=hO;exact eY.bU
 let⟨e1,q,e2,e3,e4,_,_,_,_,_,_,_,e5,e6⟩:=OT fi r hg hl fH h;refine⟨e1,_,?_,e5,e6⟩;subst e4;simp only[Instr.beginRound,TF,DQ e2,TH,Nw e2,e3,TK]
theorem Gs(bR:P.follows .mixedOrders=true)(hc:gk P B Tu)(hl:∀t a,Tt<|Tu t a)(bI:Fr ρ af b a)(ay:At B ρ s af.nt af.tmps w a)(hf:dU s.nx s1.nx ρ)(h:jB P Tu af s= .ok x s1):mw P B ρ s s1 w af b cs (lone (b.atR a af.todo) cs w) x:=by
 let⟨fn,t,nt,todo,d,r⟩:=af;cases todo with
 |nil=>obtain⟨rfl,rfl⟩:=bG (show M.pure (.leave ⟨fn,t,nt,[],d,r⟩ none) s= .ok x s1 from h);exact DX bI ay rfl rfl ⟨rfl,rfl,rfl⟩ .nil rfl<|Steps.refl _ _
 |cons it k=>
  have hk:jQ k:=bI.ok.tail;have qB:Ku it:=bI.ok.head;have h':(wK P it).val Tu fn t nt d r k s= .ok x s1:=h;have calm:∀(l:List Item),jQ l->M.pure (.go ⟨fn,t,nt,l,d,r⟩) s= .ok x s1->step P (lone (b.atR a<|it::k) cs w)= .next (lone (b.atR a l) cs w)->mw P B ρ s s1 w ⟨fn,t,nt,it::k,d,r⟩ b cs (lone (b.atR a<|it::k) cs w) x:=by intro l kQ hp hs;obtain⟨rfl,rfl⟩:=bG hp;exact DX bI ay rfl rfl ⟨rfl,rfl,rfl⟩ kQ trivial<|.one hs
  cases it with
  |code c=>
   cases c with
   |skip=>exact calm k hk h' stepR_skip
   |label l=>exact calm k hk h' stepR_label
   |seq p q=>exact calm (.code p:: .code q::k) (.cons qB.1<|.cons qB.2 hk) h' stepR_seq
   |cond c p q=>
    let⟨v,h1,h2⟩:=bz (show(aB (aF t c) fun v=>aB (ym v) fun v=>M.pure<|.go ⟨fn,t,nt,.code (@Bool.rec (fun _=>Code) q p v)::k,d,r⟩) s= .ok x s1 from h');let⟨y,h3,h4⟩:=bz h2;have hv:=(Eg ay.tr ay.g h1).amE h3;cases y with
    |true=>exact calm (.code p::k) (.cons qB.1 hk) h4<|stepR_cond hv
    |false=>exact calm (.code q::k) (.cons qB.2 hk) h4<|stepR_cond hv
   |block id c=>exact calm (.code c:: .inBlock id::k) (.cons qB<|.cons trivial hk) h' stepR_block
   |loop c=>exact calm (.code c:: .inLoop c::k) (.cons qB<|.cons qB hk) h' stepR_loop
   |scope c=>exact calm (.code c:: .inScope c::k) (.cons qB<|.cons qB hk) h' abL
   |exit id=>
    have h2:EN id Tu fn t nt d r k s= .ok x s1:=h';unfold EN at h2;cases e:exitTo id k with
    |some k'=>rw[e] at h2;exact calm k' (Oa e hk) h2<|stepR_exit e
    |none=>rw[e] at h2;obtain⟨rfl,rfl⟩:=bG h2;exact DX bI ay rfl rfl ⟨rfl,rfl,rfl⟩ bI.ok ⟨k,rfl,e⟩<|Steps.refl _ _
   |goto l=>
    have h2:EO l Tu fn t nt d r k s= .ok x s1:=h';unfold EO at h2;cases e:gotoIn l k with
    |some k'=>rw[e] at h2;exact calm k' (Ob e hk) h2<|stepR_goto e
    |none=>rw[e] at h2;obtain⟨rfl,rfl⟩:=bG h2;exact DX bI ay rfl rfl ⟨rfl,rfl,rfl⟩ bI.ok ⟨k,rfl,e⟩<|Steps.refl _ _
   |ret=>obtain⟨rfl,rfl⟩:=bG (show M.pure (.leave ⟨fn,t,nt,.code .ret::k,d,r⟩<|some .ret) s= .ok x s1 from h');exact DX bI ay rfl rfl ⟨rfl,rfl,rfl⟩ bI.ok ⟨k,rfl⟩<|Steps.refl _ _
   |region id ops draw=>
    cases draw with
    |false=>let⟨t1,s2,h1,h2⟩:=M.aQ (show((jE P Tu nt ops ops.toList t).bind fun t=>M.pure<|.go ⟨fn,t,nt,k,d,r⟩) s= .ok x s1 from h');obtain⟨rfl,rfl⟩:=bG h2;exact alZ bI rfl hk<|aca hc hl ay hf h1 b k cs
    |true=>let⟨t1,s2,h1,h2⟩:=M.aQ (show((qM P Tu nt ops t).bind fun t=>M.pure<|.go ⟨fn,t,nt,k,d,r⟩) s= .ok x s1 from h');obtain⟨rfl,rfl⟩:=bG h2;exact alZ bI rfl hk<|abK bR (qB rfl) hc hl ay hf h1 b k cs
   |rangeFunc f ps p q=>exact acW hc hl bI ay hf rfl h'
   |refuse why=>cases h'
  |inBlock id=>exact calm k hk h' stepR_inBlock
  |inScope c=>exact calm k hk h' abh
  |inLoop c=>exact calm (.code c:: .inLoop c::k) (.cons qB<|.cons qB hk) h' stepR_inLoop
  |beginRound=>
   have h2:Aa Tu fn t nt d r k s= .ok x s1:=h';unfold Aa at h2;cases r with
   |none=>cases h2
   |some l=>
    obtain⟨bl,IC,N0,FO⟩:∃bl,b.roundOf=some bl/\∃N,ρ l=some (bl,N):=by
     have om:=bI.round;cases e:b.roundOf with
     |none=>rw[e] at om;cases om
     |some bl=>rw[e] at om;exact⟨bl,rfl,om⟩
    let⟨o,s2,h3,h4⟩:=M.aQ h2;obtain⟨h5,st,bU,f0,t0,FL,FN,a0,b0,d0,rfl⟩:=DT h3;cases st<;>first|(cases h4;done)|skip
    let⟨u,s3,h6,h7⟩:=M.aQ h4;obtain⟨rfl,rfl⟩:=bG h7;let⟨e1,w',e2,e3,e4⟩:=acX (P:=P) ay.cG ay.rel FO h5 h6;have dO:bH s1:=(Tt.bS _ _).cG ((Tt.bA _).cG ay.cG h5) h6;exact⟨ρ,a,w',by rw[e1];exact Ext.refl _ _ _,⟨ay.tr,e3,ay.g,ay.nt,dO⟩,bI.defs,e4,⟨rfl,rfl,rfl⟩,hk,trivial,.one<|stepR_beginRound IC e2⟩
  |_=>cases h'
theorem mw.Lq{fr:AF}{m:Machine}(bI:Fr ρ af b a)(h:mw P B ρ s s2 w af b cs m<|.go fr)(lE:s.nx<=s2.nx)(qA:s2.nx<=s1.nx)(k:∀(σ:Ren) (a':Act) (w':World),Ext s.nx s2.nx ρ σ->Fr σ fr b a'->At B σ s2 fr.nt fr.tmps w' a'->mw P B σ s2 s1 w' fr b cs (lone (b.atR a' fr.todo) cs w') x):mw P B ρ s s1 w af b cs m x:=by let⟨σ,a',w',e1,e2,e3,e4,⟨e5,e6,e7⟩,e8,_,e9⟩:=h;have ju:fr.nt=af.nt:=e6;let⟨τ,Iz,nS,f1,f2,f3,f4,⟨f5,f6,f7⟩,f8,f9,f10⟩:=k σ a' w' e1 ⟨bI.fn.trans e5.symm,bI.kind,by have:=bI.round.mono e1.le;rw[←e7] at this;exact this,e3,e8⟩ (by rw[ju];exact e2);exact⟨τ,Iz,nS,e1.trans lE qA f1,by rw[ju] at f2;exact f2,f3,e4.trans f4,⟨f5.trans e5,f6.trans e6,f7.trans e7⟩,f8,f9,Steps.trans e9 f10⟩
theorem Gt(bR:P.follows .mixedOrders=true)(hc:gk P B Tu)(hl:∀t a,Tt<|Tu t a):∀(n:Nat) {ρ:Ren} {w:World} {s s1:AS} {a:Act} {af:AF} {x:bw},Fr ρ af b a->At B ρ s af.nt af.tmps w a->dU s.nx s1.nx ρ->
 oq P Tu n af s= .ok x s1->mw P B ρ s s1 w af b cs (lone (b.atR a af.todo) cs w) x
 |0,ρ,w,s,s1,a,af,x,bI,ay,hf,h=>Gs bR hc hl bI ay hf h
 |n+1,ρ,w,s,s1,a,af,x,bI,ay,hf,h=>by
  let⟨y,s2,h1,h2⟩:=M.aQ (show((oq P Tu n af).bind fun x=> @bw.rec (fun _=>M bw) (oq P Tu n) (fun fr j=>M.pure<|.leave fr j) x) s= .ok x s1 from h);have lE:=(Tt.oq P hl n af).le ay.cG h1;have dO:=(Tt.oq P hl n af).cG ay.cG h1;cases y with
  |go fr=>have ti:oq P Tu n fr s2= .ok x s1:=h2;have qA:=(Tt.oq P hl n fr).le dO ti;have w1:=Gt bR hc hl n bI ay (hf.sub (Tz _) qA) h1;exact w1.Lq bI lE qA fun σ a' w' e1 CF CG=>Gt bR hc hl n CF CG (hf.next lE e1) ti
  |leave fr j=>obtain⟨rfl,rfl⟩:=bG (show M.pure (.leave fr j) s2= .ok x s1 from h2);exact Gt bR hc hl n bI ay hf h1
theorem Oi(bR:P.follows .mixedOrders=true)(hc:gk P B Tu)(hl:∀t a,Tt<|Tu t a):∀(n k:Nat) {ρ:Ren} {w:World} {s s1:AS} {a:Act} {af:AF} {x:bw},Fr ρ af b a->At B ρ s af.nt af.tmps w a->dU s.nx s1.nx ρ->
 qV P Tu n k af s= .ok x s1->mw P B ρ s s1 w af b cs (lone (b.atR a af.todo) cs w) x
 |0,k,ρ,w,s,s1,a,af,x,bI,ay,hf,h=>by cases h
 |n+1,k,ρ,w,s,s1,a,af,x,bI,ay,hf,h=>by
  let⟨y,s2,h1,h2⟩:=M.aQ (show((oq P Tu k af).bind fun x=> @bw.rec (fun _=>M bw) (fun fr=>qV P Tu n (Nat.succ k) fr) (fun fr j=>M.pure<|.leave fr j) x) s= .ok x s1 from h);have lE:=(Tt.oq P hl k af).le ay.cG h1;have dO:=(Tt.oq P hl k af).cG ay.cG h1;cases y with
  |go fr=>have ti:qV P Tu n (k+1) fr s2= .ok x s1:=h2;have qA:=(Tt.qV P hl n (k+1) fr).le dO ti;have w1:=Gt (b:=b) (cs:=cs) bR hc hl k bI ay (hf.sub (Tz _) qA) h1;exact w1.Lq bI lE qA fun σ a' w' e1 CF CG=>Oi bR hc hl n (k+1) CF CG (hf.next lE e1) ti
  |leave fr j=>obtain⟨rfl,rfl⟩:=bG (show M.pure (.leave fr j) s2= .ok x s1 from h2);exact Gt bR hc hl k bI ay hf h1
end
end
section
variable {x:AV} {l bl N:Nat}
section
variable {P:Program} {B:aE} {ρ:Ren} {w:World} {s s1:AS} {Tu:aJ}
theorem Ny{nt:Nat}(jt:nt<=top):∀{ps:List Tmp} {args:List AV} {vs:List Value} {t:Tr AV} {arr:Array Value},TR ρ nt t arr->ax ρ args vs->(∀p∈ps,p<nt)->
 TR ρ nt (jN ps args t) ((ps.zip vs).foldl (fun tmps (t,a)=>tmps.setIfInBounds t a) arr)
 |[],args,vs,t,arr,h,_,_=>by simpa[jN] using h
 |p::ps,[],vs,t,arr,h,hv,_=>by simp only[ax] at hv;subst hv;simpa[jN] using h
 |p::ps,v::args,vs,t,arr,h,hv,hp=>by simp only[ax] at hv;obtain⟨u,us,rfl,h1,h2⟩:=hv;simp only[jN,List.zip_cons_cons,Un];exact Ny jt (h.set (hp p TA) jt h1) h2 fun q hq=>hp q<|TB _ hq
theorem aar{j:Option Code}(fi:bH s)(r:Rel B ρ s.h w)(hl:ρ l=some (bl,N))(hj:∀c,j=some c->iS c)(h:endRound l j s= .ok x s1):
 s1.nx=s.nx/\x= .bool j.isNone/\∃w',(Instr.endRound bl j).run P w= .ok (.bool j.isNone) w'/\Rel B ρ s1.h w'/\cI B w w':=by
 unfold endRound at h;obtain⟨o,s2,h1,h2⟩:=M.aQ h;obtain⟨h3,st,bU,fn,t,nt,ps,aa,bb,d,rfl⟩:=DT h1;obtain⟨u,s3,h4,h5⟩:=M.aQ h2;obtain⟨rfl,rfl⟩:=bG h5;obtain⟨e1,q,e2,e3,e4,_,_,_,_,_,_,_,e5,e6⟩:=OT fi r h3 hl hj h4;refine⟨e1,rfl,_,?_,e5,e6⟩;cases j<;>simp only[Instr.endRound,TF,DQ e2,TH,Nw e2,TK]<;>rfl
theorem acY(bR:P.follows .mixedOrders=true)(hc:gk P B Tu)(hl:∀t a,Tt<|Tu t a){args:List AV}{vs:Array Value}(fi:bH s)(r:Rel B ρ s.h w)(hg:gG ρ)(hf:dU s.nx s1.nx ρ)(h:BO P Tu l args s= .ok x s1)(hv:ax ρ args vs.toList)(Dc:ρ l=some (bl,N)):jj P ((Instr.yield bl vs).run P w)<|ky B ρ s s1 w x:=by
 unfold BO at h;obtain⟨o,s2,h1,h2⟩:=M.aQ h;obtain⟨h3,st,bU,fn,t,nt,ps,aa,bb,d,rfl⟩:=DT h1;obtain⟨h4,h5⟩:=dv h2;obtain⟨y,s3,h6,h7⟩:=M.aQ h5;obtain⟨q1,q2⟩:=and_true.1 h4;have hlen:=eP.1 q1;have Sd:∀p∈ps,p<nt:=fun p hp=>by have:=TG.1 q2 p hp;rw[←blt_eq];exact this
 obtain⟨hx,jk,hh,cM⟩:=gr h3;have dO:bH s2:=(Tt.bA _).cG fi h3;have ct:l<top:=TJ hx fi.nx;obtain⟨o',hb,hO,hB⟩:=r.block ct jk Dc;obtain⟨ta,db,M,rfl,zk,jt,hd,eY⟩:=hO;have P4:(Instr.yield bl vs).run P w= .ok (.round bl fn ((ps.zip vs.toList).foldl (fun tmps (t,a)=>tmps.setIfInBounds t a) ta) aa bb) w:=by
  have j9:¬(vs.size≠ps.toArray.size):=by have:=hv.length;simp at this ⊢;omega
  simp only[Instr.yield,TF,DQ hb,TH,if_neg j9,TK];rw[←Vk];simp
 rw[P4];intro c cs;cases y with
 |go fr=>cases h7
 |leave fr j=>
  have C7:endRound l j s3= .ok x s1:=h7;let b:Frame:={(default:Frame) with fn:=fn,kind:=.normal,roundOf:=some bl};let a:Act:={tmps:=(ps.zip vs.toList).foldl (fun tmps (t,a)=>tmps.setIfInBounds t a) ta,defers:=[]};have qA:=(Tt.qV P hl depth 2 ⟨fn,jN ps args t,nt,[.code aa,.beginRound,.code bb],[],some l⟩).le dO h6;have jH:=(Tt.qV P hl depth 2 ⟨fn,jN ps args t,nt,[.code aa,.beginRound,.code bb],[],some l⟩).cG dO h6;have Dd:=(Tt.endRound l j).le jH C7;have bI:Fr ρ ⟨fn,jN ps args t,nt,[.code aa,.beginRound,.code bb],[],some l⟩ b a:=⟨rfl,rfl,⟨N,Dc⟩,rfl,.cons eY.assign<|.cons trivial<|.cons eY.body .nil⟩;have ay:At B ρ s2 nt (jN ps args t) w a:=⟨Ny jt zk hv Sd,by rw[hh];exact r,hg,jt,dO⟩;obtain⟨σ,a',w',e1,e2,e3,e4,_,_,e6,e7⟩:=Oi (cs:=c::cs) bR hc hl depth 2 bI ay (by rw[cM];exact hf.sub (Tz _) Dd) h6;have ju:Leaves j fr.todo:=e6;obtain⟨f1,rfl,nS,f2,f3,f4⟩:=aar (P:=P) jH e2.rel (e1.le _ _ Dc) ju.code C7;refine⟨.bool j.isNone,nS,⟨σ,by rw[f1, ←cM];exact e1,by simp only[VR],f3,e4.trans f4⟩,?_⟩;have yq:Frame.round bl fn ((ps.zip vs.toList).foldl (fun tmps (t,a)=>tmps.setIfInBounds t a) ta) aa bb .normal=b.atR a [.code aa,.beginRound,.code bb]:=rfl;rw[yq];refine Steps.trans e7<|.one ?_;show step P (lone (b.atR a' fr.todo) (c::cs) w')=_;unfold Leaves at ju;split at ju
  ·rw[ju];exact stepR_round_end rfl rfl f2
  ·obtain⟨k,e⟩:=ju;rw[e];exact stepR_round_ret rfl rfl f2
  ·obtain⟨k,e,e'⟩:=ju;rw[e];exact stepR_round_exit rfl rfl e' f2
  ·obtain⟨k,e,e'⟩:=ju;rw[e];exact stepR_round_goto rfl rfl e' f2
  ·cases ju
theorem abu{nt:Nat}{t:Tr AV}{tmps:Array Value}{rv:ResultVar}(ht:TR ρ nt t tmps)(fi:bH s)(r:Rel B ρ s.h w)(h:BM P t rv s= .ok x s1):
 s1.h=s.h/\s1.nx=s.nx/\bH s1/\∃v,(match rv with| .tmp t=>pure (tmps.getD t undef)| .cell a t=>do Go.loadVar t (←asAddr (tmps.getD a undef)):Sem Value).run P w= .ok v w/\VR ρ x v:=by
 cases rv with
 |tmp i=>obtain⟨hx,rfl⟩:=ij (show lift (t.get i) s= .ok x s1 from h);exact⟨rfl,rfl,fi,_,rfl,ht.2 i x hx⟩
 |cell a ty=>
  obtain⟨ad,s2,h1,h2⟩:=M.aQ (show((lift (match t.get a with|some x=>addrOf x|none=>none)).bind fun a=>Rn.loadVar P ty a.1 a.2) s= .ok x s1 from h);obtain⟨h3,hs⟩:=ij h1;subst hs;cases Se:t.get a with
  |none=>rw[Se] at h3;cases h3
  |some xa=>
  rw[Se] at h3;obtain⟨b,N,h4,h5⟩:=(ht.2 a xa Se).ON h3;obtain⟨a1,a2,v,a3,a4⟩:=aaw (P:=P) fi r h2 h4;exact⟨a1,a2,(Tt.loadVar P ty _ _).cG fi h2,v,by simp[h5,asAddr,a3],a4⟩
theorem I1{nt:Nat}{t:Tr AV}{tmps:Array Value}(ht:TR ρ nt t tmps):∀{l:List ResultVar} {vs:List AV} {s s1:AS},bH s->Rel B ρ s.h w->tW P t l s= .ok vs s1->
 s1.h=s.h/\s1.nx=s.nx/\∃us,(l.mapM fun| .tmp t=>pure (tmps.getD t undef)| .cell a t=>do Go.loadVar t (←asAddr (tmps.getD a undef)):Sem<|List Value).run P w= .ok us w/\ax ρ vs us
 |[],vs,s,s1,fi,r,h=>by obtain⟨rfl,rfl⟩:=bG (show M.pure [] s= .ok vs s1 from h);exact⟨rfl,rfl,[],rfl,by simp[ax]⟩
 |rv::l,vs,s,s1,fi,r,h=>by
  obtain⟨v,s2,h1,h2⟩:=M.aQ (show((BM P t rv).bind fun v=>(tW P t l).bind fun vs=>M.pure<|v::vs) s= .ok vs s1 from h);obtain⟨us,s3,h3,h4⟩:=M.aQ h2;obtain⟨rfl,rfl⟩:=bG h4;obtain⟨a1,a2,a3,u,a4,a5⟩:=abu ht fi r h1;obtain⟨b1,b2,MR,b3,b4⟩:=I1 ht a3 (by rw[a1];exact r) h3;refine⟨b1.trans a1,b2.trans a2,u::MR,?_,?_⟩
  ·rw[V6];simp only[TF,a4,TH,b3,TK]
  ·simp only[ax];exact⟨u,MR,rfl,a5,b4⟩
theorem I4{fr:Frame}{cs:List Frame}:∀{l:List Nat} {ds:List Deferred} {s s1:AS} {w:World} {u:Unit},bH s->Rel B ρ s.h w->wZ ρ l ds->rV l s= .ok u s1->
 s1.nx=s.nx/\bH s1/\∃w',Rel B ρ s1.h w'/\cI B w w'/\∀(fr:Frame) (cs:List Frame),fr.mode≠ .run->fr.defers=ds->Steps P (lone fr cs w) (lone {fr with defers:=[]} cs w')
 |[],ds,s,s1,w,u,fi,r,hd,h=>by obtain⟨_,rfl⟩:=bG (show M.pure () s= .ok u s1 from h);have MQ:ds=[]:=hd;subst MQ;exact⟨rfl,fi,w,r,cI.refl _ _,fun fr cs _ e=>by rw[←e];exact Steps.refl _ _⟩
 |d::l,ds,s,s1,w,u,fi,r,hd,h=>by
  obtain⟨b,N,ds',rfl,hn,hds⟩:=hd;obtain⟨o,s2,h1,h2⟩:=M.aQ (show((bA d).bind fun o=>match o with| .defs=>(bS d none).bind fun _=>rV l|_=>fail) s= .ok u s1 from h);obtain⟨hx,jk,hh,cM⟩:=gr h1;have dO:=(Tt.bA d).cG fi h1;have ct:d<top:=TJ hx fi.nx;obtain⟨o',hb,hO,hB⟩:=r.block ct jk hn;cases o with
  |defs=>
   obtain⟨u2,s3,h3,h4⟩:=M.aQ h2;have jH:=(Tt.bS d none).cG dO h3;obtain⟨_,_,_,i1,i2⟩:=jP h3;have hO':o'= .deferred (some []):=hO;subst hO';obtain⟨g3,g4⟩:=DS (o':=.deferred none) hb;obtain⟨k1,_⟩:=r.XD ct jk rfl rfl hn g3;obtain⟨e1,e2,w',e3,e4,e5⟩:=I4 (fr:=fr) (cs:=cs) jH (by rw[i1,hh];exact k1) hds h4;refine⟨by rw[e1,i2,cM],e2,w',e3,(g3.below<|hB rfl).trans e4,fun fr cs hm hdf=>?_⟩;have aiv:(Instr.takeDeferred b).run P w= .ok [] {w with heap:=w.heap.setIfInBounds b<|.deferred none}:=by simp[Instr.takeDeferred,getObj,setObj,Sem.run,hb]
   have hs:=step_collected (P:=P) (cs:=cs) hm hdf rfl aiv;exact .head hs<|e5 {fr with defers:=[]++ds'} cs hm rfl
  |_=>cases h2
end
end
theorem al0{ρ:Ren}{e:MapEntry}:∀{left:List<|AV×AV} {l:List MapEntry},eA ρ left l->e∈l->
 ∃x r l',(x,r)∈yF left/\VR ρ x.1 e.key/\VR ρ x.2 e.val/\eA ρ r l'/\l.Perm (e::l')
 |[],l,h,he=>by simp only[eA] at h;subst h;cases he
 |y::ys,l,h,he=>by
  simp only[eA] at h;obtain⟨e0,es,rfl,h1,h2,h3⟩:=h;rcases Ty.1 he with rfl|he
  ·exact⟨y,ys,es,by simp[yF],h1,h2,h3,UL _⟩
  ·let⟨x,r,l',k1,k2,k3,k4,k5⟩:=al0 h3 he;refine⟨x,y::r,e0::l',?_,k2,k3,?_,?_⟩
   ·simp only[yF,Ty,TI];exact .inr ⟨(x,r),k1,rfl⟩
   ·simp only[eA];exact⟨e0,l',rfl,h1,h2,k4⟩
   ·exact(List.Perm.cons e0 k5).trans<|Vz e e0 l'
theorem eA.afm{ρ:Ren}{left:List<|AV×AV}(h:eA ρ left []):left=[]:=by
 cases left with
 |nil=>rfl
 |cons x xs=>simp only[eA] at h;let⟨e,es,h,_⟩:=h;cases h
section
variable {P:Program} {B:aE} {ρ:Ren} {w w':World} {h:Tr ah} {n m:Nat} {es left iW:List<|AV×AV} {ex:Bool} {cur iY:Option<|AV×AV} {b N:Nat}
theorem aaU{w1:World}{o:Obj}(hw:w1=w\/w1=w.drew):wu b w<|ChangeMaps.setBlock w1 b o:=by
 have h1:(ChangeMaps.setBlock w1 b o).heap=w.heap.setIfInBounds b o:=by rcases hw with rfl|rfl<;>rfl
 refine⟨?_,?_,?_,by rw[h1];simp,fun k hk=>?_⟩
 ·rcases hw with rfl|rfl<;>rfl
 ·rcases hw with rfl|rfl<;>rfl
 ·rcases hw with rfl|rfl<;>rfl
 ·rw[h1,Vh ak]
theorem ni.next(ty:TypeId)(u:ni ρ w n m es ex left cur):∃b N,ρ n=some (b,N)/\
 ((left=[]/\(Instr.next (.pointer<|some ⟨b,0,none⟩) false ty).run P w= .ok (.tuple #[.bool false]) w)\/
 ∃x r v1 v2 w',(x,r)∈yF left/\VR ρ x.1 v1/\VR ρ x.2 v2/\(Instr.next (.pointer<|some ⟨b,0,none⟩) false ty).run P w= .ok (.tuple #[.bool true,v1,v2]) w'/\wu b w w'/\(∃bm M c sn,ρ m=some (bm,M)/\w'.heap[b]? =some (.mapIter (some bm) c sn c))/\ni ρ w' n m es ex r (some x)):=by
 let⟨b,N,bm,M,l,bu,seen,h1,h2,h3,h4,h5,h6,h7,h8,h9⟩:=u;refine⟨b,N,h1,?_⟩;have zl:(leftOf l seen).toList=l.toList.filter fun e=> !seen.contains e.born:=by simp[leftOf]
 let⟨l',hp,hq⟩:=h8;rcases run_next_at (P:=P) w ty b bm bu bu seen l bu h3 h4 h5.2 (Tz _) with⟨k1,k2⟩|⟨e,he,w1,Sf,k2⟩
 ·refine .inl ⟨?_,k2⟩;have:(leftOf l seen).toList=[]:=by apply UY;simpa using k1
  rw[zl] at this;rw[this] at hp;have kQ:=hp.symm.eq_nil;subst kQ;exact hq.afm
 ·refine .inr ?_;rw[zl] at he;have Iw:e∈l':=hp.mem_iff.1 he;let⟨x,r,MS,p1,p2,p3,p4,p5⟩:=al0 hq Iw;have cz:bm≠b:=by intro q;subst q;rw[h3] at h4;cases h4
  have gS:(ChangeMaps.setBlock w1 b<|.mapIter (some bm) bu (seen.push e.born) bu).heap[b]? =some (.mapIter (some bm) bu (seen.push e.born) bu):=by
   have ct:b<w.heap.size:=gC h3;have:(ChangeMaps.setBlock w1 b<|.mapIter (some bm) bu (seen.push e.born) bu).heap=w.heap.setIfInBounds b (.mapIter (some bm) bu (seen.push e.born) bu):=by rcases Sf with rfl|rfl<;>rfl
   rw[this,Vg ct]
  refine⟨x,r,e.key,e.val,_,p1,p2,p3,k2,aaU Sf,⟨bm,M,bu,seen.push e.born,h2,gS⟩,?_⟩;have rj:e∈l.toList:=(Wd.1 he).1;have A9:((e::MS).map (·.born)).Nodup:=by have a:((l.toList.filter fun e=> !seen.contains e.born).map (·.born)).Nodup:=(List.filter_sublist.map _).nodup h5.1;exact((hp.trans p5).map _).nodup_iff.1 a
  rw[T0,UF] at A9;refine⟨b,N,bm,M,l,bu,seen.push e.born,h1,h2,gS,((aaU Sf).block bm cz).trans h4,h5,h6,h7,⟨MS,?_,p4⟩,⟨e,rj,by simp,p2,p3⟩⟩;have e1:(l.toList.filter fun x=> !(seen.push e.born).contains x.born)=(l.toList.filter fun x=> !seen.contains x.born).filter fun x=> !(x.born == e.born):=by rw[List.filter_filter];congr 1;funext x;simp only[Array.contains_push];rw[Bool.not_or,Bool.and_comm]
  have e2:(e::MS).filter (fun x=> !(x.born == e.born))=MS:=by
   rw[List.filter_cons];simp only[beq_self_eq_true,VQ,UK,if_false];refine List.filter_eq_self.2 fun x hx=>?_;have:¬x.born=e.born:=by intro q;exact A9.1 (by rw[←q];exact UZ hx)
   simp[this]
  rw[e1];have:=(hp.trans p5).filter fun x=> !(x.born == e.born);rw[e2] at this;exact this
theorem Rel.XH(r:Rel B ρ h w)(ht:n<top)(hg:h.get n=some (.iter m es ex left cur))(hr:ρ n=some (b,N))(hw:wu b w w')(hb:∃bm M c sn,ρ m=some (bm,M)/\w'.heap[b]? =some (.mapIter (some bm) c sn c))(u:ni ρ w' n m es ex iW iY):Rel B ρ (h.put n<|some<|.iter m es ex iW iY) w':=by
 let⟨_,_,_,hB⟩:=r.block ht hg hr;let⟨pJ,fE,_⟩:=r.iter n m es ex left cur ht hg;have tg:m≠n:=by intro e;subst e;rw[hg] at fE;cases fE
 have g:∀k,k<top->(h.put n<|some<|.iter m es ex iW iY).get k=if k=n then some (.iter m es ex iW iY) else h.get k:=fun k hk=>Tr.dy _ _ _ _ ht hk
 have live:∀j,j<top->∀x,(if j=n then some (ah.iter m es ex iW iY) else h.get j)=some x->∃y,h.get j=some y/\(x.dA=false->y.dA=false):=by
  intro j _ x hx;by_cases e:j=n
  ·subst e;exact⟨_,hg,fun _=>rfl⟩
  ·rw[if_neg e] at hx;exact⟨x,hx,id⟩
 refine⟨?_,?_,?_,by rw[hw.size];exact r.size,?_,r.fz.of (Ren.le_refl _) (fun b1 _ hn=>hw.block b1 fun e=>hn n _ N ht hg rfl (by rw[e];exact hr)) (fun b1 _ hn=>hn.sub fun k q hk hq iy=>by
  rw[g k hk] at hq;let⟨y,e1,e2⟩:=live k hk q hq;exact⟨y,e1,e2 iy⟩),r.tk.of (Ren.le_refl _) (fun k q hk hq yP=>by
  rw[g k hk] at hq;by_cases e:k=n
  ·rw[if_pos e] at hq;cases hq;cases yP
  ·rw[if_neg e] at hq;exact hq) (by rw[hw.size];exact Tz _) (fun b1 _ hn=>hw.block b1 fun e=>hn n _ N ht hg rfl (by rw[e];exact hr)) (fun b1 _ hn=>hn.sub fun k q hk hq iy=>by
  rw[g k hk] at hq;let⟨y,e1,e2⟩:=live k hk q hq;exact⟨y,e1,e2 iy⟩) fun _ _ _ _ _ e=>e⟩
 ·intro k q hk hq;rw[g k hk] at hq;by_cases e:k=n
  ·subst e;rw[if_pos rfl] at hq;cases hq;let⟨bm,M,c,sn,q1,q2⟩:=hb;exact⟨b,N,_,hr,q2,⟨bm,M,c,sn,q1,rfl⟩,fun _=>hB rfl⟩
  ·rw[if_neg e] at hq;let⟨b1,N1,o1,h1,h2,h3,h4⟩:=r.is k q hk hq;refine⟨b1,N1,o1,h1,(hw.block b1 fun e2=>?_).trans h2,h3,h4⟩;subst e2;exact e<|r.one k n q _ b1 N1 N hk ht hq hg (.inr rfl) h1 hr
 ·intro k j q q' b1 N1 M1 hk hj hq eN cV h1 h2;rw[g k hk] at hq;rw[g j hj] at eN;let⟨y,hy,xp⟩:=live k hk q hq;let⟨z,hz,Iu⟩:=live j hj q' eN;exact r.one k j y z b1 N1 M1 hk hj hy hz (cV.imp xp Iu) h1 h2
 ·intro i m' iw jr l' c' hi hq;rw[g i hi] at hq;by_cases e:i=n
  ·subst e;rw[if_pos rfl] at hq;cases hq;exact⟨pJ,by rw[g m pJ,if_neg tg];exact fE,u⟩
  ·rw[if_neg e] at hq;let⟨fG,hl,u'⟩:=r.iter i m' iw jr l' c' hi hq;have L8:m'≠n:=by intro e2;subst e2;rw[hg] at hl;cases hl
   refine⟨fG,by rw[g m' fG,if_neg L8];exact hl,u'.nr hw.block (fun M e2=>e ?_) fun M e2=>L8 ?_⟩
   ·exact r.one i n _ _ b M N hi ht hq hg (.inr rfl) e2 hr
   ·exact r.one m' n _ _ b M N fG ht hl hg (.inr rfl) e2 hr
 ·intro i j m' A4 A5 Ak AH MM MO Lo LX hi hj q1 q2;rw[g i hi] at q1;rw[g j hj] at q2;have ZN:∀k,k<top->∀A4 A5 Ak AH,(if k=n then some (ah.iter m es ex iW iY) else h.get k)=some (.iter m' A4 A5 Ak AH)->∃MM MO Lo LX,h.get k=some (.iter m' MM MO Lo LX):=by
   intro k _ A4 A5 Ak AH q;by_cases e:k=n
   ·subst e;rw[if_pos rfl] at q;cases q;exact⟨_,_,_,_,hg⟩
   ·rw[if_neg e] at q;exact⟨_,_,_,_,q⟩
  let⟨_,_,_,_,a1⟩:=ZN i hi _ _ _ _ q1;let⟨_,_,_,_,a2⟩:=ZN j hj _ _ _ _ q2;exact r.lone i j m' _ _ _ _ _ _ _ _ hi hj a1 a2
theorem Rel.ad7{o:ah}{o':Obj}(r:Rel B ρ h w)(ht:m<top)(hg:h.get m=some .iT)(hr:ρ m=some (b,N))(hb:w.heap[b]? =some o')(hO:OR ρ N o o')(C5:o.own=true)(mq:∀i es ex left cur,i<top->h.get i≠some (.iter m es ex left cur)):Rel B ρ (h.put m<|some o) w:=by
 let⟨ho,HF⟩:=ah.vY C5;let⟨_,_,_,hB⟩:=r.block ht hg hr;have g:∀k,k<top->(h.put m<|some o).get k=if k=m then some o else h.get k:=fun k hk=>Tr.dy _ _ _ _ ht hk
 have live:∀j,j<top->∀x,(if j=m then some o else h.get j)=some x->∃y,h.get j=some y/\(x.dA=false->y.dA=false):=by
  intro j _ x hx;by_cases e:j=m
  ·subst e;exact⟨_,hg,fun _=>rfl⟩
  ·rw[if_neg e] at hx;exact⟨x,hx,id⟩
 refine⟨?_,?_,?_,r.size,?_,r.fz.of (Ren.le_refl _) (fun _ _ _=>rfl) (fun b1 _ hn=>hn.sub fun k q hk hq iy=>by
  rw[g k hk] at hq;let⟨y,e1,e2⟩:=live k hk q hq;exact⟨y,e1,e2 iy⟩),r.tk.of (Ren.le_refl _) (fun k q hk hq yP=>by
  rw[g k hk] at hq;by_cases e:k=m
  ·rw[if_pos e] at hq;cases hq;rw[HF] at yP;cases yP
  ·rw[if_neg e] at hq;exact hq) (Tz _) (fun _ _ _=>rfl) (fun b1 _ hn=>hn.sub fun k q hk hq iy=>by
  rw[g k hk] at hq;let⟨y,e1,e2⟩:=live k hk q hq;exact⟨y,e1,e2 iy⟩) fun _ _ _ _ _ e=>e⟩
 ·intro k q hk hq;rw[g k hk] at hq;by_cases e:k=m
  ·subst e;rw[if_pos rfl] at hq;cases hq;exact⟨b,N,_,hr,hb,hO,fun _=>hB rfl⟩
  ·rw[if_neg e] at hq;exact r.is k q hk hq
 ·intro k j q q' b1 N1 M1 hk hj hq eN cV h1 h2;rw[g k hk] at hq;rw[g j hj] at eN;let⟨y,hy,xp⟩:=live k hk q hq;let⟨z,hz,Iu⟩:=live j hj q' eN;exact r.one k j y z b1 N1 M1 hk hj hy hz (cV.imp xp Iu) h1 h2
 ·intro i m' iw jr l' c' hi hq;rw[g i hi] at hq;by_cases e:i=m
  ·subst e;rw[if_pos rfl] at hq;cases hq;simp[ah.plain] at ho
  ·rw[if_neg e] at hq;let⟨fG,hl,u'⟩:=r.iter i m' iw jr l' c' hi hq;have L8:m'≠m:=by intro e2;subst e2;exact mq i _ _ _ _ hi hq
   exact⟨fG,by rw[g m' fG,if_neg L8];exact hl,u'⟩
 ·intro i j m' A4 A5 Ak AH MM MO Lo LX hi hj q1 q2;rw[g i hi] at q1;rw[g j hj] at q2;by_cases e:i=m
  ·rw[if_pos e] at q1;cases q1;simp[ah.plain] at ho
  ·rw[if_neg e] at q1;by_cases e2:j=m
   ·rw[if_pos e2] at q2;cases q2;simp[ah.plain] at ho
   ·rw[if_neg e2] at q2;exact r.lone i j m' _ _ _ _ _ _ _ _ hi hj q1 q2
theorem Rel.YV(r:Rel B ρ h w)(ht:n<top)(hg:h.get n=some (.iter m es ex left cur)):Rel B ρ ((h.put n none).put m<|some<|mapOf ex es) w:=by
 let⟨pJ,fE,b,N,bm,M,l,bu,seen,h1,h2,h3,h4,h5,h6,h7,h8,h9⟩:=r.iter n m es ex left cur ht hg;have tg:m≠n:=by intro e;subst e;rw[hg] at fE;cases fE
 have g:∀k,k<top->(h.put n none).get k=if k=n then none else h.get k:=fun k hk=>Tr.dy _ _ _ _ ht hk
 refine(r.drop ht (by rw[hg];simp)).ad7 pJ (by rw[g m pJ,if_neg tg];exact fE) h2 h4 ?_ (by cases ex<;>rfl) ?_
 ·cases ex with
  |true=>let⟨q1,q2⟩:=h6 rfl;subst q1;exact⟨l,rfl,rfl,q2⟩
  |false=>let⟨q1,q2⟩:=h7 rfl;exact⟨l,bu,rfl,q1,h5,q2⟩
 ·intro i iw jr iW iY hi hq;rw[g i hi] at hq;by_cases e:i=n
  ·rw[if_pos e] at hq;cases hq
  ·rw[if_neg e] at hq;exact e<|r.lone i n m _ _ _ _ _ _ _ _ hi ht hq hg
end
section
variable {rest:List Oper} {ops:Array Oper} {o:Oper} {k:List Item} {it:Operand}
section
variable {P:Program} {B:aE} {ρ:Ren} {w w1:World} {s s1 s2:AS} {Tu:aJ} {b:Frame} {a:Act} {cs:List Frame}
theorem put_defers(a:Act)(dst:Option Tmp)(v:Value):(a.put dst v).defers=a.defers:=by cases dst<;>rfl
theorem Jd{fr:AF}{id:Nat}{t1 t2:Tr AV}{v:Value}(hc:gk P B Tu)(hl:∀t a,Tt<|Tu t a)(bI:Fr ρ fr b a)(pn:fr.todo= .code (.region id ops false)::k)(mR:ops.toList=o::rest)(De:o.guard=none)(hd:∀c,o.op≠ .defer c)(ri:(execOp a.eval o).run P w= .ok (.value v) w1)(yQ:cI B w w1)(ay:At B ρ s1 fr.nt t1 w1<|a.put o.dst v)(cM:s1.nx=s.nx)(hf:dU s1.nx s2.nx ρ)(h:jE P Tu fr.nt ops rest t1 s1= .ok t2 s2):
 mw P B ρ s s2 w fr b cs (lone (b.atR a fr.todo) cs w) (.go {fr with tmps:=t2,todo:=k}):=by
 have hw:Region.wanted o (yielded ops a.tmps)=true:=by unfold Region.wanted;rw[De]
 have ho:ops[0]? =some o:=by rw[←VC,mR];rfl
 have j9:ops.size=rest.length+1:=by rw[←Uq,mR];rfl
 have hk:jQ k:=by have:=bI.ok;rw[pn] at this;exact this.tail
 obtain⟨v',w',⟨rfl,rfl⟩,st⟩:=aaQ (R:=fun v' w'=>v'=v/\w'=w1) ho hw hd (by unfold jj;rw[ri];exact⟨rfl,rfl⟩) b k cs<|VO 1 rest.length;let⟨σ,a',w2,e1,e2,e3,e4,e5⟩:=OQ hc hl b k cs rest.length 1 rest rfl (by rw[mR];rfl) ay hf h;refine⟨σ,a',w2,by rw[←cM];exact e1,e2,?_,yQ.trans e4,⟨rfl,rfl,rfl⟩,hk,trivial,?_⟩
 ·rw[e3,put_defers];exact bI.defs.mono e1.le
 ·rw[pn];refine .head stepR_region ?_;rw[List.range_eq_range',j9,Wa];exact Steps.trans st e5
theorem aaH{fr:AF}{n:Nat}{ob:ah}(h:sb fr it s= .ok (n,ob) s1):aF fr.tmps it=some (.ptr<|some (n,0))/\bA n s= .ok ob s1:=by
 unfold sb at h;let⟨x,s2,h1,h2⟩:=M.aQ h;obtain⟨h3,rfl⟩:=ij h1;split at h2
 ·let⟨y,s3,h4,h5⟩:=M.aQ h2;obtain⟨h6,rfl⟩:=bG h5;cases h6;exact⟨h3,h4⟩
 ·cases h2
theorem aas{fr:AF}(h:BN fr=some (it,o,ops,rest,k)):
 ∃id,fr.todo= .code (.region id ops false)::k/\ops.toList=o::rest/\o.guard=none/\o.op= .next it false:=by
 unfold BN at h;split at h
 ·rename_i id aos k' pn;split at h
  ·rename_i o' aom mR;split at h
   ·rename_i it' hg ho;cases h;exact⟨id,pn,mR,hg,ho⟩
   ·cases h
  ·cases h
 ·cases h
theorem aaV(bR:P.follows .mixedOrders=true)(hc:gk P B Tu)(hl:∀t a,Tt<|Tu t a):∀(f:Nat) {ρ:Ren} {w:World} {s s9:AS} {a:Act} {fr:AF} {x9:bw},Fr ρ fr b a->At B ρ s fr.nt fr.tmps w a->dU s.nx s9.nx ρ->
 oj P Tu f fr s= .ok x9 s9->mw P B ρ s s9 w fr b cs (lone (b.atR a fr.todo) cs w) x9
 |0,ρ,w,s,s9,a,fr,x9,bI,ay,hf,h=>by cases h
 |f+1,ρ,w,s,s9,a,fr,x9,bI,ay,hf,h=>by
  have on:∀{s2:AS} {aR:AF},oj P Tu f aR s2= .ok x9 s9->bH s2->s.nx<=s2.nx->mw P B ρ s s2 w fr b cs (lone (b.atR a fr.todo) cs w) (.go aR)->mw P B ρ s s9 w fr b cs (lone (b.atR a fr.todo) cs w) x9:=fun h2 dO lE w1=>w1.Lq bI lE ((Tt.oj P hl f _).le dO h2) fun σ a' w' e1 CF CG=>aaV bR hc hl f CF CG (hf.next lE e1) h2;unfold oj at h;cases e:BN fr with
  |none=>
   rw[e] at h;let⟨x,s2,e1,h3⟩:=M.aQ h;have dO:=(Tt.jB P hl fr).cG ay.cG e1;have lE:=(Tt.jB P hl fr).le ay.cG e1;cases x with
   |go aR=>exact on h3 dO lE<|Gs bR hc hl bI ay (hf.sub (Tz _)<|(Tt.oj P hl f aR).le dO h3) e1
   |leave aR j=>obtain⟨rfl,rfl⟩:=bG h3;exact Gs bR hc hl bI ay hf e1
  |some q=>
   let⟨it,o,ops,rest,k⟩:=q;let⟨id,pn,mR,De,ho⟩:=aas e;rw[e] at h;let⟨x,s2,e1,h3⟩:=M.aQ h;let⟨n,ob⟩:=x;let⟨h1,h2⟩:=aaH e1;let⟨hx,hg,hh,cM⟩:=gr h2;have dO:bH s2:=(Tt.bA n).cG ay.cG h2;have ht:n<top:=TJ hx ay.cG.nx;have hd:∀c,o.op≠ .defer c:=fun c q=>by rw[ho] at q;cases q
   cases ob with
   |iter m es ex left cur=>
    let⟨pJ,fE,u⟩:=ay.rel.iter n m es ex left cur ht hg;let⟨bn,N,hn,qe⟩:=u.next (P:=P) o.type;have ID:VR ρ (.ptr<|some (n,0))<|a.eval it:=Eg ay.tr ay.g h1;have FK:a.eval it= .pointer (some ⟨bn,0,none⟩):=by simp only[VR] at ID;let⟨b',N',q1,q2⟩:=ID;rw[hn] at q1;cases q1;exact q2
    have Ho:∀v w',(Instr.next (.pointer<|some ⟨bn,0,none⟩) false o.type).run P w= .ok v w'->(execOp a.eval o).run P w= .ok (.value v) w':=by intro v w' q;simp only[execOp,ho,FK,TF,q,TH,TK]
    let⟨_,_,_,hB⟩:=ay.rel.block ht hg hn;cases left with
    |nil=>
     let⟨aR,s3,e3,h4⟩:=M.aQ h3;have ri:(Instr.next (.pointer<|some ⟨bn,0,none⟩) false o.type).run P w= .ok (.tuple #[.bool false]) w:=by
      rcases qe with⟨_,q⟩|⟨x,r,v1,v2,w',q,_⟩
      ·exact q
      ·cases q
     have jH:=(Tt.og P hl fr n m es ex o ops rest k).cG dO e3;have Dd:=(Tt.og P hl fr n m es ex o ops rest k).le dO e3;have Sg:=(Tt.oj P hl f aR).le jH h4;refine on h4 jH ak ?_;unfold og at e3;let⟨u1,s4,i1,i2⟩:=M.aQ e3;let⟨u2,s5,i3,i4⟩:=M.aQ i2;let⟨t1,s6,i5,i6⟩:=M.aQ i4;let⟨t2,s7,i7,i8⟩:=M.aQ i6;obtain⟨rfl,rfl⟩:=bG i8;obtain⟨i9,rfl⟩:=ij i5;let⟨_,_,_,j1,j2⟩:=jP i1;let⟨_,_,_,j3,j4⟩:=jP i3;have Df:bH s6:=(Tt.bS m _).cG ((Tt.bS n _).cG dO i1) i3;have CH:Rel B ρ s6.h w:=by rw[j3,j1,hh];exact ay.rel.YV ht hg
     have Dg:VR ρ (.tuple [.bool false])<|.tuple #[.bool false]:=by simp only[VR,ax];exact⟨_,rfl,_,_,rfl,rfl,rfl⟩
     let⟨q1,q2⟩:=D4 (a:=a) ay.tr ay.nt i9 Dg;exact Jd hc hl bI pn mR De hd (Ho _ _ ri) (cI.refl _ _) ⟨q1,CH,ay.g,ay.nt,Df⟩ (by rw[j4,j2,cM]) (by rw[j4,j2,cM];exact hf.sub (Tz _) Sg) i7
    |cons y ys=>
     cases ys with
     |cons _ _=>cases h3
     |nil=>
      let⟨aR,s3,e3,h4⟩:=M.aQ h3;rcases qe with⟨q,_⟩|⟨x,r,v1,v2,w',iN,FP,th,ri,IE,hblk,Sh⟩
      ·cases q
      ·obtain⟨rfl,rfl⟩:x=y/\r=[]:=by simpa[yF] using iN
       have jH:=(Tt.oi P hl fr n (.iter m es ex []<|some x) o ops rest k<|.tuple [.bool true,x.1,x.2]).cG dO e3;have Dd:=(Tt.oi P hl fr n (.iter m es ex []<|some x) o ops rest k<|.tuple [.bool true,x.1,x.2]).le dO e3;have Sg:=(Tt.oj P hl f aR).le jH h4;refine on h4 jH ak ?_;unfold oi at e3;let⟨u1,s4,i1,i2⟩:=M.aQ e3;let⟨t1,s6,i5,i6⟩:=M.aQ i2;let⟨t2,s7,i7,i8⟩:=M.aQ i6;obtain⟨rfl,rfl⟩:=bG i8;obtain⟨i9,rfl⟩:=ij i5;let⟨_,_,_,j1,j2⟩:=jP i1;have Df:bH s6:=(Tt.bS n _).cG dO i1;have CH:Rel B ρ s6.h w':=by rw[j1,hh];exact ay.rel.XH ht hg hn IE hblk Sh
       have Dg:VR ρ (.tuple [.bool true,x.1,x.2])<|.tuple #[.bool true,v1,v2]:=by simp only[VR,ax];exact⟨_,rfl,_,_,rfl,rfl,_,_,rfl,FP,_,_,rfl,th,rfl⟩
       let⟨q1,q2⟩:=D4 (a:=a) ay.tr ay.nt i9 Dg;exact Jd hc hl bI pn mR De hd (Ho _ _ ri) (IE.below<|hB rfl) ⟨q1,CH,ay.g,ay.nt,Df⟩ (by rw[j2,cM]) (by rw[j2,cM];exact hf.sub (Tz _) Sg) i7
   |_=>cases h3
end
end
section
variable {x:AV} {vs:Array Value} {args:List AV} {u:Nat} {j:Option Code} {fn:Func} {body:Code}
section
variable {P:Program} {B:aE} {ρ:Ren} {w:World} {s s1:AS} {Tu:aJ}
theorem I5(hv:ax ρ args vs.toList)(n:Nat)(hn:max n args.length<=top):TR ρ (max n args.length) (dZ args)<|vs++Us (n - vs.size) undef:=by
 have hlen:=hv.length;simp only[Uq] at hlen;refine⟨by simp;omega,fun i x hx=>?_⟩;unfold dZ at hx;rw[Tr.rR _ _ _ _ ak] at hx;by_cases h:i<args.length
 ·rw[if_pos ak,Uk] at hx;let⟨v,h1,h2⟩:=hv.get i x hx;rw[Ua,Wi ak];rw[VC] at h1;rw[h1];exact h2
 ·rw[if_neg ak,Tr.get_nil] at hx;cases hx
def Kw:List AV->AV
 |[v]=>v
 |l=>.tuple l
def pd:List Value->Value
 |[v]=>v
 |l=>.tuple l.toArray
theorem Oj:∀{rs:List AV} {us:List Value},ax ρ rs us->VR ρ (Kw rs) (pd us)
 |[],us,h=>by simp only[ax] at h;subst h;simp only[Kw,pd,VR,ax];exact⟨_,rfl,rfl⟩
 |[v],us,h=>by simp only[ax] at h;obtain⟨u,MR,rfl,g1,rfl⟩:=h;exact g1
 |v::v2::rs,us,h=>by simp only[ax] at h;obtain⟨u,MR,rfl,g1,u2,us2,rfl,g3,g4⟩:=h;simp only[Kw,pd,VR,ax];exact⟨_,rfl,u,_,rfl,g1,u2,us2,rfl,g3,g4⟩
theorem NS{rs:List ResultVar}{fr:AF}(h:finish P rs fr j s= .ok x s1):
 (j=none\/j=some .ret)/\∃u s4 vs,rV fr.defers s= .ok u s4/\tW P fr.tmps rs s4= .ok vs s1/\x=Kw vs:=by
 unfold finish at h;let⟨u,s3,h5,h6⟩:=M.aQ h;have R2:s3=s/\(j=none\/j=some .ret):=by
  cases j with
  |none=>exact⟨(bG (show M.pure () s= .ok u s3 from h5)).2,.inl rfl⟩
  |some c=>cases c<;>first|exact⟨(bG (show M.pure () s= .ok u s3 from h5)).2,.inr rfl⟩|cases h5
 let⟨hs,hj⟩:=R2;clear h5 h;subst hs;let⟨u2,s4,h7,h8⟩:=M.aQ h6;let⟨vs,s5,h9,gT⟩:=M.aQ h8;refine⟨hj,u2,s4,vs,h7,?_⟩;cases vs with
 |nil=>obtain⟨rfl,rfl⟩:=bG (show M.pure (.tuple []) s5= .ok x s1 from gT);exact⟨h9,rfl⟩
 |cons v rs=>
  cases rs with
  |nil=>obtain⟨rfl,rfl⟩:=bG (show M.pure v s5= .ok x s1 from gT);exact⟨h9,rfl⟩
  |cons v2 rs=>obtain⟨rfl,rfl⟩:=bG (show M.pure (.tuple<|v::v2::rs) s5= .ok x s1 from gT);exact⟨h9,rfl⟩
theorem ad8{b:Frame}{a:Act}{cs:List Frame}(bR:P.follows .mixedOrders=true)(hc:gk P B Tu)(hl:∀t a,Tt<|Tu t a){af:AF}{x:bw}(bI:Fr ρ af b a)(ay:At B ρ s af.nt af.tmps w a)(hf:dU s.nx s1.nx ρ)(h:AE P Tu u af s= .ok x s1):mw P B ρ s s1 w af b cs (lone (b.atR a af.todo) cs w) x:=by
 unfold AE at h;cases e:Tx u 1 with
 |true=>simp only[e] at h;exact aaV bR hc hl _ bI ay hf h
 |false=>simp only[e] at h;exact Oi bR hc hl _ _ bI ay hf h
theorem aah{g:FuncId}{fr:AF}{s2 s3:AS}(cv:P.funcs[g]? =some fn)(cF:fn.body=some body)(Ba:bH s2)(hw:∀cs:List Frame,mw P B ρ s s2 w ⟨g,dZ args,max fn.ntmps args.length,[.code body],[],none⟩ {(default:Frame) with fn:=g,kind:=.normal,roundOf:=none} cs
 (lone (({(default:Frame) with fn:=g,kind:=.normal,roundOf:=none}:Frame).atR {tmps:=vs++Us (fn.ntmps - vs.size) undef,defers:=[]} [.code body]) cs w) (.leave fr j))(qq:finish P fn.results.toList fr j s2= .ok x s3):Calls P g vs w fun e w'=>∃v,e= .returned v/\ky B ρ s s3 w x v w':=by
 intro cs;let b:Frame:={(default:Frame) with fn:=g,kind:=.normal,roundOf:=none};let a:Act:={tmps:=vs++Us (fn.ntmps - vs.size) undef,defers:=[]};have yq:Frame.enter P g vs .normal=b.atR a [.code body]:=by simp[Frame.enter,Frame.atR,cv,cF,b,a]
 let⟨σ,a',w',e1,e2,e3,e4,⟨e5,FQ,aot⟩,e6,e7,e8⟩:=hw cs;let⟨hj,u2,s4,rs,h7,h9,hx⟩:=NS qq;have pK:bH s4:=(Tt.rV _).cG Ba h7;have qC:Leaves j fr.todo:=e7;let⟨d1,d2,w2,d3,d4,d5⟩:=I4 (P:=P) (fr:=b) (cs:=cs) Ba e2.rel e3 h7;let⟨f1,f2,us,f3,f4⟩:=I1 (P:=P) (w:=w2) e2.tr pK d3 h9;have HJ:Steps P (lone (b.atR a' fr.todo) cs w')<|lone {b.atR a' fr.todo with mode:=.returning} cs w':=by
  rcases hj with rfl|rfl
  ·have e:fr.todo=[]:=qC;rw[e];exact .one<|stepR_end rfl
  ·let⟨k,e⟩:=qC;rw[e];exact .one<|stepR_ret rfl
 have yG:=d5 {b.atR a' fr.todo with mode:=.returning} cs j0 rfl;have lT:(results fn a'.tmps).run P w2= .ok (pd us) w2:=by
  unfold results;rw[Wj];simp only[TF,map_eq_pure_bind,TK];refine Eq.trans (congrArg (fun r:Result (List Value)=>(r.andThen fun a w'=>Result.ok a.toArray w').andThen fun a w'=>Result.ok (if h:a.size=1 then a[0] else Value.tuple a) w') f3) ?_;have:∀l:List Value,(Result.ok (if h:l.toArray.size=1 then l.toArray[0] else Value.tuple l.toArray) w2:Result Value)= .ok (pd l) w2:=by
   intro l
   match l with
   |[]=>rfl
   |[v]=>rfl
   |v::v2::l=>simp[pd]
  exact this us
 refine⟨.returned<|pd us,w2,{b.atR a' fr.todo with mode:=.returning,defers:=[]},⟨_,rfl,?_⟩,?_,rfl,?_⟩
 ·exact⟨σ,by rw[show s3.nx=s2.nx by rw[f2,d1]];exact e1,by rw[hx];exact Oj f4,by rw[f1];exact d3,e4.trans d4⟩
 ·rw[yq];exact Steps.trans e8<|Steps.trans HJ yG
 ·exact⟨rfl,rfl,rfl,fn,cv,lT⟩
theorem ad9(bR:P.follows .mixedOrders=true)(hc:gk P B Tu)(hl:∀t a,Tt<|Tu t a){f:FuncId}(cv:P.funcs[f]? =some fn)(cF:fn.body=some body)(dF:(fn.name == "runtime.NumGoroutine")=false)(fH:iS body)(fi:bH s)(r:Rel B ρ s.h w)(hg:gG ρ)(hf:dU s.nx s1.nx ρ)(h:EP P u f fn.ntmps fn.results.toList body Tu args s= .ok x s1)(hv:ax ρ args vs.toList):jj P ((callFunc f vs).run P w)<|ky B ρ s s1 w x:=by
 have bQ:(callFunc f vs).run P w= .ok (.enter f vs) w:=by
  have Hp:(program).run P w= .ok P w:=rfl;have hn:fn.name≠ "runtime.NumGoroutine" :=by simpa using dF
  simp only[callFunc,TF,Hp,TH,cv,dF,cF];simp
 rw[bQ];unfold EP at h;let⟨h1,h2⟩:=dv h;have pz:=aI.1 h1;let⟨y,s2,h3,h4⟩:=M.aQ h2;cases y with
 |go fr=>cases h4
 |leave fr j=>have IF:finish P fn.results.toList fr j s2= .ok x s1:=h4;have dO:=(Tt.AE P hl u ⟨f,dZ args,max fn.ntmps args.length,[.code body],[],none⟩).cG fi h3;have Db:=(Tt.finish P fn.results.toList fr j).le dO IF;exact aah cv cF dO (fun cs=>ad8 (b:={(default:Frame) with fn:=f,kind:=.normal,roundOf:=none}) (a:={tmps:=vs++Us (fn.ntmps - vs.size) undef,defers:=[]}) (cs:=cs) bR hc hl ⟨rfl,rfl,trivial,rfl,.cons fH .nil⟩ ⟨I5 hv _ pz,r,hg,pz,fi⟩ (hf.sub (Tz _) Db) h3) IF
structure bY (P:Program):Prop where
 mixed:P.follows .mixedOrders=true
 code:∀(f:FuncId) (fn:Func) (body:Code),P.funcs[f]? =some fn->fn.body=some body->iS body
def XI(_:Program)(_:aE)(_:FuncId->Nat):Prop:=True
theorem amH(hP:bY P){kH:FuncId->Nat}(hw:XI P B kH):∀(n:Nat),gk P B (AG P kH n)
 |0=>⟨(fun f args x s s1 ρ w vs _ _ _ _ h _=>by cases h),(fun l b N args x s s1 ρ w vs _ _ _ _ h _ _=>by cases h),(fun n o k x s s1 ρ w _ _ h=>by cases h)⟩
 |n+1=>by
  have ih:=amH hP hw n;refine⟨fun f args x s s1 ρ w vs fi r hg hf h hv=>?_,fun l b N args x s s1 ρ w vs fi r hg hf h hv hl=>acY hP.mixed ih (Jh P kH n) fi r hg hf h hv hl,fun n o k x s s1 ρ w _ _ h=>by cases h⟩;have h':(Ir P kH f).val (AG P kH n) args s= .ok x s1:=h;unfold Ir at h';cases e1:P.funcs[f]? with
  |none=>rw[e1] at h';cases h'
  |some fn=>
   rw[e1] at h';cases e2:fn.body with
   |none=>simp only[e2] at h';cases h'
   |some body=>
    simp only[e2] at h';cases e3:(fn.name == "runtime.NumGoroutine") with
    |true=>simp only[e3] at h';cases h'
    |false=>simp only[e3] at h';exact ad9 hP.mixed ih (Jh P kH n) e1 e2 e3 (hP.code f fn body e1 e2) fi r hg hf h' hv
end
end
theorem sameKey_eq{a b:AV}(h:sameKey a b=some true):a=b:=by
 unfold sameKey at h;split at h<;>first|(cases h;done)|skip
 ·rename_i k x k' y;cases hk:decide (k=k') with
  |false=>rw[hk] at h;cases h
  |true=>
   rw[hk] at h;injection h with h
   have e1:=of_decide_eq_true hk;have e2:x=y:=by simpa using h
   rw[e1,e2]
 ·rename_i x y;injection h with h
  let⟨x⟩:=x;let⟨y⟩:=y;have e:x=y:=by have h':(x == y)=true:=h;exact eq_of_beq h'
  rw[e]
 ·rename_i x y;injection h with h
  have e:x=y:=by simpa using h
  rw[e]
end Go.Rn
namespace Go.Rn
open Go.RowKit
section
def eL(P:Program)(Tu:aJ)(k:Nat):AF->M bw:= @Nat.rec (fun _=>AF->M bw) (fun fr=>M.pure<|.go fr) (fun _ ih fr=>(jB P Tu fr).bind fun x=> @bw.rec (fun _=>M bw) ih (fun fr j=>M.pure<|.leave fr j) x) k
def ud:List Nat->Code->Code
 |[],c=>c
 |0::l,.seq a _=>ud l a
 |_::l,.seq _ b=>ud l b
 |0::l,.cond _ a _=>ud l a
 |_::l,.cond _ _ b=>ud l b
 |_::l,.block _ b=>ud l b
 |_::l,.loop b=>ud l b
 |_::l,.scope b=>ud l b
 |0::l,.rangeFunc _ _ a _=>ud l a
 |_::l,.rangeFunc _ _ _ b=>ud l b
 |_::_,c=>c
def getAll(h:Tr ah):List Nat->List (Option ah)
 |[]=>[]
 |n::ns=>h.get n::getAll h ns
def amI:List (Option ah)->Bool
 |[]=>true
 |none::l=>amI l
 |some o::l=>match o.plain with
  |true=>amI l
  |false=>false
def P5(m:Nat):List Nat->Bool
 |[]=>true
 |n::l=>match Tv n m with
  |true=>P5 m l
  |false=>false
end
theorem NT{m:Nat}:∀{l:List Nat},P5 m l=true->∀n∈l,n<m
 |[],_,n,h=>by cases h
 |a::l,hp,n,h=>by
  unfold P5 at hp;split at hp
  ·rename_i e;rcases Ty.1 h with rfl|h
   ·rw[←blt_eq];exact e
   ·exact NT hp n h
  ·cases hp
section
variable {P:Program} {B:aE} {ρ:Ren} {w:World} {s s1:AS} {Tu:aJ} {b:Frame} {a:Act} {cs:List Frame}
theorem Tt.eL(P:Program){Tu:aJ}(bQ:∀t a,Tt<|Tu t a):∀(k:Nat) (fr:AF),Tt (eL P Tu k fr)
 |0,fr=>Tt.pure _
 |k+1,fr=>by
  refine Tt.bind (Tt.jB P bQ fr) fun x=>?_;cases x with
  |go fr=>exact Tt.eL P bQ k fr
  |leave fr j=>exact Tt.pure _
theorem JM(bR:P.follows .mixedOrders=true)(hc:gk P B Tu)(hl:∀t a,Tt<|Tu t a):∀(k:Nat) {ρ:Ren} {w:World} {s s1:AS} {a:Act} {af:AF} {x:bw},Fr ρ af b a->At B ρ s af.nt af.tmps w a->dU s.nx s1.nx ρ->
 eL P Tu k af s= .ok x s1->mw P B ρ s s1 w af b cs (lone (b.atR a af.todo) cs w) x
 |0,ρ,w,s,s1,a,af,x,bI,ay,hf,h=>by obtain⟨rfl,rfl⟩:=bG (show M.pure (.go af) s= .ok x s1 from h);exact DX bI ay rfl rfl ⟨rfl,rfl,rfl⟩ bI.ok trivial<|Steps.refl _ _
 |k+1,ρ,w,s,s1,a,af,x,bI,ay,hf,h=>by
  let⟨y,s2,h1,h2⟩:=M.aQ (show((jB P Tu af).bind fun x=> @bw.rec (fun _=>M bw) (eL P Tu k) (fun fr j=>M.pure<|.leave fr j) x) s= .ok x s1 from h);have lE:=(Tt.jB P hl af).le ay.cG h1;have dO:=(Tt.jB P hl af).cG ay.cG h1;cases y with
  |go fr=>have ti:eL P Tu k fr s2= .ok x s1:=h2;have qA:=(Tt.eL P hl k fr).le dO ti;have w1:=Gs (b:=b) (cs:=cs) bR hc hl bI ay (hf.sub (Tz _) qA) h1;exact w1.Lq bI lE qA fun σ a' w' e1 CF CG=>JM bR hc hl k CF CG (hf.next lE e1) ti
  |leave fr j=>obtain⟨rfl,rfl⟩:=bG (show M.pure (.leave fr j) s2= .ok x s1 from h2);exact Gs bR hc hl bI ay hf h1
theorem afn{h:Tr ah}{nx:Nat}(hb:Tw nx top=true):bH ⟨h,nx,0,[],[]⟩:=⟨TN _,aI.1 hb⟩
end
section
variable {U:Nat} {v:Value} {b a:AV}
structure Start (U:Nat) (h0:Tr ah) (ρ:Ren) (w:World):Prop where
 g:gG ρ
 free:∀k,U<=k->ρ k=none
 is:∀n o,n<top->h0.get n=some o->o.nq=true/\∃b N o',ρ n=some (b,N)/\w.heap[b]? =some o'/\OR ρ N o o'
theorem Start.rel{h0:Tr ah}{ρ:Ren}{w:World}(S:Start U h0 ρ w)(ht:U<=top):Rel (agP w) ρ h0 w:=by
 refine⟨fun n o hn h=>?_,fun n m o p b N M hn hm h1 h2 cV _ _=>?_,fun n m es ex left cur hn h=>?_,fun _ hk=>hk,fun i j m es ex left cur iw jr iW iY hi _ h1 _=>?_,fun n b sh e=>absurd (S.free _<|TO ht<|gb n b sh) e,vh.no (fun n k v hn hg=>by have:=(S.is n _ hn hg).1;cases this) ⟨Tz _,fun n o hn hg _=>by let⟨_,b,N,o',h1,h2,_⟩:=S.is n o hn hg;exact⟨b,N,h1,gC h2⟩⟩⟩
 ·let⟨hr,b,N,o',h1,h2,h3⟩:=S.is n o hn h;have hr:=ah.kL hr;exact⟨b,N,o',h1,h2,h3,fun q=>by rw[hr] at q;cases q⟩
 ·have e1:=ah.kL (S.is n o hn h1).1;have e2:=ah.kL (S.is m p hm h2).1;rcases cV with q|q
  ·rw[e1] at q;cases q
  ·rw[e2] at q;cases q
 ·have:=(S.is n _ hn h).1;cases this
 ·have:=(S.is i _ hi h1).1;cases this
section
variable {P:Program} {B:aE} {ρ:Ren} {w:World} {s s1:AS} {Tu:aJ}
end
section
def Fk(U:Nat):AV->AV->Bool
 | .nilFunc,.nilFunc=>true
 | .func (.func f) [] [],.func (.func g) [] []=>Tx f g
 | .slice none 0 (.known 0),.slice none 0 (.known 0)=>true
 | .ab a b c,.ab d e f=>and (Tx a d)<|and (Tx b e)<|and (Tx c f)<|and (Tv d U)<|Tv d top
 |x,y=>match sameKey x y with
  |some true=>true
  |_=>false
def GR(U:Nat)(t u:Tr AV):Nat->Bool
 |0=>true
 |i+1=>match t.get i,u.get i with
  |some a,some b=>and (Fk U a b)<|GR U t u i
  |_,_=>false
def pe(U:Nat):ah->ah->Bool
 | .ro m t,.ro n u=>and (Tx m n)<|GR U t u n
 | .uD m t,.uD n u=>and (Tx m n)<|GR U t u n
 |_,_=>false
def gj(U:Nat)(h0:Tr ah):List Nat->M Unit
 |[]=>M.pure ()
 |n::ns=>(bA n).bind fun o=>aB (h0.get n) fun p=>aG (pe U o p) <| gj U h0 ns
end
theorem Tt.gj(U:Nat)(h0:Tr ah):∀ns,Tt (gj U h0 ns)
 |[]=>Tt.pure _
 |n::ns=>Tt.bind (Tt.bA n) fun _=>Tt.aB fun _ _=>Tt.aG fun _=>Tt.gj U h0 ns
theorem amK{ρ:Ren}(h:Fk U a b=true)(hv:VR ρ a v):VR (fun k=>if k<U then ρ k else none) b v:=by
 unfold Fk at h;split at h
 ·simp only[VR] at hv ⊢;exact hv
 ·rename_i f g;have:f=g:=eP.1 h;subst this;simp only[VR,ax] at hv ⊢;exact hv
 ·simp only[VR] at hv ⊢;exact hv
 ·let⟨q1,q2⟩:=and_true.1 h;let⟨q3,q4⟩:=and_true.1 q2;let⟨q5,q6⟩:=and_true.1 q4;have e1:=eP.1 q1;have e2:=eP.1 q3;have e3:=eP.1 q5;subst e1;subst e2;subst e3;let⟨q6,q7⟩:=and_true.1 q6;have ct:=(blt_eq _ _).mp q6;have eY:=(blt_eq _ _).mp q7;simp only[VR] at hv ⊢;rcases hv with hv|⟨b,sh,c,h1,h2⟩
  ·exact .inl hv
  ·exact .inr ⟨b,sh,c,.inl ⟨by omega,(if_pos ct).trans<|h1.low ak⟩,h2⟩
 ·split at h
  ·rename_i e;have:=sameKey_eq e;subst this;unfold sameKey at e;split at e<;>first|(cases e;done)|(simp only[VR] at hv ⊢;exact hv)
  ·cases h
theorem NL{U:Nat}{t u:Tr AV}:∀{n:Nat},GR U t u n=true->∀i,i<n->∃a b,t.get i=some a/\u.get i=some b/\Fk U a b=true
 |0,_,i,hi=>by omega
 |n+1,h,i,hi=>by
  unfold GR at h;split at h
  ·rename_i a b e1 e2;let⟨q1,q2⟩:=and_true.1 h;by_cases q:i=n
   ·subst q;exact⟨a,b,e1,e2,q1⟩
   ·exact NL q2 i ak
  ·cases h
theorem aaW{ρ:Ren}(h:Fk U a b=true)(_:VR ρ a v):b.bM=true:=by
 unfold Fk at h;split at h
 ·rfl
 ·rfl
 ·rfl
 ·rfl
 ·split at h
  ·rename_i e;have:=sameKey_eq e;subst this;unfold sameKey at e;split at e<;>first|(cases e;done)|rfl
  ·cases h
theorem acd{N:Nat}{ρ:Ren}{o p:ah}{o':Obj}(h:pe U o p=true)(hO:OR ρ N o o'):p.nq=true/\OR (fun k=>if k<U then ρ k else none) N p o':=by
 unfold pe at h;split at h
 ·rename_i m t n u;let⟨q1,q2⟩:=and_true.1 h;have e1:=eP.1 q1;subst e1;obtain⟨c,e,fr,rfl,h1,h2,row⟩:=hO;refine⟨rfl,c,e,fr,rfl,h1,h2,fun i hi=>?_⟩;let⟨x,v,a1,a2,a3,a4⟩:=row i hi;let⟨a,b,b1,b2,b3⟩:=NL q2 i hi;rw[a1] at b1;cases b1;exact⟨b,v,b2,aaW b3 a4,a3,amK b3 a4⟩
 ·rename_i m t n u;let⟨q1,q2⟩:=and_true.1 h;have e1:=eP.1 q1;subst e1;obtain⟨c,e,fr,rfl,row⟩:=hO;refine⟨rfl,c,e,fr,rfl,fun i hi=>?_⟩;let⟨x,v,a1,a2,a3,a4⟩:=row i hi;let⟨a,b,b1,b2,b3⟩:=NL q2 i hi;rw[a1] at b1;cases b1;exact⟨b,v,b2,aaW b3 a4,a3,amK b3 a4⟩
 ·cases h
theorem vU{U:Nat}{h0:Tr ah}:∀{ns:List Nat} {s s1:AS} {u:Unit},gj U h0 ns s= .ok u s1->s1.h=s.h/\s1.nx=s.nx/\∀n∈ns,n<s.nx/\∃o p,s.h.get n=some o/\h0.get n=some p/\pe U o p=true
 |[],s,s1,u,h=>by obtain⟨_,rfl⟩:=bG (show M.pure () s= .ok u s1 from h);exact⟨rfl,rfl,fun n hn=>by cases hn⟩
 |m::ns,s,s1,u,h=>by
  let⟨o,s2,h1,h2⟩:=M.aQ (show((bA m).bind fun o=>aB (h0.get m) fun p=>aG (pe U o p) <| gj U h0 ns) s= .ok u s1 from h);let⟨a1,a2,a3,a4⟩:=gr h1;let⟨p,h3,h4⟩:=bz h2;let⟨h5,h6⟩:=dv h4;let⟨b1,b2,b3⟩:=vU h6;refine⟨b1.trans a3,b2.trans a4,fun n hn=>?_⟩;rcases Ty.1 hn with rfl|hn
  ·exact⟨a1,o,p,a2,h3,h5⟩
  ·let⟨c1,q1,q2,c2,c3,c4⟩:=b3 n hn;exact⟨by rw[←a4];exact c1,q1,q2,by rw[←a3];exact c2,c3,c4⟩
end
section
variable {P:Program} {B:aE} {ρ:Ren} {w:World} {s s1:AS} {Tu:aJ}
end
section
end
section
variable {P:Program} {Tu:aJ}
end
section
variable {k o n:Nat} {x:AV} {aR:AF} {f:FuncId} {vs:Array Value} {j:Option Code} {fn:Func} {body:Code} {args:List AV} {F:Nat->Option (List AV)}
section
def bw.anA:bw->Bool
 | .go _=>false
 | .leave _ _=>true
def p0(P:Program)(Tu:aJ)(fr:AF):M bw:=fun s=> @dite (R bw) (∃k,∃x s1,eL P Tu k fr s= .ok x s1/\x.anA=true) (Classical.propDecidable _) (fun h=>eL P Tu h.choose fr s) fun _=>.bad
def wv(P:Program)(f ntmps:Nat)(rs:List ResultVar)(body:Code)(Tu:aJ)(args:List AV):M AV:=
 aG (Tw (max ntmps args.length) top) <|
 (p0 P Tu ⟨f,dZ args,max ntmps args.length,[.code body],[],none⟩).bind fun st=> @bw.rec (fun _=>M AV) (fun _=>fail) (fun fr j=>finish P rs fr j) st
def xW(P:Program)(Tu:aJ)(l:Nat)(args:List AV):M AV:=(getLoop l).bind fun o=>match o with
 | .loop _ _ fn t nt ps a b _=>
  aG (and (Tx args.length ps.length)<|ps.all fun p=>Tv p nt) <|
  (p0 P Tu ⟨fn,jN ps args t,nt,[.code a,.beginRound,.code b],[],some l⟩).bind fun st=> @bw.rec (fun _=>M AV) (fun _=>fail) (fun _ j=>endRound l j) st
 |_=>fail
abbrev Sp:=FuncId->Option (aJ->List AV->M AV)
def jv(P:Program)(sp:Sp)(f:FuncId):aJ->List AV->M AV:=
 match sp f with
 |some m=>m
 |none=>match P.funcs[f]? with
  |none=>fun _ _=>fail
  |some fn=>match fn.body with
   |none=>fun _ _=>fail
   |some body=>match fn.name == "runtime.NumGoroutine" with
    |true=>fun _ _=>fail
    |false=>wv P f fn.ntmps fn.results.toList body
def rp(F:Nat->Option (List AV))(n o k:Nat):M AV:=aB (F n) fun l=>aG (Tw (o+k) l.length) <| M.pure<|.agg<|(l.drop o).take k
def ba(P:Program)(sp:Sp)(F:Nat->Option (List AV)):Nat->aJ
 |0=>fun t _=>match t with
  | .row n o k=>rp F n o k
  |_=>fail
 |n+1=>fun t args=>match t with
  | .fn f=>jv P sp f (ba P sp F n) args
  | .round l=>xW P (ba P sp F n) l args
  | .row n o k=>rp F n o k
end
section
variable {P:Program} {B:aE} {ρ:Ren} {w:World} {s s1:AS} {Tu:aJ} {b:Frame} {a:Act} {cs:List Frame}
theorem al1{fr:AF}:eL P Tu (k+1) fr s=((jB P Tu fr).bind fun x=> @bw.rec (fun _=>M bw) (eL P Tu k) (fun fr j=>M.pure<|.leave fr j) x) s:=rfl
theorem BW{fr:AF}(h:jB P Tu fr s= .ok (.go aR) s1):eL P Tu (k+1) fr s=eL P Tu k aR s1:=by rw[al1,M.bO h]
theorem aea{fr:AF}(h:jB P Tu fr s= .ok (.leave aR j) s1):eL P Tu (k+1) fr s= .ok (.leave aR j) s1:=by rw[al1,M.bO h];rfl
theorem Ol:∀{k k':Nat} {fr aR:AF} {j:Option Code} {s s1:AS},eL P Tu k fr s= .ok (.leave aR j) s1->k<=k'->eL P Tu k' fr s= .ok (.leave aR j) s1
 |0,_,_,_,_,_,_,h,_=>by cases h
 |k+1,0,_,_,_,_,_,_,hk=>by omega
 |k+1,k'+1,fr,aR,j,s,s1,h,hk=>by
  obtain⟨y,s2,h1,h2⟩:=M.aQ (show((jB P Tu fr).bind fun x=> @bw.rec (fun _=>M bw) (eL P Tu k) (fun fr j=>M.pure<|.leave fr j) x) s= .ok _ s1 from h);cases y with
  |go qD=>rw[BW h1];exact Ol (show eL P Tu k qD s2=_ from h2) ak
  |leave qD j'=>rw[aea h1];exact h2
theorem Jt{fr:AF}(h:eL P Tu k fr s= .ok (.leave aR j) s1):p0 P Tu fr s= .ok (.leave aR j) s1:=by
 have hex:∃k,∃x s1,eL P Tu k fr s= .ok x s1/\x.anA=true:=⟨k,_,_,h,rfl⟩;unfold p0;rw[dif_pos hex];obtain⟨x,s2,h1,h2⟩:=hex.choose_spec;cases x with
 |go _=>cases h2
 |leave kR j2=>have e1:=Ol h1<|Nat.le_max_left hex.choose k;have e2:=Ol h<|Nat.le_max_right hex.choose k;rw[e1] at e2;rw[h1,e2]
theorem aaX{fr:AF}{x:bw}(h:p0 P Tu fr s= .ok x s1):∃k aR j,x= .leave aR j/\eL P Tu k fr s= .ok (.leave aR j) s1:=by
 unfold p0 at h;split at h
 ·rename_i hex;obtain⟨y,s2,h1,h2⟩:=hex.choose_spec;cases y with
  |go _=>cases h2
  |leave kR j2=>rw[h1] at h;cases h;exact⟨_,kR,j2,rfl,h1⟩
 ·cases h
theorem Tt.p0(P:Program){Tu:aJ}(hl:∀t a,Tt<|Tu t a)(fr:AF):Tt<|p0 P Tu fr:=by intro s v s1 fi h;obtain⟨k,aR,j,rfl,h1⟩:=aaX h;obtain⟨dr,dw,d,al⟩:=Tt.eL P hl k fr s _ s1 fi h1;refine⟨dr,dw,d,fun A m0 t ag hA=>?_⟩;obtain⟨t1,e1,e2⟩:=al A m0 t ag hA;exact⟨t1,Jt e1,e2⟩
theorem Tt.wv(P:Program)(f n:Nat)(rs:List ResultVar)(body:Code){Tu:aJ}(bQ:∀t a,Tt<|Tu t a)(args:List AV):Tt<|wv P f n rs body Tu args:=
 Tt.aG (fun _=>Tt.bind (Tt.p0 P bQ _) (fun x=>by
  cases x with
  |go fr=>exact Tt.fail
  |leave fr j=>exact Tt.finish P rs fr j))
theorem Tt.xW(P:Program){Tu:aJ}(bQ:∀t a,Tt<|Tu t a)(l:Nat)(args:List AV):Tt<|xW P Tu l args:=by
 unfold Rn.xW;refine Tt.bind (Tt.getLoop _) fun o=>?_;split
 ·exact Tt.aG fun _=>Tt.bind (Tt.p0 P bQ _) (fun x=>by
   cases x with
   |go fr=>exact Tt.fail
   |leave fr j=>exact Tt.endRound l j)
 ·exact Tt.fail
structure L9 (P:Program) (B:aE) (sp:Sp):Prop where
 loc:∀f m,sp f=some m->∀Tu:aJ,(∀t a,Tt<|Tu t a)->∀args,Tt<|m Tu args
 FT:∀f m,sp f=some m->∀Tu:aJ,gk P B Tu->(∀t a,Tt<|Tu t a)->∀(args:List AV) (x:AV) (s s1:AS) (ρ:Ren) (w:World) (vs:Array Value),bH s->Rel B ρ s.h w->gG ρ->dU s.nx s1.nx ρ->
  m Tu args s= .ok x s1->ax ρ args vs.toList->jj P ((callFunc f vs).run P w) (ky B ρ s s1 w x)
theorem p6{sp:Sp}{m:aJ->List AV->M AV}(h:sp f=some m):jv P sp f=m:=by unfold jv;rw[h]
theorem OU{sp:Sp}(h:sp f=none)(cv:P.funcs[f]? =some fn)(cF:fn.body=some body)(dF:(fn.name == "runtime.NumGoroutine")=false):jv P sp f=wv P f fn.ntmps fn.results.toList body:=by unfold jv;simp only[h,cv,cF,dF]
theorem al2(sp:Sp)(f:FuncId):(∃m,sp f=some m/\jv P sp f=m)\/(jv P sp f=fun _ _=>fail)\/(∃fn body,P.funcs[f]? =some fn/\fn.body=some body/\(fn.name == "runtime.NumGoroutine")=false/\jv P sp f=wv P f fn.ntmps fn.results.toList body):=by
 cases e:sp f with
 |some m=>exact .inl ⟨m,rfl,p6 e⟩
 |none=>
  cases e1:P.funcs[f]? with
  |none=>refine .inr<|.inl ?_;unfold jv;simp only[e,e1]
  |some fn=>
   cases e2:fn.body with
   |none=>refine .inr<|.inl ?_;unfold jv;simp only[e,e1,e2]
   |some body=>
    cases e3:(fn.name == "runtime.NumGoroutine") with
    |true=>refine .inr<|.inl ?_;unfold jv;simp only[e,e1,e2,e3]
    |false=>exact .inr<|.inr ⟨fn,body,rfl,e2,e3,OU e e1 e2 e3⟩
theorem acZ(P:Program){sp:Sp}(hs:L9 P B sp)(f:FuncId){Tu:aJ}(hl:∀t a,Tt<|Tu t a)(args:List AV):Tt<|jv P sp f Tu args:=by
 rcases al2 (P:=P) sp f with⟨m,e1,e2⟩|e|⟨fn,body,e1,e2,e3,e⟩
 ·rw[e2];exact hs.loc f m e1 Tu hl args
 ·rw[e];exact Tt.fail
 ·rw[e];exact Tt.wv P _ _ _ _ hl _
theorem Tt.rp(F:Nat->Option (List AV))(n o k:Nat):Tt<|rp F n o k:=Tt.aB fun _ _=>Tt.aG fun _=>Tt.pure _
theorem DU(P:Program){sp:Sp}(hs:L9 P B sp)(F:Nat->Option (List AV)):∀(n:Nat) (t:Ip) (args:List AV),Tt (ba P sp F n t args)
 |0,.fn _,_=>Tt.fail
 |0,.round _,_=>Tt.fail
 |0,.row n o k,_=>Tt.rp F n o k
 |n+1,.fn f,args=>acZ P hs f (fun t a=>DU P hs F n t a) args
 |n+1,.round l,args=>Tt.xW P (fun t a=>DU P hs F n t a) l args
 |_+1,.row n o k,_=>Tt.rp F n o k
theorem XJ{ρ:Ren}{c:Array Value}:∀{l:List AV} {off:Nat},(∀(i:Nat) (x:AV),l[i]? =some x->∃v,c[off+i]? =some v/\VR ρ x v)->∃vs:List Value,vs.length=l.length/\ax ρ l vs/\∀(j:Nat) (v:Value),vs[j]? =some v->c[off+j]? =some v
 |[],off,_=>⟨[],rfl,by simp only[ax],fun j v h=>by simp at h⟩
 |x::l,off,h=>by
  obtain⟨v,h1,h2⟩:=h 0 x rfl;obtain⟨vs,g1,g2,g3⟩:=XJ (l:=l) (off:=off+1) (fun i y hy=>by obtain⟨u,k1,k2⟩:=h (i+1) y (by simpa using hy);exact⟨u,by rw[UU,Nat.add_comm 1 i];exact k1,k2⟩);refine⟨v::vs,by simp[g1],by simp only[ax];exact⟨v,vs,rfl,h2,g2⟩,fun j u hj=>?_⟩;cases j with
  |zero=>simp at hj;subst hj;simpa using h1
  |succ j=>have:=g3 j u (by simpa using hj);rw[UU,Nat.add_comm 1 j] at this;exact this
theorem aeb(h:rp F n o k s= .ok x s1):s1=s/\∃l,F n=some l/\o+k<=l.length/\x= .agg ((l.drop o).take k):=by unfold rp at h;obtain⟨l,h1,h2⟩:=bz h;obtain⟨h3,h4⟩:=dv h2;obtain⟨rfl,rfl⟩:=bG h4;exact⟨rfl,l,h1,aI.1 h3,rfl⟩
theorem amL(hF:B.F=F)(r:Rel B ρ s.h w)(h:rp F n o k s= .ok x s1):
 s1.h=s.h/\s1.nx=s.nx/\∀b sh,ρ (hn n b sh)≠none->∃l vs,x= .agg l/\vs.length=k/\ax ρ l vs/\∃c e fr,w.heap[b]? =some (.cells c e fr)/\∀(j:Nat) (v:Value),vs[j]? =some v->c[sh+o+j]? =some v:=by
 obtain⟨rfl,l,h1,h2,rfl⟩:=aeb h;rw[←hF] at h1;refine⟨rfl,rfl,fun b sh hb=>?_⟩;obtain⟨_,l',c,e,fr,g1,g2,_,g4⟩:=r.fz n b sh hb;rw[h1] at g1;cases g1;obtain⟨vs,q1,q2,q3⟩:=XJ (ρ:=ρ) (c:=c) (l:=(l.drop o).take k) (off:=sh+o) (fun i y hy=>by
  have xp:l[o+i]? =some y:=by
   rw[Wk] at hy;split at hy
   ·rw[Ue] at hy;exact hy
   ·cases hy
  obtain⟨v,k1,k2,_⟩:=g4 (o+i) y xp;exact⟨v,by rw[UU];exact k1,VR.mono (P1 ρ) _ _ k2⟩)
 refine⟨_,vs,rfl,?_,q2,c,e,fr,g2,q3⟩;rw[q1,T4,Vo];omega
theorem afa(bR:P.follows .mixedOrders=true)(hc:gk P B Tu)(hl:∀t a,Tt<|Tu t a){af:AF}{x:bw}(bI:Fr ρ af b a)(ay:At B ρ s af.nt af.tmps w a)(hf:dU s.nx s1.nx ρ)(h:p0 P Tu af s= .ok x s1):mw P B ρ s s1 w af b cs (lone (b.atR a af.todo) cs w) x:=by obtain⟨k,aR,j,rfl,h1⟩:=aaX h;exact JM bR hc hl k bI ay hf h1
theorem ac0(bR:P.follows .mixedOrders=true)(hc:gk P B Tu)(hl:∀t a,Tt<|Tu t a)(cv:P.funcs[f]? =some fn)(cF:fn.body=some body)(dF:(fn.name == "runtime.NumGoroutine")=false)(fH:iS body)(fi:bH s)(r:Rel B ρ s.h w)(hg:gG ρ)(hf:dU s.nx s1.nx ρ)(h:wv P f fn.ntmps fn.results.toList body Tu args s= .ok x s1)(hv:ax ρ args vs.toList):jj P ((callFunc f vs).run P w)<|ky B ρ s s1 w x:=by
 have bQ:(callFunc f vs).run P w= .ok (.enter f vs) w:=by
  have Hp:(program).run P w= .ok P w:=rfl;have hn:fn.name≠ "runtime.NumGoroutine" :=by simpa using dF
  simp only[callFunc,TF,Hp,TH,cv,dF,cF];simp
 rw[bQ];unfold wv at h;obtain⟨h1,h2⟩:=dv h;have pz:=aI.1 h1;obtain⟨y,s2,h3,h4⟩:=M.aQ h2;cases y with
 |go fr=>cases h4
 |leave fr j=>have IF:finish P fn.results.toList fr j s2= .ok x s1:=h4;have dO:=(Tt.p0 P hl ⟨f,dZ args,max fn.ntmps args.length,[.code body],[],none⟩).cG fi h3;have Db:=(Tt.finish P fn.results.toList fr j).le dO IF;exact aah cv cF dO (fun cs=>afa (b:={(default:Frame) with fn:=f,kind:=.normal,roundOf:=none}) (a:={tmps:=vs++Us (fn.ntmps - vs.size) undef,defers:=[]}) bR hc hl ⟨rfl,rfl,trivial,rfl,.cons fH .nil⟩ ⟨I5 hv _ pz,r,hg,pz,fi⟩ (hf.sub (Tz _) Db) h3) IF
theorem ace(bR:P.follows .mixedOrders=true)(hc:gk P B Tu)(hl:∀t a,Tt<|Tu t a){l bl N:Nat}(fi:bH s)(r:Rel B ρ s.h w)(hg:gG ρ)(hf:dU s.nx s1.nx ρ)(h:xW P Tu l args s= .ok x s1)(hv:ax ρ args vs.toList)(Dc:ρ l=some (bl,N)):jj P ((Instr.yield bl vs).run P w)<|ky B ρ s s1 w x:=by
 unfold xW at h;obtain⟨o,s2,h1,h2⟩:=M.aQ h;obtain⟨h3,st,bU,fn,t,nt,ps,aa,bb,d,rfl⟩:=DT h1;obtain⟨h4,h5⟩:=dv h2;obtain⟨y,s3,h6,h7⟩:=M.aQ h5;obtain⟨q1,q2⟩:=and_true.1 h4;have hlen:=eP.1 q1;have Sd:∀p∈ps,p<nt:=fun p hp=>by have:=TG.1 q2 p hp;rw[←blt_eq];exact this
 obtain⟨hx,jk,hh,cM⟩:=gr h3;have dO:bH s2:=(Tt.bA _).cG fi h3;have ct:l<top:=TJ hx fi.nx;obtain⟨o',hb,hO,hB⟩:=r.block ct jk Dc;obtain⟨ta,db,M,rfl,zk,jt,hd,eY⟩:=hO;have P4:(Instr.yield bl vs).run P w= .ok (.round bl fn ((ps.zip vs.toList).foldl (fun tmps (t,a)=>tmps.setIfInBounds t a) ta) aa bb) w:=by
  have j9:¬(vs.size≠ps.toArray.size):=by have:=hv.length;simp at this ⊢;omega
  simp only[Instr.yield,TF,DQ hb,TH,if_neg j9,TK];rw[←Vk];simp
 rw[P4];intro c cs;cases y with
 |go fr=>cases h7
 |leave fr j=>
  have C7:endRound l j s3= .ok x s1:=h7;let b:Frame:={(default:Frame) with fn:=fn,kind:=.normal,roundOf:=some bl};let a:Act:={tmps:=(ps.zip vs.toList).foldl (fun tmps (t,a)=>tmps.setIfInBounds t a) ta,defers:=[]};have jH:=(Tt.p0 P hl ⟨fn,jN ps args t,nt,[.code aa,.beginRound,.code bb],[],some l⟩).cG dO h6;have Dd:=(Tt.endRound l j).le jH C7;have bI:Fr ρ ⟨fn,jN ps args t,nt,[.code aa,.beginRound,.code bb],[],some l⟩ b a:=⟨rfl,rfl,⟨N,Dc⟩,rfl,.cons eY.assign<|.cons trivial<|.cons eY.body .nil⟩;have ay:At B ρ s2 nt (jN ps args t) w a:=⟨Ny jt zk hv Sd,by rw[hh];exact r,hg,jt,dO⟩;obtain⟨σ,a',w',e1,e2,e3,e4,_,_,e6,e7⟩:=afa (cs:=c::cs) bR hc hl bI ay (by rw[cM];exact hf.sub (Tz _) Dd) h6;have ju:Leaves j fr.todo:=e6;obtain⟨f1,rfl,nS,f2,f3,f4⟩:=aar (P:=P) jH e2.rel (e1.le _ _ Dc) ju.code C7;refine⟨.bool j.isNone,nS,⟨σ,by rw[f1, ←cM];exact e1,by simp only[VR],f3,e4.trans f4⟩,?_⟩;have yq:Frame.round bl fn ((ps.zip vs.toList).foldl (fun tmps (t,a)=>tmps.setIfInBounds t a) ta) aa bb .normal=b.atR a [.code aa,.beginRound,.code bb]:=rfl;rw[yq];refine Steps.trans e7<|.one ?_;show step P (lone (b.atR a' fr.todo) (c::cs) w')=_;unfold Leaves at ju;split at ju
  ·rw[ju];exact stepR_round_end rfl rfl f2
  ·obtain⟨k,e⟩:=ju;rw[e];exact stepR_round_ret rfl rfl f2
  ·obtain⟨k,e,e'⟩:=ju;rw[e];exact stepR_round_exit rfl rfl e' f2
  ·obtain⟨k,e,e'⟩:=ju;rw[e];exact stepR_round_goto rfl rfl e' f2
  ·cases ju
theorem al3(hP:bY P){sp:Sp}(hs:L9 P B sp){F:Nat->Option (List AV)}(hF:B.F=F):∀(n:Nat),gk P B (ba P sp F n)
 |0=>⟨(fun f args x s s1 ρ w vs _ _ _ _ h _=>by cases h),(fun l b N args x s s1 ρ w vs _ _ _ _ h _ _=>by cases h),(fun n o k x s s1 ρ w _ r h=>amL hF r h)⟩
 |n+1=>by
  have ih:=al3 hP hs hF n;refine⟨fun f args x s s1 ρ w vs fi r hg hf h hv=>?_,fun l b N args x s s1 ρ w vs fi r hg hf h hv hl=>ace hP.mixed ih (DU P hs F n) fi r hg hf h hv hl,(fun n o k x s s1 ρ w _ r h=>amL hF r h)⟩;have h':jv P sp f (ba P sp F n) args s= .ok x s1:=h;rcases al2 (P:=P) sp f with⟨m,e1,e2⟩|e|⟨fn,body,e1,e2,e3,e⟩
  ·rw[e2] at h';exact hs.FT f m e1 _ ih (DU P hs F n) args x s s1 ρ w vs fi r hg hf h' hv
  ·rw[e] at h';cases h'
  ·rw[e] at h';exact ac0 hP.mixed ih (DU P hs F n) e1 e2 e3 (hP.code f fn body e1 e2) fi r hg hf h' hv
end
end
section
variable {r:Nat->Nat} {k:Nat} {σ:Ren}
def aZ(r:Nat->Nat)(x y:AV):Prop:=∀(ρ:Ren) (v:Value),VR ρ x v->VR (fun k=>ρ<|r k) y v
def lh(r:Nat->Nat)(x y:ah):Prop:=∀(ρ:Ren) (N:Nat) (o:Obj),OR ρ N x o->OR (fun k=>ρ<|r k) N y o
def av(P:Program)(B:aE)(U:Nat)(Q:Tr AV->List Nat->Option Code->AS->Prop)(fr:AF)(s:AS):Prop:=∀(ρ:Ren) (w:World) (b:Frame) (a:Act) (cs:List Frame),Fr ρ fr b a->At B ρ s fr.nt fr.tmps w a->(∀k,s.nx<=k->k<top->ρ k=none)->∃(aR:AF) (j:Option Code) (s1:AS) (σ:Ren) (a':Act) (w':World),Q aR.tmps aR.defers j s1/\U<=s1.nx/\(∀k,k<U->k<top->σ k=ρ k)/\(∀k x,top<=k->ρ k=some x->σ k=some x)/\(∀k,s1.nx<=k->k<top->σ k=none)/\At B σ s1 fr.nt aR.tmps w' a'/\wZ σ aR.defers a'.defers/\cI B w w'/\(aR.fn=fr.fn/\aR.nt=fr.nt/\aR.round=fr.round)/\jQ aR.todo/\Leaves j aR.todo/\Steps P (lone (b.atR a fr.todo) cs w) (lone (b.atR a' aR.todo) cs w')
section
variable {P:Program} {B:aE} {U:Nat} {Q:Tr AV->List Nat->Option Code->AS->Prop} {ρ:Ren} {w:World} {s s1 s2:AS} {Tu:aJ} {fr aR:AF} {j:Option Code}
theorem av.chunk(bR:P.follows .mixedOrders=true)(hc:gk P B Tu)(hl:∀t a,Tt<|Tu t a)(h:eL P Tu k fr s= .ok (.go aR) s1)(h0:U<=s.nx)(H:av P B U Q aR s1):av P B U Q fr s:=by intro ρ w b a cs bI ay hf;have lE:=(Tt.eL P hl k fr).le ay.cG h;have R9:=((Tt.eL P hl k fr).cG ay.cG h).nx;obtain⟨σ,a1,w1,e1,e2,e3,e4,⟨e5,e6,e7⟩,e8,_,e9⟩:=JM (b:=b) (cs:=cs) bR hc hl k bI ay (fun k h1 _ h3=>hf k h1 h3) h;have FQ:aR.fn=fr.fn:=e5;have ju:aR.nt=fr.nt:=e6;have qC:aR.round=fr.round:=e7;obtain⟨kR,j,s2,τ,a2,w2,q0,qn,q1,IG,q2,q3,q4,q5,⟨q6,q7,q8⟩,q9,Si,Sj⟩:=H σ w1 b a1 cs ⟨bI.fn.trans FQ.symm,bI.kind,by rw[qC];exact bI.round.mono e1.le,e3,e8⟩ (by rw[ju];exact e2) fun k hk ht=>(e1.out k ht ak).trans<|hf k ak ht;exact⟨kR,j,s2,τ,a2,w2,q0,qn,fun k hk gM=>(q1 k hk gM).trans<|e1.out k gM ak,fun k x hk hx=>IG k x hk<|e1.le _ _ hx,q2,by rw[←ju];exact q3,q4,e4.trans q5,⟨q6.trans FQ,q7.trans ju,q8.trans qC⟩,q9,Si,Steps.trans e9 Sj⟩
theorem av.leave(bR:P.follows .mixedOrders=true)(hc:gk P B Tu)(hl:∀t a,Tt<|Tu t a)(h:eL P Tu k fr s= .ok (.leave aR j) s1)(h0:U<=s.nx)(hq:Q aR.tmps aR.defers j s1):av P B U Q fr s:=by intro ρ w b a cs bI ay hf;have lE:=(Tt.eL P hl k fr).le ay.cG h;have R9:=((Tt.eL P hl k fr).cG ay.cG h).nx;obtain⟨σ,a1,w1,e1,e2,e3,e4,⟨e5,e6,e7⟩,e8,e10,e9⟩:=JM (b:=b) (cs:=cs) bR hc hl k bI ay (fun k h1 _ h3=>hf k h1 h3) h;exact⟨aR,j,s1,σ,a1,w1,hq,TO h0 lE,fun k hk gM=>e1.out k gM ak,fun k x _ hx=>e1.le _ _ hx,fun k hk ht=>(e1.out k ht ak).trans<|hf k ak ht,e2,e3,e4,⟨e5,e6,e7⟩,e8,e10,e9⟩
abbrev jl:=List<|Nat×Nat×List AV
def Marks(fz:jl)(ρ fp:Ren):Prop:=ρ.le fp/\(∀k,k<top->fp k=ρ k)/\∀p∈fz,∀b N,ρ p.1=some (b,N)->fp (hn p.2.1 b 0)≠none
open Classical in
def marks(fz:jl)(ρ:Ren):Ren:=fun k=>if ρ k=none/\∃p∈fz,∃b N,ρ p.1=some (b,N)/\k=hn p.2.1 b 0 then some (0,0) else ρ k
theorem amM(fz:jl)(ρ:Ren):Marks fz ρ<|marks fz ρ:=by
 refine⟨fun k x e=>?_,fun k hk=>?_,fun p hp b N e=>?_⟩
 ·unfold marks;rw[if_neg (fun q=>by rw[e] at q;cases q.1)];exact e
 ·unfold marks;rw[if_neg (fun⟨_,p,_,b,N,_,q⟩=>by have:=gb p.2.1 b 0;omega)]
 ·unfold marks;by_cases q:ρ (hn p.2.1 b 0)=none
  ·rw[if_pos ⟨q,p,hp,b,N,e,rfl⟩];exact fun h=>by cases h
  ·rw[if_neg fun z=>q z.1];exact q
theorem al4{fz:jl}{ρ:Ren}(h:marks fz ρ k≠none):ρ k≠none\/∃p∈fz,∃b N,ρ p.1=some (b,N)/\k=hn p.2.1 b 0:=by
 unfold marks at h;split at h
 ·rename_i q;exact .inr q.2
 ·exact .inl h
def gE(fz:jl)(r:Nat->Nat)(x y:AV):Prop:=∀(ρ fp:Ren) (v:Value),Marks fz ρ fp->VR ρ x v->VR (fun k=>fp<|r k) y v
def dT(fz:jl)(r:Nat->Nat)(x y:ah):Prop:=∀(ρ fp:Ren) (N:Nat) (o:Obj),Marks fz ρ fp->OR ρ N x o->OR (fun k=>fp<|r k) N y o
theorem aZ.z{fz:jl}{x y:AV}(h:aZ r x y):gE fz r x y:=fun ρ fp v m hv=>h fp v<|VR.mono m.1 _ _ hv
theorem lh.z{fz:jl}{x y:ah}(h:lh r x y):dT fz r x y:=fun ρ fp N o m hv=>h fp N o<|hv.mono m.1
def Yk(F:Nat->Option (List AV))(h:Tr ah)(p:Nat×Nat×List AV):Prop:=p.1<top/\F p.2.1=some p.2.2/\∃N t z,h.get p.1=some (.cells N t z)/\∀i x,p.2.2[i]? =some x->i<N/\cellAt t z i=some x/\x.bM=true/\∀ρ v,VR ρ x v->VR (gK ρ) x v
def rr(l:List<|AV×AV):Prop:=∀p∈l,∃a b,p=(.int .i64 a,.int .i64 b)
def Yl(r:Nat->Nat)(h h2:Tr ah)(n:Nat)(o2:ah):Prop:=o2.iA=true\/(r n=n/\h.get n=some o2/\match o2 with
 | .iT=>True
 | .iter m es _ left cur=>r m=m/\h2.get m=some .iT/\rr es/\rr left/\∀x,cur=some x->rr [x]
 |_=>False)
theorem P6{ρ:Ren}{l:List<|AV×AV}(hl:rr l){p:AV×AV}(hp:p∈l){a b:Value}(h1:VR ρ p.1 a)(h2:VR ρ p.2 b):VR σ p.1 a/\VR σ p.2 b:=by obtain⟨x,y,rfl⟩:=hl p hp;simp only[VR] at h1 h2 ⊢;exact⟨h1,h2⟩
theorem anB{ρ σ:Ren}:∀{l:List<|AV×AV} {es:List MapEntry} {i:Nat},rr l->kF ρ l es i->kF σ l es i
 |[],_,_,_,k=>k
 |x::l,_,i,hl,k=>by obtain⟨e,es,r,a,b,c,d⟩:=k;obtain⟨a',b'⟩:=P6 hl TA a b;exact⟨e,es,r,a',b',c,anB (fun p hp=>hl p<|TB _ hp) d⟩
theorem Pu{ρ σ:Ren}:∀{l:List<|AV×AV} {es:List MapEntry},rr l->eA ρ l es->eA σ l es
 |[],_,_,k=>k
 |x::l,_,hl,k=>by obtain⟨e,es,r,a,b,d⟩:=k;obtain⟨a',b'⟩:=P6 hl TA a b;exact⟨e,es,r,a',b',Pu (fun p hp=>hl p<|TB _ hp) d⟩
theorem ac1{ρ:Ren}{w:World}{n m:Nat}{es left:List<|AV×AV}{ex:Bool}{cur:Option<|AV×AV}(k:ni ρ w n m es ex left cur)(e1:σ n=ρ n)(e2:σ m=ρ m)(q1:rr es)(q2:rr left)(q3:∀x,cur=some x->rr [x]):ni σ w n m es ex left cur:=by
 obtain⟨b,N,bm,M,l,bu,seen,h1,h2,h3,h4,h5,h6,h7,⟨l',h8,h8'⟩,h9⟩:=k;refine⟨b,N,bm,M,l,bu,seen,e1.trans h1,e2.trans h2,h3,h4,h5,fun e=>⟨(h6 e).1,anB q1 (h6 e).2⟩,fun e=>⟨(h7 e).1,?_⟩,⟨l',h8,Pu q2 h8'⟩,?_⟩
 ·obtain⟨l2,a,b⟩:=(h7 e).2;exact⟨l2,a,Pu q1 b⟩
 ·cases cur with
  |none=>exact h9
  |some x=>obtain⟨e,a,b,c,d⟩:=h9;obtain⟨c',d'⟩:=P6 (q3 x rfl) TA c d;exact⟨e,a,b,c',d'⟩
theorem Rel.akn{B:aE}{ρ:Ren}{h h2:Tr ah}{w:World}(fz:jl)(R:Rel B ρ h w)(Dh:∀k,top<=k->r k=k)(hz:∀p∈fz,Yk B.F h p)(hh:∀n o2,n<top->h2.get n=some o2->r n<top/\Yl r h h2 n o2/\∃o1,h.get (r n)=some o1/\fc o1 o2/\dT fz r o1 o2)(yG:∀p∈fz,∀n o2,n<top->h2.get n=some o2->r n≠p.1)(Fl:∀n m o p,n<top->m<top->h2.get n=some o->h2.get m=some p->r n=r m->n=m):Rel B (fun k=>marks fz ρ<|r k) h2 w:=by
 have hm:=amM fz ρ;refine⟨fun n o hn hg=>?_,fun n m o p b N M hn fG hg lF cV e1 e2=>?_,fun n m es ex left cur hn hg=>?_,R.size,fun i j m es ex left cur iw jr iW iY hi tj hg lF=>?_,fun n b sh e=>?_,?_⟩
 ·obtain⟨a1,_,o1,a3,a4,a5⟩:=hh n o hn hg;obtain⟨b,N,o',b1,b2,b3,b4⟩:=R.is (r n) o1 a1 a3;exact⟨b,N,o',(hm.2.1 _ a1).trans b1,b2,a5 ρ _ N o' hm b3,fun q=>b4<|a4.1 q⟩
 ·obtain⟨a1,_,o1,a3,a4,_⟩:=hh n o hn hg;obtain⟨c1,_,p1,c3,c4,_⟩:=hh m p fG lF;have e1:marks fz ρ (r n)=some (b,N):=e1;have e2:marks fz ρ (r m)=some (b,M):=e2;rw[hm.2.1 _ a1] at e1;rw[hm.2.1 _ c1] at e2;exact Fl n m o p hn fG hg lF<|R.one (r n) (r m) o1 p1 b N M a1 c1 a3 c3 (cV.imp a4.1 c4.1) e1 e2
 ·rcases(hh n _ hn hg).2.1 with q|⟨q1,q2,q3,q4,q5,q6,q7⟩
  ·simp[ah.iA] at q
  ·obtain⟨i1,i2,i3⟩:=R.iter n m es ex left cur hn q2;exact⟨i1,q4,ac1 i3 (by show marks fz ρ (r n)=_;rw[q1];exact hm.2.1 n hn) (by show marks fz ρ (r m)=_;rw[q3];exact hm.2.1 m i1) q5 q6 q7⟩
 ·rcases(hh i _ hi hg).2.1 with q|⟨_,q2,_⟩
  ·simp[ah.iA] at q
  ·rcases(hh j _ tj lF).2.1 with q'|⟨_,Sk,_⟩
   ·simp[ah.iA] at q'
   ·exact R.lone i j m es ex left cur iw jr iW iY hi tj q2 Sk
 ·have e:marks fz ρ (r<|hn n b sh)≠none:=e;rw[Dh _<|gb _ _ _] at e;have hle:(gK ρ).le<|gK fun k=>marks fz ρ<|r k:=by
   intro k x e;unfold gK at e ⊢;split at e
   ·rename_i q;rw[if_pos q];show marks fz ρ (r k)=some x;rw[Dh k q];exact hm.1 _ _ e
   ·cases e
  rcases al4 e with e|⟨p,hp,b',N,e1,e2⟩
  ·obtain⟨g0,l,c,e',fr,g1,g3,g4,g5⟩:=R.fz n b sh e;refine⟨g0,l,c,e',fr,g1,g3,fun m o N fG hg cL hr=>?_,fun i x hx=>by obtain⟨v,k1,k2,k3⟩:=g5 i x hx;exact⟨v,k1,VR.mono hle _ _ k2,k3⟩⟩;obtain⟨a1,_,o1,a3,a4,_⟩:=hh m o fG hg;exact g4 (r m) o1 N a1 a3 (a4.1 cL) (by have hr:marks fz ρ (r m)=_:=hr;rw[hm.2.1 _ a1] at hr;exact hr)
  ·obtain⟨rfl,rfl,rfl⟩:=Es e2;obtain⟨z1,z2,N0,t,z,z3,z4⟩:=hz p hp;obtain⟨b1,N1,o',k1,k2,k3,k4⟩:=R.is p.1 _ z1 z3;rw[e1] at k1;cases k1;obtain⟨c,et,rfl,_,_,row⟩:=k3;refine⟨.inr<|k4 rfl,p.2.2,c,et,_,z2,k2,fun m o M fG hg cL hr=>?_,fun i x hx=>?_⟩
   ·obtain⟨a1,_,o1,a3,a4,_⟩:=hh m o fG hg;have hr:marks fz ρ (r m)=_:=hr;rw[hm.2.1 _ a1] at hr;exact yG p hp m o fG hg<|R.one (r m) p.1 o1 _ _ _ _ a1 z1 a3 z3 (.inl<|a4.1 cL) hr e1
   ·obtain⟨i1,i2,i3,i4⟩:=z4 i x hx;obtain⟨x',v,j1,j2,j3,j4⟩:=row i i1;rw[i2] at j1;cases j1;exact⟨v,by rw[T6];exact j3,VR.mono hle _ _<|i4 _ _ j4,i3⟩
 ·obtain⟨k0,H,k1,k2⟩:=R.tk;have hle:∀m x,top<=m->ρ m=some x->marks fz ρ (r m)=some x:=fun m x kJ e=>by rw[Dh m kJ];exact hm.1 _ _ e
  have tok:∀n k v,n<top->h2.get n=some (.tok k v)->r n<top/\h.get (r n)=some (.tok k v):=fun n k v hn hg=>by obtain⟨a1,_,o1,a3,a4,_⟩:=hh n _ hn hg;rw[a4.2.1 rfl] at a3;exact⟨a1,a3⟩
  refine⟨⟨k0.1,fun n o hn hg hf=>?_⟩,fun n=>H<|r n,fun n k v hn hg=>?_,fun n m x k v k' v' hn fG g1 g2 cz=>?_⟩
  ·obtain⟨a1,_,o1,a3,a4,a5⟩:=hh n o hn hg;obtain⟨b,N,e1,e2⟩:=k0.2 (r n) o1 a1 a3<|a4.2.2 hf;exact⟨b,N,(hm.2.1 _ a1).trans e1,e2⟩
  ·obtain⟨a1,a2⟩:=tok n k v hn hg;obtain⟨b,N,c1,c2,c3,c4⟩:=k1 (r n) k v a1 a2;refine⟨b,N,(hm.2.1 _ a1).trans c1,B.mono c2 hle fun _ _=>rfl,c3,fun x hx=>?_⟩;obtain⟨d1,d2,d3,d4⟩:=c4 x hx;refine⟨d1,d2,fun m o M fG lF cL hr=>?_,fun j sh=>?_⟩
   ·obtain⟨e1,_,o1,e3,e4,_⟩:=hh m o fG lF;exact d3 (r m) o1 M e1 e3 (e4.1 cL) (by have hr:marks fz ρ (r m)=_:=hr;rw[hm.2.1 _ e1] at hr;exact hr)
   ·show marks fz ρ (r<|Rn.hn j x sh)=none;rw[Dh _<|gb _ _ _];refine Ut fun q=>?_;rcases al4 q with q|⟨p,hp,b',N',e1,e2⟩
    ·exact q<|d4 j sh
    ·obtain⟨_,rfl,_⟩:=Es e2;obtain⟨z1,_,N0,t,z,z3,_⟩:=hz p hp;exact d3 p.1 _ N' z1 z3 rfl e1
  ·obtain⟨a1,a2⟩:=tok n k v hn g1;obtain⟨a3,a4⟩:=tok m k' v' fG g2;exact k2 (r n) (r m) x k v k' v' a1 a3 a2 a4 fun e=>cz<|Fl n m _ _ hn fG g1 g2 e
theorem av.weaken{t2:Tr AV}(fz:jl)(r:Nat->Nat)(h0:∀k,k<U->r k=k)(h1:∀k,s2.nx<=k->k<top->s.nx<=r k/\r k<top)(Dh:∀k,top<=k->r k=k)(hg:fY<=U)(hf2:bH s2)(hd:fr.defers=[])(hr:fr.round=none)(hz:∀p∈fz,Yk B.F s.h p)(ht:∀i y,t2.get i=some y->∃x,fr.tmps.get i=some x/\gE fz r x y)(hh:∀n o2,n<top->s2.h.get n=some o2->r n<top/\Yl r s.h s2.h n o2/\∃o1,s.h.get (r n)=some o1/\fc o1 o2/\dT fz r o1 o2)(yG:∀p∈fz,∀n o2,n<top->s2.h.get n=some o2->r n≠p.1)(Fl:∀n m o p,n<top->m<top->s2.h.get n=some o->s2.h.get m=some p->r n=r m->n=m)(H:av P B U Q {fr with tmps:=t2} s2):av P B U Q fr s:=by
 intro ρ w b a cs bI ay hf;have hm:=amM fz ρ;have om:G3 (fun k=>marks fz ρ<|r k) fr.round b.roundOf:=by
  have:=bI.round;rw[hr] at this ⊢;cases hb:b.roundOf with
  |none=>trivial
  |some l=>rw[hb] at this;cases this
 have aiw:wZ (fun k=>marks fz ρ<|r k) fr.defers a.defers:=by have:=bI.defs;rw[hd] at this ⊢;exact this
 have cH:∀k,k<U->k<top->marks fz ρ (r k)=ρ k:=fun k hk gM=>by rw[h0 k hk];exact hm.2.1 k gM
 have aix:gG fun k=>marks fz ρ<|r k:=fun g iV=>by obtain⟨N,e⟩:=ay.g g iV;exact⟨N,(cH g (TJ iV hg)<|TJ iV (by unfold fY top;decide)).trans e⟩
 have zk:TR (fun k=>marks fz ρ<|r k) fr.nt t2 a.tmps:=⟨ay.tr.1,fun i y hy=>by obtain⟨x,e1,e2⟩:=ht i y hy;exact e2 ρ _ _ hm<|ay.tr.2 i x e1⟩;obtain⟨kR,j,s3,τ,a2,w2,q0,qn,q1,IG,q2,q3,q4,q5,q6,q7,q8,q9⟩:=H (fun k=>marks fz ρ<|r k) w b a cs ⟨bI.fn,bI.kind,om,aiw,bI.ok⟩ ⟨zk,ay.rel.akn fz Dh hz hh yG Fl,aix,ay.nt,hf2⟩ fun k hk ht=>(hm.2.1 _ (h1 k hk ht).2).trans<|hf _ (h1 k hk ht).1 (h1 k hk ht).2;exact⟨kR,j,s3,τ,a2,w2,q0,qn,fun k hk gM=>(q1 k hk gM).trans<|cH k hk gM,fun k x hk hx=>IG k x hk (by show marks fz ρ (r k)=_;rw[Dh k hk];exact hm.1 _ _ hx),q2,q3,q4,q5,q6,q7,q8,q9⟩
end
end
end Go.Rn
namespace Go.Rn
open Go.RowKit
variable {i:Nat} {d:Option Tmp} {v:AV} {o:Oper}
section
def aA:List (Nat×AV)->Tr AV
 |[]=>.nil
 |p::l=>(aA l).put p.1<|some p.2
def gm:List (Nat×Option ah)->Tr ah
 |[]=>.nil
 |p::l=>(gm l).put p.1 p.2
def aj(l:List<|Nat×Option ah)(nx:Nat):AS:=⟨gm l,nx,0,[],[]⟩
def XK(P:Program)(f:FuncId):Code:=
 match P.funcs[f]? with
 |none=>.skip
 |some fn=>match fn.body with
  |none=>.skip
  |some c=>c
def aL(P:Program)(f:FuncId)(p:List Nat):Code:=ud p<|XK P f
def opsOf:Code->Array Oper
 | .region _ ops _=>ops
 |_=> #[]
def p7(P:Program)(Tu:aJ)(nt:Nat)(ops:Array Oper)(i n:Nat)(t:Tr AV):M<|Tr AV:=jE P Tu nt ops ((ops.toList.drop i).take n) t
def yR(ops:Array Oper)(i:Nat):Option<|Op×Option Tmp×Option (Nat×Bool):=
 match ops[i]? with
 |none=>none
 |some o=>some (o.op,o.dst,o.guard)
end
section
variable {P:Program} {B:aE} {U:Nat} {Q:Tr AV->List Nat->Option Code->AS->Prop} {ρ:Ren} {w:World} {s s1 s2:AS} {Tu:aJ} {t t1 t2:Tr AV} {ops:Array Oper} {nt:Nat}
theorem Om{l:List Oper}:jE P Tu nt ops (o::l) t=(hU P Tu nt ops o t).bind (jE P Tu nt ops l):=rfl
theorem amO:∀{l1 l2:List Oper} {t t1:Tr AV} {s s1:AS},jE P Tu nt ops l1 t s= .ok t1 s1->jE P Tu nt ops (l1++l2) t s=jE P Tu nt ops l2 t1 s1
 |[],l2,t,t1,s,s1,h=>by cases h;rfl
 |o::l1,l2,t,t1,s,s1,h=>by rw[Om] at h;let⟨t',s',h1,h2⟩:=M.aQ h;show jE P Tu nt ops (o::(l1++l2)) t s=_;rw[Om,M.bO h1];exact amO h2
theorem agw{n m:Nat}(h1:p7 P Tu nt ops i n t s= .ok t1 s1)(h2:p7 P Tu nt ops (i+n) m t1 s1= .ok t2 s2):p7 P Tu nt ops i (n+m) t s= .ok t2 s2:=by unfold p7 at h1 h2 ⊢;rw[List.take_add,amO h1,Up];exact h2
theorem ahA(ho:ops[i]? =some o)(h:hU P Tu nt ops o t s= .ok t1 s1):p7 P Tu nt ops i 1 t s= .ok t1 s1:=by
 unfold p7;have:(ops.toList.drop i).take 1=[o]:=by
  have h1:ops.toList[i]? =some o:=by rw[VC];exact ho
  let⟨hi,e⟩:=TZ.1 h1;rw[U6 hi,e];rfl
 rw[this,Om,M.bO h];rfl
theorem JN{op:Op}{g:Option<|Nat×Bool}(h:yR ops i=some (op,d,g)):∃o,ops[i]? =some o/\o.op=op/\o.dst=d/\o.guard=g:=by
 unfold yR at h;split at h
 ·cases h
 ·rename_i o e;injection h with h
  injection h with h1 h
  injection h with h2 h3
  exact⟨o,e,h1,h2,h3⟩
theorem cP{op:Op}(ho:yR ops i=some (op,d,none))(h:(dY P op).val Tu t s= .ok v s1)(hp:jD nt t d v=some t1):p7 P Tu nt ops i 1 t s= .ok t1 s1:=by obtain⟨o,e,rfl,rfl,e3⟩:=JN ho;refine ahA e ?_;unfold hU Cs;rw[e3];show te (dY P o.op) o.dst Tu nt t s=_;unfold te;rw[M.bO h,hp];rfl
theorem ako{op:Op}{g:Nat×Bool}(ho:yR ops i=some (op,d,some g))(hk:uk ops t g.1=true)(hw:qO ops g t=true)(h:(dY P op).val Tu t s= .ok v s1)(hp:jD nt t d v=some t1):p7 P Tu nt ops i 1 t s= .ok t1 s1:=by obtain⟨o,e,rfl,rfl,e3⟩:=JN ho;refine ahA e ?_;unfold hU Cs;rw[e3];show uG ops g (dY P o.op) o.dst Tu nt t s=_;unfold uG;rw[hk,hw,dR];show((dY P o.op).val Tu t).bind (fun v=>lift<|jD nt t o.dst v) s=_;rw[M.bO h,hp];rfl
theorem NU:∀{l:List<|List AV} {K i:Nat} {c:List AV},(∀c∈l,c.length=K)->l[i]? =some c->(l.flatten.drop<|i*K).take K=c
 |[],_,_,_,_,h=>by simp at h
 |x::l,K,0,c,hl,h=>by simp at h;subst h;have hx:=hl x TA;rw[UE,T8,T5,Wl,hx,Nat.sub_self,Vp,U8, ←hx,UM]
 |x::l,K,i+1,c,hl,h=>by have hx:=hl x TA;rw[T5,List.drop_append,hx,show(i+1)*K - K=i*K by rw[Uo,UN];omega,Wm (by rw[hx,Uo,UN];omega),UB];exact NU (fun c hc=>hl c<|TB _ hc) (by simpa using h)
end
end Go.Rn
namespace Go.Rn
open Go.RowKit
section
variable {P:Program} {s s1:AS} {Tu:aJ} {t:Tr AV}
theorem afo{op:BinOp}{ty yt:TypeId}{x y:Operand}{k:IntKind}{a b:Int}{r:Bool}(hx:aF t x=some (.int k a))(hy:aF t y=some (.int k b))(hs:zU op=false)(hg:J6 P op ty x y (.int k a) (.int k b)=true)(hr:EL op k a b=some (.bool r)):
 (dY P<|.binOp op ty x y yt).val Tu t s= .ok (.bool r) s:=by
 show uS P op ty x y Tu t s=_;unfold uS;rw[hx,hy,bW,bW,hg,dR];have:B4 P op ty (.int k a) (.int k b)=some (.bool r):=by unfold B4;simp only[hs,decide_true];exact hr
 rw[this];rfl
end
end Go.Rn
namespace Go.Rn
open Go.RowKit
section
variable {P:Program} {B:aE} {U:Nat} {Q:Tr AV->List Nat->Option Code->AS->Prop} {s s1 s2:AS} {Tu:aJ} {t t1 t2:Tr AV} {ops:Array Oper} {nt:Nat}
theorem afp{op:BinOp}{ty yt:TypeId}{x y:Operand}{k:IntKind}{a b:Int}{r:AV}(hx:aF t x=some (.int k a))(hy:aF t y=some (.int k b))(hs:zU op=false)(hg:J6 P op ty x y (.int k a) (.int k b)=true)(hr:EL op k a b=some r):
 (dY P<|.binOp op ty x y yt).val Tu t s= .ok r s:=by
 show uS P op ty x y Tu t s=_;unfold uS;rw[hx,hy,bW,bW,hg,dR];have:B4 P op ty (.int k a) (.int k b)=some r:=by unfold B4;simp only[hs,decide_true];exact hr
 rw[this];rfl
def uT(P:Program)(Tu:aJ)(nt:Nat)(ops:Array Oper)(i n:Nat)(t:Tr AV):M<|Tr AV×List Met:=nL P Tu nt ops ((ops.toList.drop i).take n) i t
theorem al5:∀{l1 l2:List Oper} {i:Nat} {t t1 t2:Tr AV} {m1 m2:List Met} {s s1 s2:AS},nL P Tu nt ops l1 i t s= .ok (t1,m1) s1->nL P Tu nt ops l2 (i+l1.length) t1 s1= .ok (t2,m2) s2->nL P Tu nt ops (l1++l2) i t s= .ok (t2,m1++m2) s2
 |[],l2,i,t,t1,t2,m1,m2,s,s1,s2,h,k=>by cases h;exact k
 |o::l1,l2,i,t,t1,t2,m1,m2,s,s1,s2,h,k=>by
  have h':((alone i<|hU P Tu nt ops o t).bind fun x=>(nL P Tu nt ops l1 (i+1) x.1).bind fun y=>M.pure (y.1,x.2::y.2)) s= .ok (t1,m1) s1:=h;let⟨x,sx,e1,e2⟩:=M.aQ h';let⟨y,sy,e3,e4⟩:=M.aQ e2;obtain⟨e5,rfl⟩:=bG e4;injection e5 with e6 e7
  subst e6;subst e7;have:=al5 (i:=i+1) e3 (by rw[show i+1+l1.length=i+(o::l1).length by simp;omega];exact k);show((alone i<|hU P Tu nt ops o t).bind fun x=>(nL P Tu nt ops (l1++l2) (i+1) x.1).bind fun y=>M.pure (y.1,x.2::y.2)) s=_;rw[M.bO e1,M.bO this];rfl
theorem amP{i n m N:Nat}{m1 m2:List Met}(hN:ops.size=N)(hi:i+n<=N)(h1:uT P Tu nt ops i n t s= .ok (t1,m1) s1)(h2:uT P Tu nt ops (i+n) m t1 s1= .ok (t2,m2) s2):uT P Tu nt ops i (n+m) t s= .ok (t2,m1++m2) s2:=by unfold uT at h1 h2 ⊢;rw[List.take_add,Up];refine al5 h1 ?_;rw[T4,Vo,Uq,hN,Vj ak];exact h2
theorem D5:∀{l:List<|Nat×AV} {i:Nat} {y:AV},(∀p∈l,p.1<top)->(aA l).get i=some y->(i,y)∈l
 |[],i,y,_,h=>by have:(Tr.nil:Tr AV).get i=some y:=h;rw[Tr.get_nil] at this;cases this
 |p::l,i,y,hl,h=>by
  have h':((aA l).put p.1<|some p.2).get i=some y:=h;rw[Tr.mh _ _ _ _<|hl p TA] at h';by_cases e:i=p.1
  ·rw[if_pos e] at h';injection h' with h';subst h';subst e;exact TA
  ·rw[if_neg e] at h';exact TB _<|D5 (fun q hq=>hl q<|TB _ hq) h'
theorem wc:∀{l:List<|Nat×Option ah} {i:Nat} {y:ah},(∀p∈l,p.1<top)->(gm l).get i=some y->(i,some y)∈l
 |[],i,y,_,h=>by have:(Tr.nil:Tr ah).get i=some y:=h;rw[Tr.get_nil] at this;cases this
 |p::l,i,y,hl,h=>by
  have h':((gm l).put p.1 p.2).get i=some y:=h;rw[Tr.mh _ _ _ _<|hl p TA] at h';by_cases e:i=p.1
  ·rw[if_pos e] at h';have:p=(i,some y):=by rw[e, ←h']
   rw[←this];exact TA
  ·rw[if_neg e] at h';exact TB _<|wc (fun q hq=>hl q<|TB _ hq) h'
theorem aZ.same(x:AV):aZ (fun k=>k) x x:=fun _ _ h=>h
theorem lh.same(x:ah):lh (fun k=>k) x x:=fun _ _ _ h=>h
def yH(t:Tr AV):List (Nat×AV)->Prop
 |[]=>True
 |p::l=>t.get p.1=some p.2/\yH t l
def yS(h:Tr ah):List (Nat×Option ah)->Prop
 |[]=>True
 |p::l=>(h.get p.1=p.2/\∀o,p.2=some o->o.iA=true)/\yS h l
theorem yH.mem{t:Tr AV}:∀{l:List<|Nat×AV},yH t l->∀p∈l,t.get p.1=some p.2
 |[],_,p,hp=>by cases hp
 |q::l,h,p,hp=>by
  rcases Ty.1 hp with rfl|hp
  ·exact h.1
  ·exact yH.mem h.2 p hp
theorem yS.mem{h:Tr ah}:∀{l:List<|Nat×Option ah},yS h l->∀p∈l,h.get p.1=p.2/\∀o,p.2=some o->o.iA=true
 |[],_,p,hp=>by cases hp
 |q::l,k,p,hp=>by
  rcases Ty.1 hp with rfl|hp
  ·exact k.1
  ·exact yS.mem k.2 p hp
def qu{α:Type}(n:Nat):List (Nat×α)->Bool
 |[]=>true
 |p::l=>Tv p.1 n&&qu n l
theorem xY{α:Type}{n:Nat}:∀{l:List<|Nat×α},qu n l=true->∀p∈l,p.1<n
 |[],_,p,hp=>by cases hp
 |q::l,h,p,hp=>by
  let⟨h1,h2⟩:=and_true.1 h;rcases Ty.1 hp with rfl|hp
  ·exact(blt_eq _ _).mp h1
  ·exact xY h2 p hp
theorem av.less{f:FuncId}{K:List Item}{l:List<|Nat×AV}{o:List<|Nat×Option ah}{nx:Nat}(hl:qu top l=true)(ho:qu top o=true)(hn:(Tw s.nx nx&&Tw nx top)=true)(hg:fY<=U)(ht:yH t l)(hh:yS s.h o)(H:av P B U Q ⟨f,aA l,nt,K,[],none⟩<|aj o nx):av P B U Q ⟨f,t,nt,K,[],none⟩ s:=by
 let⟨C4,vp⟩:=and_true.1 hn;have C4:=aI.1 C4;have vp:=aI.1 vp;refine av.weaken (s2:=aj o nx) (t2:=aA l) [] (fun k=>k) (fun _ _=>rfl) (fun k hk ht=>⟨TO C4 hk,ht⟩) (fun _ _=>rfl) hg ⟨TN _,vp⟩ rfl rfl (fun _ h=>by cases h) (fun i y hy=>?_) (fun n o2 hn hg=>?_) (fun _ h=>by cases h) (fun n m _ _ _ _ _ _ e=>e) H
 ·have:=D5 (fun p hp=>xY hl p hp) hy;exact⟨y,ht.mem _ this,(aZ.same y).z⟩
 ·have:=wc (fun p hp=>xY ho p hp) hg;let⟨h1,h2⟩:=hh.mem _ this;exact⟨hn,.inl<|h2 o2 rfl,o2,h1,fc.refl _,(lh.same o2).z⟩
end
end Go.Rn
namespace Go.Rn
open Go.RowKit
end Go.Rn
namespace Go.Rn
open Go.RowKit
section
variable {P:Program} {s s1:AS} {Tu:aJ} {t:Tr AV}
theorem Je{l z:List AV}(hl:l.length<=top):∀(k off:Nat),off+k<=l.length->ly (Tr.fill l 0 .nil) z k off=some ((l.drop off).take k)
 |0,off,_=>by simp[ly]
 |k+1,off,h=>by
  have ct:off<l.length:=by omega
  have hc:cellAt (Tr.fill l 0 .nil) z off=some l[off]:=by unfold cellAt;rw[Tr.rR _ _ _ _ ak,if_pos ak,Uk,TE ct]
  simp only[ly,hc,Je hl k (off+1) ak];rw[U6 ct,Vs]
def az{α:Type}(enc:α->List AV)(l:List α):ah:=.cells (l.map enc).flatten.length (Tr.fill (l.map enc).flatten 0 .nil) []
theorem afq{o:ah}(ht:s.nx<top):gQ o s= .ok s.nx {s with h:=s.h.put s.nx<|some o,nx:=s.nx+1}:=by
 let⟨hh,nx,mark,rd,wr⟩:=s;have e1:Tv nx top=true:=by rw[blt_eq];exact ht
 show @Bool.rec (fun _=>R Nat) .bad (forced nx fun m=>.ok m ⟨hh.put m<|some o,m+1,mark,rd,wr⟩) (Tv nx top)=_;rw[e1,zO]
theorem Ju{l:List AV}(hl:l.length<=top)(h1:l.all AV.bM=true)(ht:s.nx<top):newRow l s= .ok s.nx {s with h:=s.h.put s.nx<|some<|.cells l.length (Tr.fill l 0 .nil) [],nx:=s.nx+1}:=by unfold newRow;rw[show(and (Tw l.length top)<|l.all AV.bM)=true from and_true.2 ⟨aI.2 hl,h1⟩,dR];exact afq ht
end
end Go.Rn
namespace Go.Rn
open Go.RowKit
end Go.Rn
namespace Go.Rn
open Go.RowKit
section
def cJ(m:List<|Int×Int):List<|AV×AV:=m.map fun p=>(.int .i64 p.1,.int .i64 p.2)
def yT(m:List<|Int×Int):ah:=.map (cJ m) m.length
end
def getM:List (Int×Int)->Int->Int
 |[],_=>0
 |p::l,k=>if p.1=k then p.2 else getM l k
def gf:List (Int×Int)->Int->Int->List (Int×Int)
 |[],k,v=>[(k,v)]
 |p::l,k,v=>if p.1=k then(k,v)::l else p::gf l k v
section
variable {P:Program} {s s1:AS} {Tu:aJ} {t:Tr AV}
theorem amQ(a b:Int):sameKey (.int .i64 a) (.int .i64 b)=some (a == b):=rfl
theorem amR(k:Int):∀(m:List<|Int×Int) (i:Nat),(lu (.int .i64 k) (cJ m) i=some none/\getM m k=0/\∀v,gf m k v=m++[(k,v)])\/
 ∃j y,lu (.int .i64 k) (cJ m) i=some (some (i+j,.int .i64 y))/\getM m k=y/\m[j]? =some (k,y)/\∀v,putAt (cJ m) j (.int .i64 k) (.int .i64 v)=cJ (gf m k v)/\(gf m k v).length=m.length
 |[],i=>.inl ⟨rfl,rfl,fun _=>rfl⟩
 |p::l,i=>by
  have hf:lu (.int .i64 k) (cJ<|p::l) i=(match some (k == p.1) with|none=>none|some true=>some (some (i,.int .i64 p.2))|some false=>lu (.int .i64 k) (cJ l)<|i+1):=rfl;by_cases e:p.1=k
  ·refine .inr ⟨0,p.2,?_,?_,?_,fun v=>⟨?_,?_⟩⟩
   ·rw[hf,show(k == p.1)=true by simp[e]];rfl
   ·simp[getM,e]
   ·simp[←e]
   ·simp[gf,e,cJ,putAt]
   ·simp[gf,e]
  ·have cz:(k == p.1)=false:=by simp;exact fun q=>e q.symm
   rcases amR k l (i+1) with⟨h1,h2,h3⟩|⟨j,y,h1,h2,h3,h4⟩
   ·refine .inl ⟨?_,?_,fun v=>?_⟩
    ·rw[hf,cz];exact h1
    ·simp[getM,e,h2]
    ·simp[gf,e,h3 v]
   ·refine .inr ⟨j+1,y,?_,?_,?_,fun v=>⟨?_,?_⟩⟩
    ·rw[hf,cz];show lu _ _ _=_;rw[h1];congr 3;omega
    ·simp[getM,e,h2]
    ·simpa using h3
    ·have:=(h4 v).1;simp only[gf,e,if_false];show(_:AV×AV)::putAt (cJ l) j _ _=_::cJ (gf l k v);rw[this]
    ·simp[gf,e,(h4 v).2]
end
end Go.Rn
namespace Go.Rn
open Go.RowKit
section
variable {r:Nat->Nat}
theorem aZ.int(k:IntKind)(n:Int):aZ r (.int k n)<|.int k n:=fun _ _ h=>h
theorem aZ.bool(b:Bool):aZ r (.bool b)<|.bool b:=fun _ _ h=>h
theorem aZ.rZ:aZ r (.slice none 0<|.known 0)<|.slice none 0<|.known 0:=fun _ _ h=>h
theorem aZ.ptr{n m o:Nat}(e:r m=n):aZ r (.ptr<|some (n,o))<|.ptr<|some (m,o):=by intro ρ v h;simp only[VR] at h ⊢;rw[e];exact h
theorem aZ.map{n m:Nat}(e:r m=n):aZ r (.map<|some n)<|.map<|some m:=by intro ρ v h;simp only[VR] at h ⊢;rw[e];exact h
theorem aZ.slice{n m o len:Nat}{c:cx}(e:r m=n):aZ r (.slice (some (n,o)) len c)<|.slice (some (m,o)) len c:=by intro ρ v h;cases c<;>simp only[VR] at h ⊢ <;>rw[e]<;>exact h
theorem aZ.ab{n o len:Nat}(e:r n=n)(hr:∀k,top<=k->r k=k):aZ r (.ab n o len)<|.ab n o len:=by intro ρ v h;simp only[VR] at h ⊢;refine h.imp id fun⟨b,sh,c,h1,h2⟩=>⟨b,sh,c,h1.imp (fun q=>⟨q.1,(congrArg ρ e).trans q.2⟩) fun q=>⟨q.1,fun z=>q.2<|(congrArg ρ<|hr _<|gb _ _ _).symm.trans z⟩,h2⟩
def AV.flat:AV->Bool
 | .bool _| .int _ _| .str _| .LU _=>true
 | .ptr none| .map none| .nilFunc| .nilIface=>true
 | .slice none _ (.known _)=>true
 |_=>false
theorem aZ.flat{x:AV}(h:x.flat=true):aZ r x x:=by
 intro ρ v k;cases x<;>first|exact k|skip
 case slice a len cap=>cases a with
  |some _=>cases h
  |none=>cases cap with
   |known c=>simp only[VR] at k ⊢;exact k
   |au _ _=>cases h
   |lost=>cases h
 all_goals first|(cases h;done)|skip
 all_goals
  rename_i a;cases a with
  |none=>exact k
  |some _=>cases h
def po(r:Nat->Nat):List AV->List AV->Prop
 |[],[]=>True
 |x::l,y::m=>aZ r x y/\po r l m
 |_,_=>False
theorem po.length:∀{l m:List AV},po r l m->l.length=m.length
 |[],[],_=>rfl
 |_::_,_::_,h=>by simp[po.length h.2]
 |[],_::_,h=>by cases h
 |_::_,[],h=>by cases h
theorem po.aw:∀{l m:List AV} {i:Nat} {x y:AV},po r l m->l[i]? =some x->m[i]? =some y->aZ r x y
 |x::l,y::m,0,a,b,h,h1,h2=>by simp at h1 h2;subst h1;subst h2;exact h.1
 |x::l,y::m,i+1,a,b,h,h1,h2=>po.aw h.2 (by simpa using h1) (by simpa using h2)
 |[],[],_,_,_,_,h1,_=>by simp at h1
 |_::_,[],_,_,_,h,_,_=>by cases h
 |[],_::_,_,_,_,h,_,_=>by cases h
theorem po.flat:∀{l:List AV},l.all AV.flat=true->po r l l
 |[],_=>trivial
 |x::l,h=>by let⟨h1,h2⟩:=and_true.1 (show(x.flat&&l.all AV.flat)=true from h);exact⟨aZ.flat h1,po.flat h2⟩
theorem lh.cells{l m:List AV}(hl:l.length<=top)(h:po r l m)(h1:m.all AV.bM=true):lh r (.cells l.length (Tr.fill l 0 .nil) [])<|.cells m.length (Tr.fill m 0 .nil) []:=by
 have hlen:=h.length;intro ρ N o k;obtain⟨c,e,rfl,k1,k2,k3⟩:=k;refine⟨c,e,rfl,k1,by omega,fun i hi=>?_⟩;let⟨x,v,a1,a2,a3,a4⟩:=k3 i ak;have hx:l[i]? =some x:=by unfold cellAt at a1;rw[Tr.rR _ _ _ _ ak,if_pos ak,Uk,TE ak] at a1;rw[TE ak];exact a1
 have hy:m[i]? =some m[i]:=TE hi;refine⟨m[i],v,?_,?_,a3,h.aw hx hy ρ v a4⟩
 ·unfold cellAt;rw[Tr.rR _ _ _ _ ak,if_pos ak,Uk,hy]
 ·exact TG.1 h1 _<|VD hi
theorem lh.az{α:Type}{enc:α->List AV}{l:List α}(he:∀x,(enc x).all AV.flat=true/\(enc x).all AV.bM=true)(hl:(l.map enc).flatten.length<=top):lh r (az enc l)<|az enc l:=by
 have hf:∀(p:AV->Bool),(∀x,(enc x).all p=true)->∀l:List α,(l.map enc).flatten.all p=true:=by
  intro p hp l;induction l with
  |nil=>rfl
  |cons x l ih=>simp only[T0,T5,U9,ih,hp x,VE]
 exact lh.cells hl (po.flat<|hf _ (fun x=>(he x).1) l)<|hf _ (fun x=>(he x).2) l
def aiy(r:Nat->Nat)(h:Tr ah):List (Nat×ah)->Prop
 |[]=>True
 |p::l=>(p.2.plain=true/\∃x,h.get (r p.1)=some x/\(x.dA=p.2.dA/\x.nq=p.2.nq)/\lh r x p.2)/\aiy r h l
def bf:List (Nat×ah)->List (Nat×Option ah)
 |[]=>[]
 |p::l=>(p.1,some p.2)::bf l
theorem On:∀{l:List<|Nat×ah} {i:Nat} {y:ah},(i,some y)∈bf l->(i,y)∈l
 |p::l,i,y,h=>by
  rcases Ty.1 h with h|h
  ·injection h with h1 h2
   injection h2 with h2
   have:p=(i,y):=by rw[h1,h2]
   rw[←this];exact TA
  ·exact TB _<|On h
variable {P:Program} {B:aE} {Q:Tr AV->List Nat->Option Code->AS->Prop} {s:AS} {t:Tr AV} {nt:Nat}
end
end Go.Rn
namespace Go.Rn
end Go.Rn
namespace Go.Rn
open Go.RowKit
section
end
section
variable {P:Program} {s s1:AS} {Tu:aJ} {t:Tr AV}
end
section
def Fin(P:Program)(rs:List ResultVar)(R:AV->AS->Prop):Tr AV->List Nat->Option Code->AS->Prop:=fun t d j s=>∃x s3,finish P rs ⟨0,t,0,[],d,none⟩ j s= .ok x s3/\R x s3
end
section
variable {P:Program} {B:aE} {ρ:Ren} {w:World} {s s1:AS} {Tu:aJ}
theorem Gu(rs:List ResultVar)(fr:AF)(j:Option Code):finish P rs fr j=finish P rs ⟨0,fr.tmps,0,[],fr.defers,none⟩ j:=rfl
theorem av.calls(hP:bY P){g:FuncId}{fn:Func}{body:Code}{args:List AV}{vs:Array Value}{R:AV->AS->Prop}(cv:P.funcs[g]? =some fn)(cF:fn.body=some body)(pz:max fn.ntmps args.length<=top)(H:av P B s.nx (Fin P fn.results.toList R) ⟨g,dZ args,max fn.ntmps args.length,[.code body],[],none⟩ s)(fi:bH s)(r:Rel B ρ s.h w)(hg:gG ρ)(hf:∀k,s.nx<=k->k<top->ρ k=none)(hv:ax ρ args vs.toList):
 Calls P g vs w fun e w'=>∃v x s3,e= .returned v/\R x s3/\s.nx<=s3.nx/\bH s3/\ky B ρ s s3 w x v w':=by
 intro cs;let b:Frame:={(default:Frame) with fn:=g,kind:=.normal,roundOf:=none};let a:Act:={tmps:=vs++Us (fn.ntmps - vs.size) undef,defers:=[]};have yq:Frame.enter P g vs .normal=b.atR a [.code body]:=by simp[Frame.enter,Frame.atR,cv,cF,b,a]
 have bI:Fr ρ ⟨g,dZ args,max fn.ntmps args.length,[.code body],[],none⟩ b a:=⟨rfl,rfl,trivial,rfl,.cons (hP.code g fn body cv cF) .nil⟩;have ay:At B ρ s (max fn.ntmps args.length) (dZ args) w a:=⟨I5 hv _ pz,r,hg,pz,fi⟩;let⟨fr,j,s2,σ,a',w',⟨x,s3,qq,hR⟩,en,e0,IH,e1,e2,e3,e4,e5,e6,e7,e8⟩:=H ρ w b a cs bI ay hf;have QM:finish P fn.results.toList fr j s2= .ok x s3:=by rw[Gu];exact qq
 have Ba:bH s2:=e2.cG;have akp:Ext s.nx s2.nx ρ σ:=by
  refine⟨fun k y hk=>?_,fun k gM hk=>?_⟩
  ·by_cases qt:k<top
   ·by_cases q:s.nx<=k
    ·rw[hf k q qt] at hk;cases hk
    ·rw[e0 k ak qt];exact hk
   ·exact IH k y ak hk
  ·by_cases q:k<s.nx
   ·exact e0 k q gM
   ·rw[e1 k ak gM,hf k ak gM]
 let⟨hj,u2,s4,rs,h7,h9,hx⟩:=NS QM;have pK:bH s4:=(Tt.rV _).cG Ba h7;have qC:Leaves j fr.todo:=e7;let⟨d1,d2,w2,d3,d4,d5⟩:=I4 (P:=P) (fr:=b) (cs:=cs) Ba e2.rel e3 h7;let⟨f1,f2,us,f3,f4⟩:=I1 (P:=P) (w:=w2) e2.tr pK d3 h9;have jH:bH s3:=(Tt.tW P fr.tmps _).cG pK h9;have HJ:Steps P (lone (b.atR a' fr.todo) cs w')<|lone {b.atR a' fr.todo with mode:=.returning} cs w':=by
  rcases hj with rfl|rfl
  ·have e:fr.todo=[]:=qC;rw[e];exact .one<|stepR_end rfl
  ·let⟨k,e⟩:=qC;rw[e];exact .one<|stepR_ret rfl
 have yG:=d5 {b.atR a' fr.todo with mode:=.returning} cs j0 rfl;have lT:(results fn a'.tmps).run P w2= .ok (pd us) w2:=by
  unfold results;rw[Wj];simp only[TF,map_eq_pure_bind,TK];refine Eq.trans (congrArg (fun r:Result (List Value)=>(r.andThen fun a w'=>Result.ok a.toArray w').andThen fun a w'=>Result.ok (if h:a.size=1 then a[0] else Value.tuple a) w') f3) ?_;have:∀l:List Value,(Result.ok (if h:l.toArray.size=1 then l.toArray[0] else Value.tuple l.toArray) w2:Result Value)= .ok (pd l) w2:=by
   intro l
   match l with
   |[]=>rfl
   |[v]=>rfl
   |v::v2::l=>simp[pd]
  exact this us
 have ZO:s3.nx=s2.nx:=by rw[f2,d1]
 have hle:s.nx<=s3.nx:=by rw[ZO];exact en
 refine⟨.returned<|pd us,w2,{b.atR a' fr.todo with mode:=.returning,defers:=[]},⟨_,x,s3,rfl,hR,hle,jH,?_⟩,?_,rfl,?_⟩
 ·exact⟨σ,by rw[ZO];exact akp,by rw[hx];exact Oj f4,by rw[f1];exact d3,e4.trans d4⟩
 ·rw[yq];exact Steps.trans e8<|Steps.trans HJ yG
 ·exact⟨rfl,rfl,rfl,fn,cv,lT⟩
end
section
variable {P:Program} {Tu:aJ} {nt:Nat} {ops:Array Oper} {t t1:Tr AV}
theorem tT{P:Program}{w:World}{f:FuncId}{fn:Func}{body:Code}{vs:Array Value}(cv:P.funcs[f]? =some fn)(cF:fn.body=some body)(dF:(fn.name == "runtime.NumGoroutine")=false):(callFunc f vs).run P w= .ok (.enter f vs) w:=by
 have Hp:(program).run P w= .ok P w:=rfl;have hn:fn.name≠ "runtime.NumGoroutine" :=by simpa using dF
 simp only[callFunc,TF,Hp,TH,cv,dF,cF];simp
theorem vW{K:Nat}:∀{l:List<|List AV},(∀c∈l,c.length=K)->l.flatten.length=l.length*K
 |[],_=>by simp
 |c::l,h=>by rw[T5,TM,h c TA,vW fun c' h'=>h c'<|TB _ h',TL,Uo,UN];omega
theorem ag0{s:AS}{ty yt:TypeId}{x y:Operand}{k:IntKind}{a b c:Int}(hx:aF t x=some (.int k a))(hy:aF t y=some (.int k b))(h0:b≠0)(h:a.tmod b=c):(dY P<|.binOp .rem ty x y yt).val Tu t s= .ok (.int k c) s:=afp hx hy rfl rfl (by subst h;simp only[EL,decide_eq_false h0])
end
section
variable {P:Program} {Tu:aJ} {nt:Nat} {ops:Array Oper} {t t1:Tr AV}
end
section
end
section
variable {t1:Tr AV} {g:Option<|Nat×Bool} {d:Option Tmp} {v:AV} {id:Nat} {c:Code}
section
instance:Inhabited<|Tr AV:=⟨.nil⟩
def Chunk(P:Program)(Tu:aJ)(G:AF->AS->Prop):Prop:=∀(k:Nat) (fr aR:AF) (s s1:AS),eL P Tu k fr s= .ok (.go aR) s1->G aR s1->G fr s
def Ev(P:Program)(Tu:aJ)(R:AF->Option Code->AS->Prop)(fr:AF)(s:AS):Prop:=∃k aR j s1,eL P Tu k fr s= .ok (.leave aR j) s1/\R aR j s1
def AI(P:Program)(B:aE)(U:Nat)(Q:Tr AV->List Nat->Option Code->AS->Prop)(fr:AF)(s:AS):Prop:=U<=s.nx->av P B U Q fr s
def yU(P:Program)(Tu:aJ)(G:AF->AS->Prop)(f nt:Nat)(K:List Item)(ops:Array Oper)(i:Nat)(t:Tr AV)(s:AS):Prop:=∃t1 s1,p7 P Tu nt ops i (ops.size - i) t s= .ok t1 s1/\G ⟨f,t1,nt,K,[],none⟩ s1
def ru(P:Program)(Tu:aJ)(G:AF->AS->Prop)(f nt:Nat)(K:List Item)(ops:Array Oper)(acc:List Met)(i:Nat)(t:Tr AV)(s:AS):Prop:=∃t1 ms s1,uT P Tu nt ops i (ops.size - i) t s= .ok (t1,ms) s1/\qU (T1 ops) (acc++ms) (acc++ms)=true/\G ⟨f,t1,nt,K,[],none⟩ s1
def Kx(s:AS):AS:=⟨s.h,s.nx,s.nx,[],[]⟩
def ET(s s1:AS):AS:=⟨s1.h,s1.nx,s.mark,below s.mark s1.rd++s.rd,below s.mark s1.wr++s.wr⟩
def Ma(i:Nat)(s s1:AS):Met:=⟨i,below s.nx s1.rd,below s.nx s1.wr,s.nx,s1.nx⟩
end
section
variable {P:Program} {B:aE} {U:Nat} {Q:Tr AV->List Nat->Option Code->AS->Prop} {s s1:AS} {Tu:aJ} {t:Tr AV} {ops:Array Oper} {f nt i:Nat} {K:List Item} {G:AF->AS->Prop} {acc:List Met}
theorem Chunk.FT(bR:P.follows .mixedOrders=true)(hc:gk P B Tu)(hl:∀t a,Tt<|Tu t a):Chunk P Tu<|AI P B U Q:=by intro k fr aR s s1 h H h0 ρ w b a cs bI ay hf;have le:=(Tt.eL P hl k fr).le ay.cG h;exact av.chunk bR hc hl h h0 (H<|TO h0 le) ρ w b a cs bI ay hf
theorem al6:∀{k m:Nat} {fr aR:AF} {s s1:AS},eL P Tu k fr s= .ok (.go aR) s1->eL P Tu (k+m) fr s=eL P Tu m aR s1
 |0,m,fr,aR,s,s1,h=>by cases h;rw[T6]
 |k+1,m,fr,aR,s,s1,h=>by
  let⟨y,s2,h1,h2⟩:=M.aQ (show((jB P Tu fr).bind fun x=> @bw.rec (fun _=>M bw) (eL P Tu k) (fun fr j=>M.pure<|.leave fr j) x) s= .ok _ s1 from h);cases y with
  |go qD=>rw[show k+1+m=(k+m)+1 by omega,BW h1];exact al6 h2
  |leave qD j'=>cases h2
theorem Chunk.ev{R:AF->Option Code->AS->Prop}:Chunk P Tu<|Ev P Tu R:=by intro k fr aR s s1 h ⟨m,kR,j,s2,h1,h2⟩;exact⟨k+m,kR,j,s2,by rw[al6 h];exact h1,h2⟩
theorem Chunk.A7(hG:Chunk P Tu G)(ES:c= .region id (opsOf c) false)(H:yU P Tu G f nt K (opsOf c) 0 t s):G ⟨f,t,nt,.code c::K,[],none⟩ s:=by
 let⟨t1,s1,h,H⟩:=H;refine hG 1 _ _ _ s1 (BW ?_) H;have ht:((opsOf c).toList.drop 0).take ((opsOf c).size - 0)=(opsOf c).toList:=by rw[T8,Uk, ←Uq,UM]
 unfold p7 at h;rw[ht] at h;rw[ES];show((jE P Tu nt (opsOf c) (opsOf c).toList t).bind fun t=>M.pure<|bw.go ⟨f,t,nt,K,[],none⟩) s=_;rw[M.bO h];rfl
theorem Chunk.akq(hG:Chunk P Tu G)(ES:c= .region id (opsOf c) true)(H:ru P Tu G f nt K (opsOf c) [] 0 t s):G ⟨f,t,nt,.code c::K,[],none⟩ s:=by
 let⟨t1,ms,s1,h,hm,H⟩:=H;rw[UB] at hm;refine hG 1 _ _ _ s1 (BW ?_) H;have ht:((opsOf c).toList.drop 0).take ((opsOf c).size - 0)=(opsOf c).toList:=by rw[T8,Uk, ←Uq,UM]
 unfold uT at h;rw[ht] at h;rw[ES];show((qM P Tu nt (opsOf c) t).bind fun t=>M.pure<|bw.go ⟨f,t,nt,K,[],none⟩) s=_;have:qM P Tu nt (opsOf c) t s= .ok t1 s1:=by unfold qM;rw[M.bO h];show aG (qU (T1<|opsOf c) ms ms) (M.pure t1) s1=_;rw[hm,dR];rfl
 rw[M.bO this];rfl
theorem yU.done(h:Tw ops.size i=true)(H:G ⟨f,t,nt,K,[],none⟩ s):yU P Tu G f nt K ops i t s:=by refine⟨t,s,?_,H⟩;rw[show ops.size - i=0 by have:=aI.1 h;omega];unfold p7;rw[Vp];rfl
theorem ru.done(h:(Tw ops.size i&&qU (T1 ops) acc acc)=true)(H:G ⟨f,t,nt,K,[],none⟩ s):ru P Tu G f nt K ops acc i t s:=by let⟨h1,h2⟩:=and_true.1 h;refine⟨t,[],s,?_,by rw[U8];exact h2,H⟩;rw[show ops.size - i=0 by have:=aI.1 h1;omega];unfold uT;rw[Vp];rfl
theorem yU.step(hn:Tv i ops.size=true)(h:p7 P Tu nt ops i 1 t s= .ok t1 s1)(H:yU P Tu G f nt K ops (i+1) t1 s1):yU P Tu G f nt K ops i t s:=by let⟨t2,s2,h1,h2⟩:=H;have ct:=(blt_eq _ _).mp hn;refine⟨t2,s2,?_,h2⟩;rw[show ops.size - i=1+(ops.size - (i+1)) by omega];exact agw h h1
theorem ru.step{ms:List Met}(hn:Tv i ops.size=true)(h:uT P Tu nt ops i 1 t s= .ok (t1,ms) s1)(H:ru P Tu G f nt K ops (acc++ms) (i+1) t1 s1):ru P Tu G f nt K ops acc i t s:=by let⟨t2,ms2,s2,h1,h2,h3⟩:=H;have ct:=(blt_eq _ _).mp hn;refine⟨t2,_,s2,?_,by rw[←Um];exact h2,h3⟩;rw[show ops.size - i=1+(ops.size - (i+1)) by omega];exact amP rfl ak h h1
theorem anC{op:Op}(h:yR ops i=some (op,d,g)):Tv i ops.size=true:=by let⟨o,e,_⟩:=JN h;rw[blt_eq];exact(UR.1 e).1
def Lr(ops:Array Oper)(g:Option<|Nat×Bool)(t:Tr AV):Bool:=
 match g with
 |none=>true
 |some g=>uk ops t g.1&&qO ops g t
theorem ag1{op:Op}(ho:yR ops i=some (op,d,g))(hw:Lr ops g t=true)(h:(dY P op).val Tu t s= .ok v s1)(hp:jD nt t d v=some t1):p7 P Tu nt ops i 1 t s= .ok t1 s1:=by
 cases g with
 |none=>exact cP ho h hp
 |some g=>let⟨h1,h2⟩:=and_true.1 (show(uk ops t g.1&&qO ops g t)=true from hw);exact ako ho h1 h2 h hp
theorem afr{op:Op}(ho:yR ops i=some (op,d,g))(hw:Lr ops g t=true)(h:(dY P op).val Tu t (Kx s)= .ok v s1)(hp:jD nt t d v=some t1):uT P Tu nt ops i 1 t s= .ok (t1,[Ma i s s1]) (ET s s1):=by
 obtain⟨o,e,rfl,rfl,e3⟩:=JN ho;unfold uT;have hl:(ops.toList.drop i).take 1=[o]:=by
  have h1:ops.toList[i]? =some o:=by rw[VC];exact e
  let⟨hi,e⟩:=TZ.1 h1;rw[U6 hi,e];rfl
 rw[hl];have ha:hU P Tu nt ops o t (Kx s)= .ok t1 s1:=by
  unfold hU Cs;rw[e3];cases g with
  |none=>show te (dY P o.op) o.dst Tu nt t _=_;unfold te;rw[M.bO h,hp];rfl
  |some g=>let⟨h1,h2⟩:=and_true.1 (show(uk ops t g.1&&qO ops g t)=true from hw);show uG ops g (dY P o.op) o.dst Tu nt t _=_;unfold uG;rw[h1,h2,dR];show((dY P o.op).val Tu t).bind (fun v=>lift<|jD nt t o.dst v) _=_;rw[M.bO h,hp];rfl
 have hal:alone i (hU P Tu nt ops o t) s= .ok (t1,Ma i s s1) (ET s s1):=by let⟨hh,nx,mark,rd,wr⟩:=s;let⟨ze,qz,QI,gL,oS⟩:=s1;unfold alone;simp only[zO];show(@R.rec _ (fun _=>R<|Tr AV×Met) .bad (fun a s1=>_)<|hU P Tu nt ops o t<|Kx ⟨hh,nx,mark,rd,wr⟩)=_;rw[ha];rfl
 show((alone i<|hU P Tu nt ops o t).bind fun x=>(nL P Tu nt ops [] (i+1) x.1).bind fun y=>M.pure (y.1,x.2::y.2)) s=_;rw[M.bO hal];rfl
def Rj:BinOp->Int->Int->Option Bool
 | .lss,a,b=>some<|decide<|a<b
 | .leq,a,b=>some<|decide<|a<=b
 | .gtr,a,b=>some<|decide<|a>b
 | .geq,a,b=>some<|decide<|a>=b
 | .eql,a,b=>some<|a == b
 | .neq,a,b=>some<|!(a == b)
 |_,_,_=>none
theorem ag2{op:BinOp}{ty yt:TypeId}{x y:Operand}{k:IntKind}{a b:Int}{r:Bool}(hx:aF t x=some (.int k a))(hy:aF t y=some (.int k b))(h:Rj op a b=some r):(dY P<|.binOp op ty x y yt).val Tu t s= .ok (.bool r) s:=by cases op<;>simp only[Rj,Ud,reduceCtorEq] at h<;>exact afo hx hy rfl rfl (by subst h;rfl)
theorem AI.start(h:Tw U s.nx=true){fr:AF}(H:AI P B U Q fr s):av P B U Q fr s:=H<|aI.1 h
theorem GL{g:FuncId}{fn:Func}(h:P.funcs[g]? =some fn)(hb:fn.body.isSome=true):fn.body=some (aL P g []):=by
 unfold aL XK;rw[h];simp only[ud];cases e:fn.body with
 |none=>rw[e] at hb;cases hb
 |some c=>rfl
end
end
section
variable {α:Type} {l:List α} {i K n j:Nat} {enc:α->List AV} {c x c':α}
theorem al7{α:Type}(u v:Option α):∀(p q:List Bool) (t:Tr α),p≠q->Tr.mQ u p (Tr.mQ v q t)=Tr.mQ v q (Tr.mQ u p t)
 |[],[],_,h=>absurd rfl h
 |[],b::q,t,_=>by
  cases t with
  |nil=>cases b<;>rfl
  |node l x r=>cases b<;>rfl
 |a::p,[],t,_=>by
  cases t with
  |nil=>cases a<;>rfl
  |node l x r=>cases a<;>rfl
 |a::p,b::q,t,h=>by
  have ih:∀t:Tr α,a=b->Tr.mQ u p (Tr.mQ v q t)=Tr.mQ v q (Tr.mQ u p t):=fun t e=>al7 u v p q t (fun e2=>h<|by rw[e,e2]);cases t with
  |nil=>cases a<;>cases b<;>simp[Tr.OJ,Tr.Gn,ih]
  |node l x r=>cases a<;>cases b<;>simp[Tr.Gn,ih]
theorem Oo(u v:Option α):∀(p:List Bool) (t:Tr α),Tr.mQ u p (Tr.mQ v p t)=Tr.mQ u p t
 |[],t=>by cases t<;>rfl
 |a::p,t=>by
  cases t with
  |nil=>cases a<;>simp[Tr.OJ,Tr.Gn,Oo u v p]
  |node l x r=>cases a<;>simp[Tr.Gn,Oo u v p]
theorem put_comm(t:Tr α)(n m:Nat)(u v:Option α)(hn:n<top)(h:n≠m):(t.put m v).put n u=(t.put n u).put m v:=al7 u v _ _ t fun e=>anq hn (fun e2=>h e2.symm) e.symm
theorem aec(t:Tr α)(n:Nat)(u v:Option α):(t.put n v).put n u=t.put n u:=Oo u v _ t
theorem amS:∀(l:List α) (i:Nat) (t:Tr α) (n:Nat),n<i->n<top->(Tr.fill l i t).put n (some x)=Tr.fill l i (t.put n<|some x)
 |[],_,_,_,_,_=>rfl
 |y::l,i,t,n,h,hn=>by show(Tr.fill l (i+1)<|t.put i<|some y).put n (some x)=Tr.fill l (i+1) ((t.put n<|some x).put i<|some y);rw[amS l (i+1) _ n ak hn,put_comm t n i _ _ hn ak]
theorem al8:∀(l:List α) (i k:Nat) (t:Tr α),k<l.length->i+k<top->(Tr.fill l i t).put (i+k) (some x)=Tr.fill (l.set k x) i t
 |[],_,_,_,h,_=>by simp at h
 |y::l,i,0,t,_,h=>by show(Tr.fill l (i+1)<|t.put i<|some y).put i (some x)=Tr.fill l (i+1) (t.put i<|some x);rw[amS l (i+1) _ i ak h,aec]
 |y::l,i,k+1,t,h,ht=>by show(Tr.fill l (i+1)<|t.put i<|some y).put (i+(k+1)) (some x)=Tr.fill (l.set k x) (i+1) (t.put i<|some y);rw[show i+(k+1)=i+1+k by omega];exact al8 l (i+1) k _ (by simpa using h) ak
def iJ:List α->Nat->List α->List α
 |l,_,[]=>l
 |l,k,x::r=>iJ (l.set k x) (k+1) r
theorem al9{α:Type}:∀(r l:List α) (k:Nat),k+r.length<=l.length->l.length<=top->Tr.fill r k (Tr.fill l 0 .nil)=Tr.fill (iJ l k r) 0 .nil
 |[],_,_,_,_=>rfl
 |x::r,l,k,h,ht=>by simp only[TL] at h;show Tr.fill r (k+1) ((Tr.fill l 0 .nil).put k<|some x)=Tr.fill (iJ (l.set k x) (k+1) r) 0 .nil;have:=al8 (x:=x) l 0 k .nil ak ak;rw[T6] at this;rw[this];exact al9 r (l.set k x) (k+1) (by rw[T2];omega) (by rw[T2];exact ht)
theorem Pv{α:Type}:∀(r l:List α) (k i:Nat),k+r.length<=l.length->(iJ l k r)[i]? =if k<=i/\i<k+r.length then r[i - k]? else l[i]?
 |[],l,k,i,_=>by show l[i]? =_;simp;intro h1 h2;omega
 |x::r,l,k,i,h=>by
  simp only[TL] at h ⊢;show(iJ (l.set k x) (k+1) r)[i]? =_;rw[Pv r (l.set k x) (k+1) i (by rw[T2];omega)];by_cases e:i=k
  ·subst e;rw[if_neg ak,if_pos ak,Nat.sub_self,List.getElem?_set];simp;omega
  ·by_cases q:k+1<=i/\i<k+1+r.length
   ·rw[if_pos q,if_pos ak];obtain⟨j,rfl⟩:∃j,i=k+1+j:=⟨i - (k+1),by omega⟩;rw[show k+1+j - (k+1)=j by omega,show k+1+j - k=j+1 by omega];simp
   ·rw[if_neg q,if_neg ak,List.getElem?_set_ne ak]
theorem BX{K:Nat}{β:Type}:∀{L:List<|List β} {i j:Nat},(∀c∈L,c.length=K)->i<L.length->j<K->∀{c:List β},L[i]? =some c->L.flatten[i*K+j]? =c[j]?
 |[],_,_,_,h,_,_,_=>by simp at h
 |x::L,0,j,hL,_,hj,c,hc=>by simp at hc;subst hc;have hx:=hL x TA;rw[T5,UE,T6,Ux ak]
 |x::L,i+1,j,hL,hi,hj,c,hc=>by have hx:=hL x TA;rw[T5,UJ (by rw[hx,Uo];omega),hx,show(i+1)*K+j - K=i*K+j by rw[Uo];omega];exact BX (fun c hc=>hL c<|TB _ hc) (by simpa using hi) hj (by simpa using hc)
theorem aed(he:∀x,(enc x).length=K){r:List AV}(hc:l[i]? =some c)(hr:enc c'=iJ (enc c) j r)(hj:j+r.length<=K):iJ (l.map enc).flatten (i*K+j) r=((l.set i c').map enc).flatten:=by
 have hi:=(TZ.1 hc).1;have dL:∀(l:List α),∀c∈l.map enc,c.length=K:=fun l c hc=>by obtain⟨x,_,rfl⟩:=TI.1 hc;exact he x
 have zl:∀l:List α,(l.map enc).flatten.length=l.length*K:=fun l=>by rw[vW<|dL l,T3]
 have hmul:i*K+K<=l.length*K:=by have:=UW K hi;rw[VK] at this;exact this
 apply U2;intro m;rw[Pv _ _ _ _ (by rw[zl];omega)];by_cases hm:m<l.length*K
 ·have hK:0<K:=by
   cases K with
   |zero=>simp at hm
   |succ k=>omega
  have hq:m / K<l.length:=by rw[Nat.div_lt_iff_lt_mul hK];exact hm
  have FV:m=m / K*K+m % K:=by rw[UQ];exact(Nat.div_add_mod m K).symm
  have HK:m % K<K:=Vv _ hK;have hold:(l.map enc).flatten[m]? =(enc<|l[m / K]'hq)[m % K]? :=by
   conv=>lhs;rw[FV]
   exact BX (dL l) (by rw[T3];exact hq) HK (by rw[Uc,TE hq];rfl)
  have eN:m / K<(l.set i c').length:=by rw[T2];exact hq
  have w9:((l.set i c').map enc).flatten[m]? =(enc<|(l.set i c')[m / K]'eN)[m % K]? :=by
   conv=>lhs;rw[FV]
   exact BX (dL _) (by rw[T3];exact eN) HK (by rw[Uc,TE eN];rfl)
  rw[w9,hold];by_cases e:m / K=i
  ·have hci:l[m / K]'hq=c:=by
    have:l[m / K]? =some c:=by rw[e];exact hc
    rw[TE hq] at this;injection this
   have rG:(l.set i c')[m / K]'eN=c':=by simp[e]
   rw[rG,hci,hr,Pv _ _ _ _ (by rw[he];exact hj)];have aou:m=i*K+m % K:=by rw[e] at FV;exact FV
   by_cases q:j<=m % K/\m % K<j+r.length
   ·rw[if_pos ak,if_pos q];congr 1;omega
   ·rw[if_neg (by intro q2;apply q;omega),if_neg q]
  ·have rG:(l.set i c')[m / K]'eN=l[m / K]'hq:=by rw[List.getElem_set_ne fun e2=>e e2.symm]
   rw[rG,if_neg];intro q;apply e;have h1:m<(i+1)*K:=by rw[Uo];omega
   have h2:i*K<=m:=by omega
   have h3:=(Nat.le_div_iff_mul_le hK).2 h2;have h4:=(Nat.div_lt_iff_lt_mul hK).2 h1;omega
 ·rw[if_neg ak,Uf (by rw[zl];omega),Uf (by rw[zl,T2];omega)]
section
def aU(n:Nat)(s:AS):AS:= @Bool.rec (fun _=>AS) s ⟨s.h,s.nx,s.mark,n::s.rd,s.wr⟩<|Tv n s.mark
def fN(n:Nat)(o:Option ah)(s:AS):AS:= @Bool.rec (fun _=>AS) ⟨s.h.put n o,s.nx,s.mark,s.rd,s.wr⟩ ⟨s.h.put n o,s.nx,s.mark,n::s.rd,n::s.wr⟩<|Tv n s.mark
end
section
variable {P:Program} {s:AS} {Tu:aJ} {t:Tr AV}
theorem mo{o:ah}(h1:Tv n s.nx=true)(h2:s.h.get n=some o):bA n s= .ok o (aU n s):=by let⟨hh,nx,mark,rd,wr⟩:=s;have e1:Tv n nx=true:=h1;have e2:hh.get n=some o:=h2;show @Bool.rec (fun _=>R ah) .bad (@Option.rec ah (fun _=>R ah) .bad (fun o=> @Bool.rec (fun _=>R ah) (.ok o ⟨hh,nx,mark,rd,wr⟩) (.ok o ⟨hh,nx,mark,n::rd,wr⟩)<|Tv n mark)<|hh.get n) (Tv n nx)=_;rw[e1,e2];show @Bool.rec (fun _=>R ah) (.ok o ⟨hh,nx,mark,rd,wr⟩) (.ok o ⟨hh,nx,mark,n::rd,wr⟩) (Tv n mark)= .ok o (@Bool.rec (fun _=>AS) ⟨hh,nx,mark,rd,wr⟩ ⟨hh,nx,mark,n::rd,wr⟩<|Tv n mark);cases Tv n mark<;>rfl
theorem gd(n:Nat)(s:AS):(aU n s).h=s.h/\(aU n s).nx=s.nx/\(aU n s).mark=s.mark:=by unfold aU;cases Tv n s.mark<;>exact⟨rfl,rfl,rfl⟩
theorem yf{o:Option ah}{p:ah}(h1:Tv n s.nx=true)(h2:s.h.get n=some p)(h3:p.dA=false)(ht:Tv n top=true):bS n o s= .ok () (fN n o s):=by let⟨hh,nx,mark,rd,wr⟩:=s;have e1:(Tv n nx&&Tv n top)=true:=and_true.2 ⟨h1,ht⟩;have e2:hh.get n=some p:=h2;show @Bool.rec (fun _=>R Unit) .bad (@Option.rec ah (fun _=>R Unit) .bad (fun p=> @Bool.rec (fun _=>R Unit) (@Bool.rec (fun _=>R Unit) (.ok () ⟨hh.put n o,nx,mark,rd,wr⟩) (.ok () ⟨hh.put n o,nx,mark,n::rd,n::wr⟩)<|Tv n mark) .bad p.dA)<|hh.get n) (Tv n nx&&Tv n top)=_;rw[e1,e2];show @Bool.rec (fun _=>R Unit) (@Bool.rec (fun _=>R Unit) (.ok () ⟨hh.put n o,nx,mark,rd,wr⟩) (.ok () ⟨hh.put n o,nx,mark,n::rd,n::wr⟩)<|Tv n mark) .bad p.dA=_;rw[h3];show @Bool.rec (fun _=>R Unit) (.ok () ⟨hh.put n o,nx,mark,rd,wr⟩) (.ok () ⟨hh.put n o,nx,mark,n::rd,n::wr⟩) (Tv n mark)= .ok () (@Bool.rec (fun _=>AS) ⟨hh.put n o,nx,mark,rd,wr⟩ ⟨hh.put n o,nx,mark,n::rd,n::wr⟩<|Tv n mark);cases Tv n mark<;>rfl
theorem zS(he:∀x,(enc x).length=K)(l:List α):(l.map enc).flatten.length=l.length*K:=by rw[vW (K:=K) (fun c hc=>by obtain⟨x,_,rfl⟩:=TI.1 hc;exact he x),T3]
theorem WB(he:∀x,(enc x).length=K){k:Nat}(hc:l[i]? =some c)(hj:j+k<=K):i*K+j+k<=(l.map enc).flatten.length/\((l.map enc).flatten.drop<|i*K+j).take k=((enc c).drop j).take k:=by
 have hi:=(TZ.1 hc).1;have hmul:i*K+K<=l.length*K:=by have:=UW K hi;rw[VK] at this;exact this
 refine⟨by rw[zS he];omega,?_⟩;apply U2;intro m;rw[Wk,Wk];split
 ·rename_i hm;rw[Ue,Ue,UU];exact BX (fun c hc=>by obtain⟨x,_,rfl⟩:=TI.1 hc;exact he x) (by rw[T3];exact hi) ak (by rw[Uc,hc];rfl)
 ·rfl
theorem amT(h:l[i]? =some c):(l.set i c')[i]? =some c':=by have hi:=(TZ.1 h).1;rw[List.getElem?_set_self hi]
end
end
def VL(W:World):Ren:=fun k=>if k<fY then some (k,match W.heap[k]? with|some (.cells c _ _)=>c.size|_=>0) else none
section
variable {ops:Array Oper}
def ag3(ops:Array Oper):Bool:=ops.toList.zipIdx.all fun x=>x.1.after.toList.all fun e=> !Region.binds .any e||decide (e.on<x.2)
def QN(ops:Array Oper)(x y:Oper):Bool:=
 match x.dst with
 |none=>false
 |some d=>(y.looksAt ops).contains d||y.dst == some d
def ag4(ops:Array Oper)(b:Array Nat):Bool:=ops.toList.zipIdx.all fun x=>ops.toList.zipIdx.all fun y=> !(QN ops x.1 y.1)||(Tx x.2 y.2|| !loose b x.2 y.2)
def Rk(ops:Array Oper):Bool:=ag3 ops&&ag4 ops (CheckFast.beforeF ops)
def ue:Code->Bool
 | .seq a b=>ue a&&ue b
 | .cond _ a b=>ue a&&ue b
 | .block _ b=>ue b
 | .loop b=>ue b
 | .scope b=>ue b
 | .region _ ops draw=> !draw||Rk ops
 | .rangeFunc _ _ a b=>ue a&&ue b
 |_=>true
def aiz(P:Program):Bool:=P.funcs.toList.all fun fn=>match fn.body with
 |none=>true
 |some c=>ue c
theorem NV{i:Nat}{o:Oper}(h:ops[i]? =some o):(o,i)∈ops.toList.zipIdx:=by rw[List.mem_zipIdx_iff_getElem?];simpa using h
theorem afs(h:Rk ops=true):Ll ops:=by
 unfold Rk at h;let⟨h1,h2⟩:=UI.1 h;rw[CheckFast.beforeF_eq] at h2;refine⟨fun j o e ho hm hb=>?_,fun i j x y d lZ hx hy hd cV=>?_⟩
 ·have:=TG.1 (TG.1 h1 _<|NV ho) e<|U7.2 hm;simp only[hb,VQ,We,decide_eq_true_eq] at this;exact this
 ·have:=TG.1 (TG.1 h2 _<|NV hx) _<|NV hy;have hc:QN ops x y=true:=by
   unfold QN;rw[hd];simp only[U0,beq_iff_eq];rcases cV with q|q
   ·exact .inl<|List.contains_iff_mem.2 q
   ·exact .inr q
  simp only[hc,VQ,We,U0,Wg] at this;rcases this with q|q
  ·exact absurd (Nat.beq_eq.mp q) lZ
  ·exact q
theorem acf:∀{c:Code},ue c=true->iS c:=by
 intro c;induction c with
 |seq a b C0 C1=>intro h;let⟨h1,h2⟩:=UI.1 h;exact⟨C0 h1,C1 h2⟩
 |cond _ a b C0 C1=>intro h;let⟨h1,h2⟩:=UI.1 h;exact⟨C0 h1,C1 h2⟩
 |block _ b ih=>intro h;exact ih h
 |loop b ih=>intro h;exact ih h
 |scope b ih=>intro h;exact ih h
 |region id ops draw=>intro h hd;subst hd;exact afs h
 |rangeFunc _ _ a b C0 C1=>intro h;let⟨h1,h2⟩:=UI.1 h;exact⟨C0 h1,C1 h2⟩
 |_=>intro _;trivial
theorem aoc{P:Program}(hm:P.follows .mixedOrders=true)(h:aiz P=true):bY P:=by refine⟨hm,fun f fn body hf hb=>?_⟩;have:=TG.1 h fn (TY<|by simpa using hf);rw[hb] at this;exact acf this
end
section
end
end Go.Rn
namespace Go.Rn
open Go.RowKit
section
end
section
variable {P:Program} {s s1:AS} {Tu:aJ} {t:Tr AV}
end
end Go.Rn
namespace Go.Rn
end Go.Rn
namespace Go.Rn
open Go.RowKit
section
variable {ρ σ:Ren} {x:AV} {v:Value}
theorem aft(k:IntKind)(lo hi:Int)(n:Int)(h:lo<=n/\n<=hi)(hk:(k.signed=true/\lo= -(2 ^ (k.bits - 1):Int)/\hi=(2 ^ (k.bits - 1):Int) - 1/\(2 ^ k.bits:Int)=2*(2 ^ (k.bits - 1):Int)/\(0:Int)<(2 ^ (k.bits - 1):Int))\/(k.signed=false/\lo=0/\hi=(2 ^ k.bits:Int) - 1)):IntKind.wrap k n=n:=by
 unfold IntKind.wrap;rcases hk with⟨hs,h1,h2,h3,h4⟩|⟨hs,h1,h2⟩
 ·simp only[hs,VN,decide_eq_true_eq];subst h1;subst h2;rw[h3];generalize (2 ^ (k.bits - 1):Int)=p at*;by_cases q:0<=n
  ·have:n % (2*p)=n:=Wn q ak;rw[this,if_neg ak]
  ·have:n % (2*p)=n+2*p:=by rw[←Int.add_emod_right,Wn ak ak]
   rw[this,if_pos ak];omega
 ·simp only[hs,Bool.false_and];subst h1;subst h2;have:n % (2 ^ k.bits:Int)=n:=Wn h.1 ak;simp[this]
theorem aaI{n:Int}(h: -9223372036854775808<=n/\n<=9223372036854775807):IntKind.wrap .i64 n=n:=aft .i64 _ _ n h<|.inl ⟨rfl,by decide,by decide,by decide,by decide⟩
section
variable {P:Program} {s s1:AS} {Tu:aJ} {t:Tr AV}
end
def AV.cN(x:AV):Bool:=match x with
 | .ab n _ _=>Tw top n
 |x=>x.flat
def AV.tu(x:AV):Bool:=match x with
 | .agg l=>l.all AV.cN
 |x=>x.cN
def AV.hi(x:AV):Bool:=match x with
 | .agg l=>l.all AV.cN
 | .tuple l=>l.all AV.tu
 |x=>x.cN
def jo(ρ σ:Ren):Prop:=∀k x,top<=k->ρ k=some x->σ k=some x
theorem qZ.hi(h:jo ρ σ){n b sh:Nat}(ht:top<=n)(k:qZ ρ n b sh):qZ σ n b sh:=.inr ⟨ht,fun e=>k.high ht (by
 cases q:ρ (hn n b sh) with
 |none=>rfl
 |some x=>rw[h _ _ (gb _ _ _) q] at e;cases e)⟩
theorem VR.flat(h:x.flat=true)(k:VR ρ x v):VR σ x v:=by
 cases x<;>first|(simp only[VR] at k ⊢;exact k)|(cases h;done)|skip
 case slice a len cap=>cases a with
  |some _=>cases h
  |none=>cases cap with
   |known c=>simp only[VR] at k ⊢;exact k
   |au _ _=>cases h
   |lost=>cases h
 all_goals
  rename_i a;cases a with
  |none=>simp only[VR] at k ⊢;exact k
  |some _=>cases h
theorem AV.wx(jI:jo ρ σ)(h:x.cN=true)(k:VR ρ x v):VR σ x v:=by
 unfold AV.cN at h;split at h
 ·have ht:=aI.1 h;simp only[VR] at k ⊢;exact k.imp id fun⟨b,sh,c,q1,q2⟩=>⟨b,sh,c,q1.hi jI ht,q2⟩
 ·exact VR.flat h k
theorem AV.Pw(jI:jo ρ σ):∀{l:List AV} {vs:List Value},l.all AV.cN=true->ax ρ l vs->ax σ l vs
 |[],_,_,hv=>by simpa only[ax] using hv
 |y::l,vs,hy,hv=>by let⟨h1,h2⟩:=and_true.1 (show(y.cN&&l.all AV.cN)=true from hy);simp only[ax] at hv ⊢;let⟨a,as,e,h3,h4⟩:=hv;exact⟨a,as,e,AV.wx jI h1 h3,AV.Pw jI h2 h4⟩
theorem AV.ag5(jI:jo ρ σ)(h:x.tu=true)(k:VR ρ x v):VR σ x v:=by
 unfold AV.tu at h;split at h
 ·simp only[VR] at k ⊢;let⟨a,e,q⟩:=k;exact⟨a,e,AV.Pw jI h q⟩
 ·exact AV.wx jI h k
theorem AV.WC(jI:jo ρ σ):∀{l:List AV} {vs:List Value},l.all AV.tu=true->ax ρ l vs->ax σ l vs
 |[],_,_,hv=>by simpa only[ax] using hv
 |y::l,vs,hy,hv=>by let⟨h1,h2⟩:=and_true.1 (show(y.tu&&l.all AV.tu)=true from hy);simp only[ax] at hv ⊢;let⟨a,as,e,h3,h4⟩:=hv;exact⟨a,as,e,AV.ag5 jI h1 h3,AV.WC jI h2 h4⟩
theorem AV.ou(jI:jo ρ σ)(h:x.hi=true)(k:VR ρ x v):VR σ x v:=by
 unfold AV.hi at h;split at h
 ·simp only[VR] at k ⊢;let⟨a,e,q⟩:=k;exact⟨a,e,AV.Pw jI h q⟩
 ·simp only[VR] at k ⊢;let⟨a,e,q⟩:=k;exact⟨a,e,AV.WC jI h q⟩
 ·exact AV.wx jI h k
theorem AV.Ce(jI:jo ρ σ):∀{l:List AV} {vs:List Value},l.all AV.hi=true->ax ρ l vs->ax σ l vs
 |[],_,_,hv=>by simpa only[ax] using hv
 |y::l,vs,hy,hv=>by let⟨h1,h2⟩:=and_true.1 (show(y.hi&&l.all AV.hi)=true from hy);simp only[ax] at hv ⊢;let⟨a,as,e,h3,h4⟩:=hv;exact⟨a,as,e,AV.ou jI h1 h3,AV.Ce jI h2 h4⟩
theorem ag6:jo ρ<|gK ρ:=fun k x hk e=>by unfold gK;rw[if_pos hk];exact e
end
end Go.Rn
namespace Go.Rn
open Go.RowKit
def pA(sp:Sp)(g:FuncId)(m:aJ->List AV->M AV):Sp:=fun f=>bif Tx f g then some m else sp f
theorem ahD{sp:Sp}{g:FuncId}{m m':aJ->List AV->M AV}{f:FuncId}(h:pA sp g m f=some m'):(f=g/\m'=m)\/sp f=some m':=by
 unfold pA at h;cases e:Tx f g with
 |true=>rw[e] at h;injection h with h;exact .inl ⟨Ug e,h.symm⟩
 |false=>rw[e] at h;exact .inr h
end Go.Rn
namespace Go.Rn
end Go.Rn
namespace Go.Rn
open Go.RowKit
end Go.Rn
namespace Go.Rn
open Go.RowKit
section
def de(U:Nat)(h0:Tr ah)(ns:List Nat)(s:AS):AS:=match gj U h0 ns s with| .ok _ s1=>s1| .bad=>s
def nu(U:Nat)(h0:Tr ah)(ns:List Nat)(s:AS):Bool:=match gj U h0 ns s with| .ok _ _=>true| .bad=>false
end
theorem yr{U:Nat}{h0:Tr ah}{ns:List Nat}{s:AS}(h:nu U h0 ns s=true):gj U h0 ns s= .ok () (de U h0 ns s):=by
 unfold nu at h;unfold de;cases e:gj U h0 ns s with
 |bad=>rw[e] at h;cases h
 |ok u s1=>rfl
section
variable {P:Program} {s s1:AS} {Tu:aJ} {t:Tr AV}
end
def QO(n:Int):Prop:= -9223372036854775808<=n/\n<=9223372036854775807
instance (n:Int):Decidable<|QO n:=by unfold QO;infer_instance
section
variable {va:Bool} {rs ps:Array TypeId} {e:TypeId} {P:Program}
def Ka(P:Program):DataW (List UInt8)->Option FuncId->Bool
 | .nil,none=>true
 | .held (b::r),some f=>(Ui P.funcs.size).filter (fun f=>(P.funcs[f]?).any (·.name.toUTF8.data.toList == b::r)) == [f]
 |_,_=>false
def BY(P:Program):List (DataW<|List UInt8)->List (Option FuncId)->Bool
 |[],[]=>true
 |d::ds,f::fs=>Ka P d f&&BY P ds fs
 |_,_=>false
def aiA(P:Program)(d:DataW<|List UInt8)(fs:List<|Option FuncId):Bool:=
 match d with
 | .agg ds=>BY P ds fs
 |_=>false
def Kb:Option FuncId->AV
 |none=>.nilFunc
 |some f=>.func (.func f) [] []
def Ey:Option FuncId->Value
 |none=>.nilFunc
 |some f=>.func (.func f) #[] #[]
theorem aod(ρ:Ren)(f:Option FuncId):VR ρ (Kb f)<|Ey f:=by
 cases f with
 |none=>simp only[Kb,Ey,VR]
 |some f=>simp only[Kb,Ey,VR,ax];exact⟨rfl,_,_,rfl,rfl,rfl⟩
theorem amU{α β:Type}{f:α->Option β}:∀{l:List α} {r:List β},l.mapM f=some r->l.length=r.length/\∀(i:Nat) (x:α),l[i]? =some x->∃y,r[i]? =some y/\f x=some y
 |[],r,h=>by simp at h;subst h;exact⟨rfl,fun i x hx=>by simp at hx⟩
 |a::l,r,h=>by
  rw[V6] at h;cases e:f a with
  |none=>simp[e] at h
  |some b=>
   cases e2:l.mapM f with
   |none=>simp[e,e2] at h
   |some bs=>
    simp[e,e2] at h;subst h;let⟨h1,h2⟩:=amU e2;refine⟨by simp[h1],fun i x hx=>?_⟩;cases i with
    |zero=>simp at hx;subst hx;exact⟨b,rfl,e⟩
    |succ i=>simp at hx;let⟨y,h3,h4⟩:=h2 i x hx;exact⟨y,by simpa using h3,h4⟩
theorem abi{w:World}{fuel:Nat}{v:Value}{d:DataW<|List UInt8}{q:List MemPlace}{f:Option FuncId}(he:P.underlying e=some (.func ps rs va))(h:DataW.trod (funcToken P) P w 0 (fun _=>true) true fuel e [v]=some (d,q))(hk:Ka P d f=true):v=Ey f:=by
 unfold Ka at hk;split at hk
 ·cases fuel with
  |zero=>simp[DataW.trod] at h
  |succ n=>cases v<;>simp[DataW.trod,he] at h;rfl
 ·exact func_of_trod he (by simpa using hk) h
 ·cases hk
theorem aaJ{P:Program}:∀{ds:List<|DataW<|List UInt8} {fs:List<|Option FuncId},BY P ds fs=true->ds.length=fs.length/\∀(i:Nat) d f,ds[i]? =some d->fs[i]? =some f->Ka P d f=true
 |[],[],_=>⟨rfl,fun i d f h=>by simp at h⟩
 |[],_::_,h=>by simp[BY] at h
 |_::_,[],h=>by simp[BY] at h
 |d::ds,f::fs,h=>by
  simp only[BY,TW] at h;let⟨h1,h2⟩:=aaJ h.2;refine⟨by simp[h1],fun i a b ha hb=>?_⟩;cases i with
  |zero=>simp at ha hb;subst ha;subst hb;exact h.1
  |succ i=>simp at ha hb;exact h2 i a b ha hb
theorem an9{W:World}{name:String}{d:DataW Unit}{g:Nat}{t:TypeId}{n:Nat}{fs:List<|Option FuncId}(h:funcsAt P W name d)(hg:P.globalNamed name=some g)(hty:(P.globals[g]?).map (·.type)=some t)(ht:P.underlying t=some (.array n e))(he:P.underlying e=some (.func ps rs va))(hc:P.cellsOf e=1)(hct:P.cellsOf t=n)(hd:aiA P d.funcsOut fs=true):
 ∃c ty fr,W.heap[g]? =some (.cells c ty fr)/\fs.length=c.size/\∀(i:Nat) f,fs[i]? =some f->c[i]? =some (Ey f):=by
 let⟨g',t',cs,fuel,p,h1,h2,h3,h4⟩:=h;obtain rfl:g=g':=Option.some.inj<|hg.symm.trans h1;obtain rfl:t=t':=Option.some.inj<|hty.symm.trans h2;have nj:∃ty fr,W.heap[g]? =some (.cells cs ty fr):=by
  unfold World.var? at h3;rw[hg] at h3;simp only[Vn] at h3;split at h3
  ·rename_i c ty fr e;injection h3 with h3;subst h3;exact⟨ty,fr,e⟩
  ·cases h3
 let⟨ty,fr,nj⟩:=nj;cases fuel with
 |zero=>simp[DataW.trod] at h4
 |succ m=>
  rw[DataW.trod_step] at h4;unfold DataW.trodStep at h4;simp only[ht,hc,Va] at h4;split at h4
  ·rename_i hlen;rw[Option.map_eq_some_iff] at h4;let⟨xs,h5,h6⟩:=h4;let⟨h7,h8⟩:=amU h5;have akr:d.funcsOut= .agg (xs.map (·.1)):=by injection h6 with h6 _;exact h6.symm
   rw[akr] at hd;let⟨h9,gT⟩:=aaJ (show BY P (xs.map (·.1)) fs=true from hd);have hxl:xs.length=fs.length:=by simpa using h9
   have get:∀(i:Nat) f,fs[i]? =some f->cs[i]? =some (Ey f):=by
    intro i f hf;have hi:i<fs.length:=(TZ.1 hf).1;let⟨y,zh,rE⟩:=h8 i i (by rw[Vt (by simp at h7;omega)]);obtain⟨v,hv⟩:∃v,(cs.toList.drop i).take 1=[v]:=by
     cases hq:(cs.toList.drop i).take 1 with
     |nil=>
      rw[hq] at rE;cases m with
      |zero=>simp[DataW.trod] at rE
      |succ k=>simp[DataW.trod,he] at rE
     |cons v l=>
      have:((cs.toList.drop i).take 1).length<=1:=List.length_take_le _ _;rw[hq] at this;cases l with
      |nil=>exact⟨v,rfl⟩
      |cons=>simp at this
    rw[hv] at rE;have HI:=abi (f:=f) (d:=y.1) (q:=y.2) he rE<|gT i y.1 f (by rw[Uc,zh];rfl) hf;have:(cs.toList.drop i)[0]? =some v:=by
     have:((cs.toList.drop i).take 1)[0]? =some v:=by rw[hv];rfl
     rw[U4 ak] at this;exact this
    rw[Ue,Ul,VC] at this;rw[this,HI]
   refine⟨cs,ty,fr,nj,?_,get⟩;have Ym:=hlen;rw[hct] at Ym;simp at Ym h7;omega
  ·cases h4
theorem aee(l:List AV)(hl:l.length<=top)(i:Nat)(hi:i<l.length):(Tr.fill l 0 .nil).get i=l[i]? :=by rw[Tr.rR _ _ _ _ ak,if_pos ak];simp
end
section
end
end Go.Rn
namespace Go.Rn
open Go.RowKit
section
end
section
variable {P:Program} {B:aE} {U:Nat} {s s1:AS} {Tu:aJ} {t:Tr AV} {ops:Array Oper} {f nt i:Nat} {K:List Item} {G:AF->AS->Prop} {acc:List Met} {rs:List ResultVar} {v v':AV}
end
section
variable {P:Program} {s s1:AS} {Tu:aJ} {t:Tr AV}
end
section
end
section
variable {P:Program} {F:Nat->Option (List AV)} {sp:Sp} {g n k:Nat} {ad:Option<|Nat×Nat} {cp:cx} {s:AS} {l:List AV} {a b c d:ByteArray} {n1 n2 n3 n4:Nat}
end
end Go.Rn
namespace Go.Rn
open Go.RowKit
section
end
end Go.Rn
namespace Go.Rn
end Go.Rn
namespace Go.Rn
open Go.RowKit
section
variable {n:Nat} {α:Type} {y x:Operand} {ty e:TypeId} {ts:Array TypeId} {l:List α} {i:TypeInfo} {enc:α->List AV}
section
variable {P:Program} {s:AS} {Tu:aJ} {t:Tr AV}
theorem DR{off k:Nat}{l:List AV}(h1:Tv n s.nx=true)(h2:s.h.get n=some (.cells l.length (Tr.fill l 0 .nil) []))(hl:l.length<=top)(ZP:0<k)(hk:off+k<=l.length):jz n off k s= .ok ((l.drop off).take k) (aU n s):=by
 cases k with
 |zero=>omega
 |succ k=>
  show((bA n).bind fun o=>match o with
   | .cells m t z=>aG (Tw (off+(k+1)) m) <| lift (ly t z (k+1) off)
   | .ro m t=>aG (Tw (off+(k+1)) m) <| lift (ly t [] (k+1) off)
   |_=>fail) s=_
  rw[M.bO<|mo h1 h2];show aG (Tw (off+(k+1)) l.length) (lift<|ly (Tr.fill l 0 .nil) [] (k+1) off) (aU n s)=_;rw[aI.2 hk,dR,Je hl _ _ hk];rfl
theorem ag7{L:List α}{len:Nat}{cap:cx}{n0 o0 k0:Nat}(hx:aF t x=some (.slice (some (n,0)) len cap))(hlen:len=l.length)(hy:aF t y=some (.ab n0 o0 k0))(h0:ts[0]? =some ty)(hu:P.underlying ty=some (.slice e))(hi:P.info? e=some i)(hz:and (tX i) (pZ P ts[1]?)=true)(fH:QE i.size len cap=true)(dI:top<=n0)(fx:∀s,Tu (.row n0 o0<|k0*i.size) [] s= .ok (.agg (L.map enc).flatten) s)(hk:k0=L.length)(hn:s.h.get n=some (az enc l))(cH:(Tv n s.nx&&Tv s.nx top)=true)(yV:∀x:α,(enc x).length=i.size/\(enc x).all AV.bM=true)(hb:Tx i.bytes 0=false)(uH:2*(l.length+L.length)*i.bytes+4096*i.bytes<=room)(j9:(l.length+L.length)*i.size<=top):
 ∃rd wr,(∀k∈rd,k=n\/k∈s.rd)/\(∀k∈wr,k=n\/k∈s.wr)/\(s.mark=0->rd=s.rd/\wr=s.wr)/\(dY P<|.call ⟨.builtin .append, #[x,y],ts⟩).val Tu t s= .ok (.slice (some (s.nx,0)) (l++L).length<|.au (l++L).length i.size) ⟨(s.h.put n none).put s.nx<|some<|az enc<|l++L,s.nx+1,s.mark,rd,wr⟩:=by
 subst hlen;subst hk;let⟨fC,Di⟩:=and_true.1 cH;have aks:=(blt_eq _ _).mp fC;have CI:=(blt_eq _ _).mp Di;have pq:∀l:List α,(l.map enc).flatten.length=l.length*i.size:=fun l=>by
  have:=vW (K:=i.size) (l:=l.map enc) fun c hc=>by obtain⟨a,_,rfl⟩:=TI.1 hc;exact(yV a).1
  rw[this,T3]
 have wY:∀l:List α,(l.map enc).flatten.all AV.bM=true:=by
  intro l;induction l with
  |nil=>rfl
  |cons x l ih=>simp only[T0,T5,U9,ih,(yV x).2,VE]
 have ct:(l.map enc).flatten.length<=top:=by rw[pq];have:=UW i.size (show l.length<=l.length+L.length by omega);omega
 have QP:∃rd,(∀k∈rd,k=n\/k∈s.rd)/\(s.mark=0->rd=s.rd)/\jz n 0 (l.length*i.size) s= .ok (l.map enc).flatten ⟨s.h,s.nx,s.mark,rd,s.wr⟩:=by
  cases hk:l.length*i.size with
  |zero=>have:(l.map enc).flatten=[]:=UY (by rw[pq,hk]);rw[this];exact⟨s.rd,fun k h=>.inr h,fun _=>rfl,rfl⟩
  |succ k=>
   have hr:=DR (n:=n) (off:=0) (k:=k+1) (l:=(l.map enc).flatten) (s:=s) fC hn ct (Uu _) (by rw[pq,hk];omega);rw[T8, ←hk, ←pq,UM] at hr;rw[←hk, ←pq];refine⟨(aU n s).rd,?_,fun hm=>?_,?_⟩
   ·intro k h;unfold aU at h;cases q:Tv n s.mark with
    |false=>rw[q] at h;exact .inr h
    |true=>rw[q] at h;rcases Ty.1 h with h|h;exact .inl h;exact .inr h
   ·unfold aU;rw[hm,show Tv n 0=false from by cases q:Tv n 0 with|false=>rfl|true=>have:=(blt_eq _ _).mp q;omega]
   ·rw[hr];congr 1;unfold aU;cases Tv n s.mark<;>rfl
 let⟨gL,a1,a2,a3⟩:=QP;have qq:∃rd wr,(∀k∈rd,k=n\/k∈s.rd)/\(∀k∈wr,k=n\/k∈s.wr)/\(s.mark=0->rd=s.rd/\wr=s.wr)/\
  ((bA n).bind fun ob=>aG ob.zT <| (bS n none).bind fun _=>grown i.size i.bytes (l.length+L.length) (l.map enc).flatten (L.map enc).flatten) ⟨s.h,s.nx,s.mark,gL,s.wr⟩= .ok (.slice (some (s.nx,0)) (l.length+L.length)<|.au (l.length+L.length) i.size) ⟨(s.h.put n none).put s.nx<|some<|az enc<|l++L,s.nx+1,s.mark,rd,wr⟩:=by
  rw[M.bO<|mo (s:=⟨s.h,s.nx,s.mark,gL,s.wr⟩) fC hn];rw[show(az enc l).zT=true from rfl,dR];let⟨b1,b2,b3⟩:=gd n ⟨s.h,s.nx,s.mark,gL,s.wr⟩;rw[M.bO<|yf (o:=none) (p:=az enc l) (s:=aU n ⟨s.h,s.nx,s.mark,gL,s.wr⟩) (by rw[b2];exact fC) (by rw[b1];exact hn) rfl (by rw[blt_eq];omega)];have Rl:(l.map enc).flatten++(L.map enc).flatten=((l++L).map enc).flatten:=by rw[Vm,List.flatten_append]
  unfold grown;rw[show(and (Tw (2*(l.length+L.length)*i.bytes+4096*i.bytes) room)<|not<|Tx i.bytes 0)=true from and_true.2 ⟨aI.2 uH,by rw[hb];rfl⟩,dR,Rl];have hw:∃rd wr,(∀k∈rd,k=n\/k∈s.rd)/\(∀k∈wr,k=n\/k∈s.wr)/\(s.mark=0->rd=s.rd/\wr=s.wr)/\fN n none (aU n ⟨s.h,s.nx,s.mark,gL,s.wr⟩)=⟨s.h.put n none,s.nx,s.mark,rd,wr⟩:=by
   unfold fN aU;cases q:Tv n s.mark with
   |false=>refine⟨gL,s.wr,a1,fun k h=>.inr h,fun hm=>⟨a2 hm,rfl⟩,?_⟩;show(@Bool.rec (fun _=>AS) _ _<|Tv n s.mark)=_;rw[q]
   |true=>
    refine⟨n::n::gL,n::s.wr,?_,?_,fun hm=>?_,?_⟩
    ·intro k h;rcases Ty.1 h with h|h
     ·exact .inl h
     ·rcases Ty.1 h with h|h
      ·exact .inl h
      ·exact a1 k h
    ·intro k h;rcases Ty.1 h with h|h
     ·exact .inl h
     ·exact .inr h
    ·rw[hm] at q;have:=(blt_eq _ _).mp q;omega
    ·show(@Bool.rec (fun _=>AS) _ _<|Tv n s.mark)=_;rw[q]
  let⟨rd,wr,c1,c2,c3,c4⟩:=hw;rw[c4];refine⟨rd,wr,c1,c2,c3,?_⟩;have w9:=Ju (s:=⟨s.h.put n none,s.nx,s.mark,rd,wr⟩) (l:=((l++L).map enc).flatten) (by rw[pq];simpa using j9) (wY _) CI;exact(M.bO w9).trans rfl
 let⟨rd,wr,d1,d2,d3,d4⟩:=qq;refine⟨rd,wr,d1,d2,d3,?_⟩;show o8 P .append ts [x,y] Tu t s=_;unfold o8;have mR:kv (aF t) [x,y]=some [.slice (some (n,0)) l.length cap,.ab n0 o0 L.length]:=by simp only[kv,hx,hy]
 rw[mR,bW];show BU P Tu ts (.slice (some (n,0)) l.length cap) n0 o0 L.length s=_;unfold BU;rw[aI.2 dI,dR,h0,bW];simp only[hu];rw[hi,bW,hz,dR,fH,dR];have hr:tZ Tu n0 o0 (L.length*i.size) s= .ok (L.map enc).flatten s:=by
  rcases Vl (L.length*i.size) with Sl|Sl
  ·rw[UY<|(pq L).trans Sl,Sl];rfl
  rw[show tZ Tu n0 o0 (L.length*i.size)=(Tu (.row n0 o0<|L.length*i.size) []).bind fun x=>match x with
   | .agg l=>aG (Tx l.length<|L.length*i.size) <| M.pure l
   |_=>fail from by obtain⟨m,hm⟩:∃m,L.length*i.size=m+1:=⟨L.length*i.size - 1,by omega⟩;rw[hm];rfl]
  rw[M.bO<|fx s];show aG (Tx (L.map enc).flatten.length<|L.length*i.size) (M.pure (L.map enc).flatten) s=_;rw[pq,eP.2 rfl,dR];rfl
 rw[M.bO hr,M.bO a3,d4];simp
theorem ag8{c:α}{m:Nat}(hx:aF t x=some (.slice (some (n,0)) l.length<|.au l.length i.size))(hy:aF t y=some (.slice (some (m,0)) 1<|.known 1))(h0:ts[0]? =some ty)(hu:P.underlying ty=some (.slice e))(hi:P.info? e=some i)(hz:and (tX i) (pZ P ts[1]?)=true)(hn:s.h.get n=some (az enc l))(hm:s.h.get m=some (.cells (enc c).length (Tr.fill (enc c) 0 .nil) []))(cH:(Tv n s.nx&&(Tv m s.nx&&Tv s.nx top))=true)(yV:∀x:α,(enc x).length=i.size/\(enc x).all AV.bM=true)(Fm:0<i.size)(hb:Tx i.bytes 0=false)(uH:2*(l.length+1)*i.bytes+4096*i.bytes<=room)(j9:(l.length+1)*i.size<=top):
 ∃rd wr,(∀k∈rd,k=n\/k=m\/k∈s.rd)/\(∀k∈wr,k=n\/k∈s.wr)/\(s.mark=0->rd=s.rd/\wr=s.wr)/\(dY P<|.call ⟨.builtin .append, #[x,y],ts⟩).val Tu t s= .ok (.slice (some (s.nx,0)) (l++[c]).length<|.au (l++[c]).length i.size) ⟨(s.h.put n none).put s.nx<|some<|az enc<|l++[c],s.nx+1,s.mark,rd,wr⟩:=by
 let⟨fC,cH⟩:=and_true.1 cH;let⟨fG,Di⟩:=and_true.1 cH;have aks:=(blt_eq _ _).mp fC;have CI:=(blt_eq _ _).mp Di;have pq:∀l:List α,(l.map enc).flatten.length=l.length*i.size:=fun l=>by
  have:=vW (K:=i.size) (l:=l.map enc) fun c hc=>by obtain⟨a,_,rfl⟩:=TI.1 hc;exact(yV a).1
  rw[this,T3]
 have wY:∀l:List α,(l.map enc).flatten.all AV.bM=true:=by
  intro l;induction l with
  |nil=>rfl
  |cons x l ih=>simp only[T0,T5,U9,ih,(yV x).2,VE]
 have YQ:(l.length+1)*i.size=l.length*i.size+i.size:=by rw[Uo,UN]
 have ct:(l.map enc).flatten.length<=top:=by rw[pq];omega
 have rj:∀{k q:Nat} {s':AS},k∈(aU q s').rd->k=q\/k∈s'.rd:=by
  intro k q s' h;unfold aU at h;cases z:Tv q s'.mark with
  |false=>rw[z] at h;exact .inr h
  |true=>rw[z] at h;rcases Ty.1 h with h|h;exact .inl h;exact .inr h
 have mD:∀(q:Nat) (s':AS),s'.mark=0->aU q s'=s':=by intro q s' h;unfold aU;rw[h,show Tv q 0=false from by cases z:Tv q 0 with|false=>rfl|true=>have:=(blt_eq _ _).mp z;omega]
 have Yn:∀(q:Nat) (s':AS),aU q s'=⟨s'.h,s'.nx,s'.mark,(aU q s').rd,s'.wr⟩:=by intro q s';unfold aU;cases Tv q s'.mark<;>rfl
 have hf:firstCells i.size 1 (.slice (some (m,0)) 1<|.known 1) s= .ok (enc c) (aU m s):=by rw[Nt j0,UN];have hr:=DR (n:=m) (off:=0) (k:=i.size) (l:=enc c) (s:=s) fG hm (by rw[(yV c).1];omega) Fm (by rw[(yV c).1];omega);rw[hr,T8, ←(yV c).1,UM]
 let s1:AS:=⟨s.h,s.nx,s.mark,(aU m s).rd,s.wr⟩;have kf:aU m s=s1:=Yn m s;have QP:∃rd,(∀k∈rd,k=n\/k∈s1.rd)/\(s.mark=0->rd=s1.rd)/\jz n 0 (l.length*i.size) s1= .ok (l.map enc).flatten ⟨s.h,s.nx,s.mark,rd,s.wr⟩:=by
  cases hk:l.length*i.size with
  |zero=>have:(l.map enc).flatten=[]:=UY (by rw[pq,hk]);rw[this];exact⟨s1.rd,fun k h=>.inr h,fun _=>rfl,rfl⟩
  |succ k=>have hr:=DR (n:=n) (off:=0) (k:=k+1) (l:=(l.map enc).flatten) (s:=s1) fC hn ct (Uu _) (by rw[pq,hk];omega);rw[T8, ←hk, ←pq,UM] at hr;rw[←hk, ←pq];exact⟨(aU n s1).rd,fun k h=>rj h,fun AZ=>by rw[mD n s1 AZ],hr.trans<|congrArg _<|Yn n s1⟩
 let⟨gL,a1,a2,a3⟩:=QP;have qq:∃rd wr,(∀k∈rd,k=n\/k∈s1.rd)/\(∀k∈wr,k=n\/k∈s.wr)/\(s.mark=0->rd=s1.rd/\wr=s.wr)/\
  ((bA n).bind fun ob=>aG ob.zT <| (bS n none).bind fun _=>grown i.size i.bytes (l.length+1) (l.map enc).flatten<|enc c) ⟨s.h,s.nx,s.mark,gL,s.wr⟩= .ok (.slice (some (s.nx,0)) (l.length+1)<|.au (l.length+1) i.size) ⟨(s.h.put n none).put s.nx<|some<|az enc<|l++[c],s.nx+1,s.mark,rd,wr⟩:=by
  rw[M.bO<|mo (s:=⟨s.h,s.nx,s.mark,gL,s.wr⟩) fC hn];rw[show(az enc l).zT=true from rfl,dR];let⟨b1,b2,b3⟩:=gd n ⟨s.h,s.nx,s.mark,gL,s.wr⟩;rw[M.bO<|yf (o:=none) (p:=az enc l) (s:=aU n ⟨s.h,s.nx,s.mark,gL,s.wr⟩) (by rw[b2];exact fC) (by rw[b1];exact hn) rfl (by rw[blt_eq];omega)];have Rl:(l.map enc).flatten++enc c=((l++[c]).map enc).flatten:=by simp
  unfold grown;rw[show(and (Tw (2*(l.length+1)*i.bytes+4096*i.bytes) room)<|not<|Tx i.bytes 0)=true from and_true.2 ⟨aI.2 uH,by rw[hb];rfl⟩,dR,Rl];have hw:∃rd wr,(∀k∈rd,k=n\/k∈s1.rd)/\(∀k∈wr,k=n\/k∈s.wr)/\(s.mark=0->rd=s1.rd/\wr=s.wr)/\fN n none (aU n ⟨s.h,s.nx,s.mark,gL,s.wr⟩)=⟨s.h.put n none,s.nx,s.mark,rd,wr⟩:=by
   unfold fN aU;cases q:Tv n s.mark with
   |false=>refine⟨gL,s.wr,a1,fun k h=>.inr h,fun hm=>⟨a2 hm,rfl⟩,?_⟩;show(@Bool.rec (fun _=>AS) _ _<|Tv n s.mark)=_;rw[q]
   |true=>
    refine⟨n::n::gL,n::s.wr,?_,?_,fun hm=>?_,?_⟩
    ·intro k h;rcases Ty.1 h with h|h
     ·exact .inl h
     ·rcases Ty.1 h with h|h
      ·exact .inl h
      ·exact a1 k h
    ·intro k h;rcases Ty.1 h with h|h
     ·exact .inl h
     ·exact .inr h
    ·rw[hm] at q;have:=(blt_eq _ _).mp q;omega
    ·show(@Bool.rec (fun _=>AS) _ _<|Tv n s.mark)=_;rw[q]
  let⟨rd,wr,c1,c2,c3,c4⟩:=hw;rw[c4];refine⟨rd,wr,c1,c2,c3,?_⟩;have w9:=Ju (s:=⟨s.h.put n none,s.nx,s.mark,rd,wr⟩) (l:=((l++[c]).map enc).flatten) (by rw[pq];simpa using j9) (wY _) CI;exact(M.bO w9).trans rfl
 let⟨rd,wr,d1,d2,d3,d4⟩:=qq;refine⟨rd,wr,fun k h=>?_,d2,fun h=>⟨(d3 h).1.trans (by show(aU m s).rd=s.rd;rw[mD m s h]),(d3 h).2⟩,?_⟩
 ·rcases d1 k h with h|h
  ·exact .inl h
  ·exact .inr<|rj h
 show o8 P .append ts [x,y] Tu t s=_;unfold o8;have mR:kv (aF t) [x,y]=some [.slice (some (n,0)) l.length<|.au l.length i.size,.slice (some (m,0)) 1<|.known 1]:=by simp only[kv,hx,hy]
 rw[mR,bW];show pX P ts (.slice (some (n,0)) l.length<|.au l.length i.size) (.slice (some (m,0)) 1<|.known 1) s=_;unfold pX;rw[h0,bW];simp only[hu];rw[hi,bW,hz,dR];show((firstCells i.size 1<|.slice (some (m,0)) 1<|.known 1).bind fun new=>aG (Tx new.length<|1*i.size) <| rT i.size i.bytes (some (n,0)) l.length (.au l.length i.size) 1 new) s=_;rw[M.bO hf,(yV c).1,UN,eP.2 rfl,dR,kf];show(aG (Tx i.size i.size) <| match Tw (l.length+1) l.length with
  |true=>match (some (n,0):Option<|Nat×Nat) with
   |some (m,o)=>(xU m (o+l.length*i.size)<|enc c).bind fun _=>M.pure (.slice (some (m,o)) (l.length+1)<|.au l.length i.size)
   |none=>fail
  |false=>match (some (n,0):Option<|Nat×Nat) with
   |some (m,0)=>(jz m 0<|l.length*i.size).bind fun dM=>(bA m).bind fun o=>aG o.zT <| (bS m none).bind fun _=>grown i.size i.bytes (l.length+1) dM (enc c)
   |_=>fail) s1=_
 have HL:Tw (l.length+1) l.length=false:=by
  cases q:Tw (l.length+1) l.length with
  |false=>rfl
  |true=>have:=aI.1 q;omega
 rw[eP.2 rfl,dR];simp only[HL];rw[M.bO a3,d4];simp
end
end
section
variable {x i:Operand} {ty kt et:TypeId} {n:Nat} {k:Int}
section
variable {P:Program} {s s1:AS} {Tu:aJ} {t:Tr AV}
def bE(m:List<|Int×Int):ah:=.lN<|cJ m
def lU:List (Int×Int)->Int->Bool
 |[],_=>false
 |p::l,k=>if p.1=k then true else lU l k
theorem amV(k:Int):∀(m:List<|Int×Int) (i:Nat),(lU m k=false/\lu (.int .i64 k) (cJ m) i=some none)\/∃j,lU m k=true/\lu (.int .i64 k) (cJ m) i=some (some (j,.int .i64<|getM m k))
 |[],i=>.inl ⟨rfl,rfl⟩
 |p::l,i=>by
  have hf:lu (.int .i64 k) (cJ<|p::l) i=(match some (k == p.1) with|none=>none|some true=>some (some (i,.int .i64 p.2))|some false=>lu (.int .i64 k) (cJ l)<|i+1):=rfl;by_cases e:p.1=k
  ·refine .inr ⟨i,by unfold lU;rw[if_pos e],?_⟩;rw[hf,show(k == p.1)=true by simp[e],show getM (p::l) k=p.2 by simp[getM,e]]
  ·have cz:(k == p.1)=false:=by simp;exact fun q=>e q.symm
   rw[hf,cz,show lU (p::l) k=lU l k by simp[lU,e],show getM (p::l) k=getM l k by simp[getM,e]];exact amV k l<|i+1
theorem ag9{m:List<|Int×Int}(hx:aF t x=some (.map<|some n))(hi:aF t i=some (.int .i64 k))(hu:P.underlying ty=some (.map kt et))(hk:pj P 10000 kt (.int .i64 k)=true)(hp:plainKey P kt (.int .i64 k)=true)(hz:qd P et=some (.int .i64 0))(hn:s.h.get n=some (bE m))(cH:Tv n s.nx=true):(dY P<|.lookup ty x i true).val Tu t s= .ok (.tuple [.int .i64 (if lU m k=true then getM m k else 0),.bool<|lU m k]) (aU n s):=by
 show ye P ty x i true Tu t s=_;unfold ye;rw[hx,hi,bW,bW];unfold zV;simp only[hu];have hf:z8 P kt (.int .i64 k) (.map<|some n) s= .ok (cJ m) (aU n s):=by
  show((bA n).bind fun o=>match o with
   | .map es _=>M.pure es
   | .lN es=>aG (or (plainKey P kt<|.int .i64 k)<|short es) <| M.pure es
   |_=>fail) s=_
  rw[M.bO<|mo cH hn];show(aG (or (plainKey P kt<|.int .i64 k)<|short<|cJ m) <| M.pure<|cJ m) (aU n s)=_;rw[hp,show(or true<|short<|cJ m)=true from rfl,dR];rfl
 rw[M.bO hf,hk,dR];have Sn:findKey P kt (.int .i64 k) (cJ m)=lu (.int .i64 k) (cJ m) 0:=by unfold findKey;simp only[vj,hp]
 rw[Sn];rcases amV k m 0 with⟨h1,h2⟩|⟨j,h1,h2⟩
 ·rw[h2,bW,h1];show(aB (qd P et) fun z=>M.pure<|mW true z false) (aU n s)=_;rw[hz,bW];rfl
 ·rw[h2,bW,h1];rfl
theorem aha{y:Operand}{v:Int}{m:List<|Int×Int}(hx:aF t x=some (.map<|some n))(hi:aF t i=some (.int .i64 k))(hy:aF t y=some (.int .i64 v))(hu:P.underlying ty=some (.map kt et))(hk:pj P 10000 kt (.int .i64 k)=true)(hp:plainKey P kt (.int .i64 k)=true)(hn:s.h.get n=some (bE m))(q1:Tv n s.nx=true)(q2:Tv n top=true):(dY P<|.mapUpdate ty x i y).val Tu t s= .ok (.tuple []) (fN n (some<|bE<|gf m k v)<|aU n s):=by
 show qN P ty x i y Tu t s=_;unfold qN;rw[hx,hi,hy,bW,bW,bW];have w:∀o:ah,bS n (some o) (aU n s)= .ok () (fN n (some o)<|aU n s):=fun o=>yf (by rw[(gd n s).2.1];exact q1) (by rw[(gd n s).1];exact hn) rfl q2;have akt:yo P ty (.map<|some n) (.int .i64 k) (.int .i64 v) s= .ok () (fN n (some<|bE<|gf m k v)<|aU n s):=by
  unfold yo;simp only[hu];rw[M.bO<|mo q1 hn];show(aG (and (plainKey P kt<|.int .i64 k)<|pj P 10000 kt<|.int .i64 k) <| aB (findKey P kt (.int .i64 k)<|cJ m) fun f=>BI n (.int .i64 k) (.int .i64 v) (cJ m) f) (aU n s)=_;rw[hk,hp,show(and true true)=true from rfl,dR];have Sn:findKey P kt (.int .i64 k) (cJ m)=lu (.int .i64 k) (cJ m) 0:=by unfold findKey;simp only[vj,hp]
  rw[Sn];rcases amR k m 0 with⟨h1,_,h3⟩|⟨j,z,h1,_,h3,h4⟩
  ·rw[h1,bW];show bS n (some<|.lN<|cJ m++[(.int .i64 k,.int .i64 v)]) (aU n s)=_;rw[w,h3 v];simp only[bE,cJ,Vm,T0,U5]
  ·rw[h1,bW];show bS n (some<|.lN<|putAt (cJ m) (0+j) (.int .i64 k)<|.int .i64 v) (aU n s)=_;rw[T6,w,(h4 v).1];rfl
 rw[M.bO akt];rfl
end
end
section
variable {n k:Nat} {l L2 L1:List AV} {y x:Operand} {ty e:TypeId} {ts:Array TypeId} {i:TypeInfo} {sI:cx}
section
variable {P:Program} {s:AS} {Tu:aJ} {t:Tr AV}
theorem ama{s:AS}(h1:Tv n s.nx=true)(h2:s.h.get n=some (.cells l.length (Tr.fill l 0 .nil) []))(hl:l.length<=top)(hk:k<=l.length):
 ∃rd,(∀x∈rd,x=n\/x∈s.rd)/\(s.mark=0->rd=s.rd)/\jz n 0 k s= .ok (l.take k) ⟨s.h,s.nx,s.mark,rd,s.wr⟩:=by
 cases k with
 |zero=>exact⟨s.rd,fun x h=>.inr h,fun _=>rfl,rfl⟩
 |succ k=>
  have hr:=DR (n:=n) (off:=0) (k:=k+1) (l:=l) (s:=s) h1 h2 hl (Uu _) ak;rw[T8] at hr;refine⟨(aU n s).rd,?_,fun hm=>?_,?_⟩
  ·intro k h;unfold aU at h;cases q:Tv n s.mark with
   |false=>rw[q] at h;exact .inr h
   |true=>rw[q] at h;rcases Ty.1 h with h|h;exact .inl h;exact .inr h
  ·unfold aU;rw[hm,show Tv n 0=false from by cases q:Tv n 0 with|false=>rfl|true=>have:=(blt_eq _ _).mp q;omega]
  ·rw[hr];congr 1;unfold aU;cases Tv n s.mark<;>rfl
theorem ahb{m len:Nat}(hx:aF t x=some (.slice (some (n,0)) len<|.known len))(hy:aF t y=some (.slice (some (m,0)) k sI))(h0:ts[0]? =some ty)(hu:P.underlying ty=some (.slice e))(hi:P.info? e=some i)(hz:and (tX i) (pZ P ts[1]?)=true)(hk:1<=k)(hn:s.h.get n=some (.cells L1.length (Tr.fill L1 0 .nil) []))(hm:s.h.get m=some (.cells L2.length (Tr.fill L2 0 .nil) []))(MF:L1.length<=top)(zi:L2.length<=top)(h1:len*i.size<=L1.length)(h2:k*i.size<=L2.length)(he:L1.take (len*i.size)++L2.take (k*i.size)=l)(cH:(Tv n s.nx&&(Tv m s.nx&&Tv s.nx top))=true)(wY:l.all AV.bM=true)(hb:Tx i.bytes 0=false)(uH:2*(len+k)*i.bytes+4096*i.bytes<=room)(j9:l.length<=top):
 ∃rd wr,(∀q∈rd,q=n\/q=m\/q∈s.rd)/\(∀q∈wr,q∈s.wr)/\(s.mark=0->rd=s.rd/\wr=s.wr)/\(dY P<|.call ⟨.builtin .append, #[x,y],ts⟩).val Tu t s= .ok (.slice (some (s.nx,0)) (len+k)<|.au (len+k) i.size) ⟨s.h.put s.nx<|some<|.cells l.length (Tr.fill l 0 .nil) [],s.nx+1,s.mark,rd,wr⟩:=by
 let⟨fC,cH⟩:=and_true.1 cH;let⟨fG,Di⟩:=and_true.1 cH;have CI:=(blt_eq _ _).mp Di;have hf:firstCells i.size k (.slice (some (m,0)) k sI) s=jz m 0 (k*i.size) s:=by
  cases k with
  |zero=>omega
  |succ k=>cases sI<;>rfl
 let⟨gL,a1,a2,a3⟩:=ama fG hm zi h2;let⟨C9,b1,b2,b3⟩:=ama (s:=⟨s.h,s.nx,s.mark,gL,s.wr⟩) fC hn MF h1;refine⟨C9,s.wr,fun q hq=>?_,fun q hq=>hq,fun AZ=>⟨(b2 AZ).trans<|a2 AZ,rfl⟩,?_⟩
 ·rcases b1 q hq with h|h
  ·exact .inl h
  ·exact .inr<|a1 q h
 show o8 P .append ts [x,y] Tu t s=_;unfold o8;have mR:kv (aF t) [x,y]=some [.slice (some (n,0)) len<|.known len,.slice (some (m,0)) k sI]:=by simp only[kv,hx,hy]
 rw[mR,bW];show pX P ts (.slice (some (n,0)) len<|.known len) (.slice (some (m,0)) k sI) s=_;unfold pX;rw[h0,bW];simp only[hu];rw[hi,bW,hz,dR];show(aB (some k) fun Dj=>(firstCells i.size Dj<|.slice (some (m,0)) k sI).bind fun new=>aG (Tx new.length<|Dj*i.size) <| rT i.size i.bytes (some (n,0)) len (.known len) Dj new) s=_;rw[bW,M.bO<|hf.trans a3];have QQ:(L2.take<|k*i.size).length=k*i.size:=by rw[T4];omega
 rw[QQ,eP.2 rfl,dR];unfold rT;have HL:Tw (len+k) len=false:=by cases q:Tw (len+k) len with|false=>rfl|true=>have:=aI.1 q;omega
 simp only[HL];have Sq:firstCells i.size len (.slice (some (n,0)) len<|.known len) ⟨s.h,s.nx,s.mark,gL,s.wr⟩=jz n 0 (len*i.size) ⟨s.h,s.nx,s.mark,gL,s.wr⟩:=by cases len<;>rfl
 rw[M.bO<|Sq.trans b3];unfold grown;rw[show(and (Tw (2*(len+k)*i.bytes+4096*i.bytes) room)<|not<|Tx i.bytes 0)=true from and_true.2 ⟨aI.2 uH,by rw[hb];rfl⟩,dR,he];have w9:=Ju (s:=⟨s.h,s.nx,s.mark,C9,s.wr⟩) (l:=l) j9 wY CI;exact(M.bO w9).trans rfl
def HM(o:ah)(s:AS):AS:=⟨s.h.put s.nx<|some o,s.nx+1,s.mark,s.rd,s.wr⟩
theorem ahc{m len:Nat}(hx:aF t x=some (.slice (some (n,0)) len<|.known len))(hy:aF t y=some (.slice (some (m,0)) k sI))(h0:ts[0]? =some ty)(hu:P.underlying ty=some (.slice e))(hi:P.info? e=some i)(hz:and (tX i) (pZ P ts[1]?)=true)(hlen:1<=len)(hk:1<=k)(hs:1<=i.size)(hn:s.h.get n=some (.cells L1.length (Tr.fill L1 0 .nil) []))(hm:s.h.get m=some (.cells L2.length (Tr.fill L2 0 .nil) []))(MF:L1.length<=top)(zi:L2.length<=top)(h1:len*i.size<=L1.length)(h2:k*i.size<=L2.length)(he:L1.take (len*i.size)++L2.take (k*i.size)=l)(cH:(Tv n s.nx&&(Tv m s.nx&&Tv s.nx top))=true)(wY:l.all AV.bM=true)(hb:Tx i.bytes 0=false)(uH:2*(len+k)*i.bytes+4096*i.bytes<=room)(j9:l.length<=top):
 (dY P<|.call ⟨.builtin .append, #[x,y],ts⟩).val Tu t s= .ok (.slice (some (s.nx,0)) (len+k)<|.au (len+k) i.size) (HM (.cells l.length (Tr.fill l 0 .nil) [])<|aU n<|aU m s):=by
 let⟨fC,cH⟩:=and_true.1 cH;let⟨fG,Di⟩:=and_true.1 cH;have CI:=(blt_eq _ _).mp Di;have hf:firstCells i.size k (.slice (some (m,0)) k sI) s=jz m 0 (k*i.size) s:=by
  cases k with
  |zero=>omega
  |succ k=>cases sI<;>rfl
 have p1:0<k*i.size:=Nat.mul_pos ak ak;have p2:0<len*i.size:=Nat.mul_pos ak ak;have a3:=DR (n:=m) (off:=0) (k:=k*i.size) (l:=L2) (s:=s) fG hm zi p1 ak;have b3:=DR (n:=n) (off:=0) (k:=len*i.size) (l:=L1) (s:=aU m s) (by rw[(gd m s).2.1];exact fC) (by rw[(gd m s).1];exact hn) MF p2 ak;rw[T8] at a3 b3;show o8 P .append ts [x,y] Tu t s=_;unfold o8;have mR:kv (aF t) [x,y]=some [.slice (some (n,0)) len<|.known len,.slice (some (m,0)) k sI]:=by simp only[kv,hx,hy]
 rw[mR,bW];show pX P ts (.slice (some (n,0)) len<|.known len) (.slice (some (m,0)) k sI) s=_;unfold pX;rw[h0,bW];simp only[hu];rw[hi,bW,hz,dR];show(aB (some k) fun Dj=>(firstCells i.size Dj<|.slice (some (m,0)) k sI).bind fun new=>aG (Tx new.length<|Dj*i.size) <| rT i.size i.bytes (some (n,0)) len (.known len) Dj new) s=_;rw[bW,M.bO<|hf.trans a3];have QQ:(L2.take<|k*i.size).length=k*i.size:=by rw[T4];omega
 rw[QQ,eP.2 rfl,dR];unfold rT;have HL:Tw (len+k) len=false:=by cases q:Tw (len+k) len with|false=>rfl|true=>have:=aI.1 q;omega
 simp only[HL];have Sq:firstCells i.size len (.slice (some (n,0)) len<|.known len) (aU m s)=jz n 0 (len*i.size) (aU m s):=by
  cases len with
  |zero=>omega
  |succ k=>rfl
 rw[M.bO<|Sq.trans b3];unfold grown;rw[show(and (Tw (2*(len+k)*i.bytes+4096*i.bytes) room)<|not<|Tx i.bytes 0)=true from and_true.2 ⟨aI.2 uH,by rw[hb];rfl⟩,dR,he];have cM:(aU n<|aU m s).nx=s.nx:=by rw[(gd n _).2.1,(gd m _).2.1]
 have w9:=Ju (s:=aU n<|aU m s) (l:=l) j9 wY (by rw[cM];exact CI);rw[cM] at w9;refine(M.bO w9).trans ?_;unfold HM;rw[cM];rfl
end
end
section
variable {v:AV} {n k U o off:Nat} {x:TypeId×Operand×Operand} {cs:List AV} {α:Type} {B:aE} {rs:List ResultVar} {ik:IntKind} {cap:cx} {ag b:Bool} {a:Nat×Nat} {T A c X:Prop} {x':Met} {ty:TypeId} {sp:Sp} {l:List<|Nat×AV} {Q:Tr AV->List Nat->Option Code->AS->Prop} {F:Nat->Option (List AV)}
section
inductive Pl where
 |no
 |st (k:Nat) (p:Pl)
 |rg (p:Pl)
 |go (n:Nat) (p:Pl)
 |en (p:Pl)
 |fk (p q:Pl)
 |vl (v:AV) (p:Pl)
 |kn (v:AV) (p:Pl)
 |kp (c:Prop) (d:Decidable c) (p q:Pl)
 |cu (v:AV) (s2:AS) (p:Pl)
 |cg (v:AV) (F:AS->AS) (Q:AS->Prop) (p:Pl)
 |ml (v:AV) (F:AS->AS) (Q:AS->Prop) (p:Pl)
 |ap (α:Type) (enc:α->List AV) (l:List α) (c:α) (p:Pl)
 |al (α:Type) (enc:α->List AV) (l L:List α) (p:Pl)
 |ix (p:Pl)
 |cm (p:Pl)
 |ld (cs:List AV) (p:Pl)
 |ZQ (b:Bool) (p q:Pl)
 |cn (cs:List AV) (p:Pl)
 |oU (o:ah) (p:Pl)
 |rm (p:Pl)
 |ls (l:List<|Nat×AV) (o:List<|Nat×Option ah) (nx:Nat) (p:Pl)
 |rn (l0:List<|Nat×AV) (o0:List<|Nat×Option ah) (l:List<|Nat×AV) (o:List<|Nat×Option ah) (aP nx:Nat) (p:Pl)
 |bk (l:List<|Nat×AV) (o:List<|Nat×Option ah) (nx:Nat) (p:Pl)
 |cy (v:AV) (s2:AS) (p:Pl)
 |tw (p:Pl)
 |kt (y v':AV) (p:Pl)
 |nt (v:Option AV) (res:AV->AV) (p:Pl)
 |ZR (m:List<|Int×Int) (p q:Pl)
 |MT (m:List<|Int×Int) (p:Pl)
 |so (p:Pl)
 |s3 (p:Pl)
 |ao (L1 L2 l:List AV) (p:Pl)
 |an (L1 L2 l:List AV) (p:Pl)
 |il (p:Pl)
 |rt (k:Nat) (p:Pl)
 |cut (p:Pl)
inductive MU where
 |fr (f nt:Nat) (K:List Item) (t:Tr AV) (s:AS)
 |rg (f nt:Nat) (K:List Item) (ops:Array Oper) (D:Option<|List Met) (i:Nat) (t:Tr AV) (s:AS)
structure Env where
 P:Program
 sp:Sp
 F:Nat->Option (List AV)
 vw:FuncId->Option (List AV->Option AV)
 jn:FuncId->Bool
 ck:AS->Bool
 cs:AS->AS
 lo:Nat
 fg:Bool
 tt:FuncId->Option (Nat×(AV->List AV->Option (AV×AV)))
 tn:FuncId->Option (Nat×(List AV->Option (Option AV×(AV->AV))))
 n0:Nat
def uU(nx:Nat)(l:List<|Nat×AV)(o:List<|Nat×Option ah):Prop:=∀r:Nat->Nat,(∀k,k<nx->r k=k)->(∀k,top<=k->r k=k)->(∀p∈l,aZ r p.2 p.2)/\(∀p∈o,∀x,p.2=some x->lh r x x)
def fy(F:Nat->Option (List AV))(lo aP:Nat)(l0:List<|Nat×AV)(o0:List<|Nat×Option ah)(l:List<|Nat×AV)(o:List<|Nat×Option ah)(nx:Nat):Prop:=
 ∃(fz:jl) (r:Nat->Nat),(∀k,k<lo->r k=k)/\(∀k,nx<=k->k<top->aP<=r k/\r k<top)/\(∀k,top<=k->r k=k)/\nx<=top/\(∀p∈l,p.1<top/\∃x,(p.1,x)∈l0/\gE fz r x p.2)/\
  (∀p∈o,p.1<top/\∀y,p.2=some y->r p.1<top/\y.iA=true/\∃x,(r p.1,some x)∈o0/\fc x y/\dT fz r x y)/\
  (∀p∈o,∀q∈o,p.2≠none->q.2≠none->r p.1=r q.1->p.1=q.1)/\
  (∀p∈fz,p.1<top/\F p.2.1=some p.2.2/\∃N t z,(p.1,some<|.cells N t z)∈o0/\∀i x,p.2.2[i]? =some x->i<N/\cellAt t z i=some x/\x.bM=true/\x.cN=true)/\
  (∀p∈fz,∀q∈o,q.2≠none->r q.1≠p.1)
def ZS(n k:Nat)(v:AV)(s:AS):AS:=fN n (some<|.tok k v)<|aU n s
def nwS(k:Nat)(v:AV)(s:AS):AS:=⟨s.h.put s.nx<|some<|.tok k v,s.nx+1,s.mark,s.rd,s.wr⟩
def ZT(res:AV->AV)(s:AS):Option AV->AV
 |none=>res<|.ptr none
 |some _=>res<|.ptr<|some (s.nx,0)
def ZU(k:Nat)(s:AS):Option AV->AS
 |none=>s
 |some v=>nwS k v s
structure Env.Ok (E:Env):Prop where
 vw:∀g val args v s n,E.vw g=some val->val args=some v->E.ck s=true->ba E.P E.sp E.F (n+1) (.fn g) args s= .ok v (E.cs s)
 tt:∀g q m v rest y v' s n,E.tt g=some q->E.ck s=true->Tw E.n0 m=true->Tv m (E.cs s).nx=true->Tv m top=true->(E.cs s).h.get m=some (.tok q.1 v)->q.2 v rest=some (y,v')->
  ba E.P E.sp E.F (n+1) (.fn g) (.ptr (some (m,0))::rest) s= .ok y (ZS m q.1 v'<|E.cs s)
 tn:∀g q args v res s n,E.tn g=some q->E.ck s=true->Tv (E.cs s).nx top=true->q.2 args=some (v,res)->ba E.P E.sp E.F (n+1) (.fn g) args s= .ok (ZT res (E.cs s) v) (ZU q.1 (E.cs s) v)
 jn:∀g,E.jn g=true->False
def wo(o:Option α)(k:α->Prop):Prop:= @Option.rec α (fun _=>Prop) False k o
def wr(r:R α)(k:α->AS->Prop):Prop:= @R.rec α (fun _=>Prop) False k r
def wb(b:Bool)(k:Prop):Prop:= @Bool.rec (fun _=>Prop) False k b
def Kt:=AV->AS->Pl->Prop
def yW:=AF->AS->Pl->Prop
def Rec:=Nat->MU->Pl->List ResultVar->Kt->yW->Prop
def JO(op:Op):Option<|BinOp×TypeId×Operand×Operand×TypeId:=match op with
 | .binOp o ty x y yt=>some (o,ty,x,y,yt)
 |_=>none
def callParts(op:Op):Option<|Operand×Array Operand×Array TypeId:=match op with
 | .call ⟨.value fo,xs,ts⟩=>some (fo,xs,ts)
 |_=>none
def Rm(fi args ca:List AV):List AV:=match fi,ca with
 |[],[]=>args
 |_,_=>fi++args++ca
def Ro(v:AV):Option<|FuncId×List AV×List AV:=match v with
 | .func (.func g) fi ca=>some (g,fi,ca)
 |_=>none
def asInt(v:AV):Option<|IntKind×Int:=match v with
 | .int k n=>some (k,n)
 |_=>none
def asSlice(v:AV):Option<|Option (Nat×Nat)×Nat×cx:=match v with
 | .slice a n c=>some (a,n,c)
 |_=>none
def QR(x:bw):Option<|Nat×Nat×List Item×Tr AV:=match x with
 | .go ⟨f,t,nt,K,[],none⟩=>some (f,nt,K,t)
 |_=>none
def QS(x:bw):Option<|AF×Option Code:=match x with
 | .leave fr j=>some (fr,j)
 |_=>none
def Px(K:List Item):Option<|Array Oper×Bool×List Item:=match K with
 | .code (.region _ ops d)::K=>some (ops,d,K)
 |_=>none
def Rp(o:BinOp)(a b:Int):Option Prop:=match o with
 | .lss=>some<|a<b
 | .leq=>some<|a<=b
 | .gtr=>some<|a>b
 | .geq=>some<|a>=b
 | .eql=>some<|a=b
 | .neq=>some<|a≠b
 |_=>none
def iK(D:Option<|List Met)(s:AS):AS:=match D with
 |none=>s
 |some _=>Kx s
def Fo(D:Option<|List Met)(s s1:AS):AS:=match D with
 |none=>s1
 |some _=>ET s s1
def Mb(D:Option<|List Met)(i:Nat)(s s1:AS):Option<|List Met:=match D with
 |none=>none
 |some acc=>some<|acc++[Ma i s s1]
def Yo(d:Bool):Option<|List Met:=match d with
 |true=>some []
 |false=>none
def Rq(P:Program)(Tu:aJ)(nt:Nat)(ops:Array Oper)(D:Option<|List Met)(i n:Nat)(t:Tr AV):M<|Tr AV×Option (List Met):=match D with
 |none=>fun s=>match p7 P Tu nt ops i n t s with
  | .ok t s=>.ok (t,none) s
  | .bad=>.bad
 |some acc=>fun s=>match uT P Tu nt ops i n t s with
  | .ok x s=>.ok (x.1,some<|acc++x.2) s
  | .bad=>.bad
def Ls(ops:Array Oper)(D:Option<|List Met):Bool:=match D with
 |none=>true
 |some acc=>qU (T1 ops) acc acc
def EU(n:Nat):Option Nat:=match n with
 |0=>none
 |n+1=>some n
def wy(t:Tr AV)(op:Op):Option<|FuncId×List AV:=match callParts op with
 |none=>none
 |some x=>match aF t x.1 with
  |none=>none
  |some fv=>match Ro fv with
   |none=>none
   |some g=>match kv (aF t) x.2.1.toList with
    |none=>none
    |some args=>some (g.1,Rm g.2.1 args g.2.2)
def Py(t:Tr AV)(op:Op):Option<|Nat×List AV:=match callParts op with
 |none=>none
 |some x=>match aF t x.1 with
  |some (.yield l)=>(match kv (aF t) x.2.1.toList with
   |none=>none
   |some args=>some (l,args))
  |_=>none
def GM(op:Op):Option<|TypeId×Operand×Operand:=match op with
 | .indexAddr ty x y=>some (ty,x,y)
 |_=>none
def Gv(op:Op):Option<|TypeId×Operand:=match op with
 | .load ty a=>some (ty,a)
 |_=>none
def NW(op:Op):Option<|TypeId×Operand×Operand:=match op with
 | .store ty a x=>some (ty,a,x)
 |_=>none
def D6(op:Op):Option<|Operand×Operand×Array TypeId:=match op with
 | .call ⟨.builtin .append,xs,ts⟩=>match xs.toList with
  |[x,y]=>some (x,y,ts)
  |_=>none
 |_=>none
def Rr(v:AV):Option<|Nat×Nat×Nat×Nat:=match v with
 | .slice (some (n,0)) len (.au m k)=>some (n,len,m,k)
 |_=>none
def P7(v:AV):Option Nat:=match v with
 | .slice (some (m,0)) 1 (.known 1)=>some m
 |_=>none
def D7(P:Program)(ts:Array TypeId):Option<|Nat×Nat:=match ts[0]? with
 |some ty=>match P.underlying ty with
  |some (.slice e)=>match P.info? e with
   |some i=>match tX i&&(pZ P ts[1]? && !(Tx i.bytes 0)) with
    |true=>some (i.size,i.bytes)
    |false=>none
   |none=>none
  |_=>none
 |none=>none
def Lt(v:AV):Option<|Nat×Nat×Nat:=match v with
 | .ab n o k=>some (n,o,k)
 |_=>none
def P8(v:AV):Option<|Nat×Nat:=match v with
 | .ql n o=>some (n,o)
 |_=>none
def sd(P:Program)(ty:TypeId):Option Nat:=match P.underlying ty with
 |some (.slice e)=>eZ P e
 |_=>none
def QT(P:Program)(ty:TypeId):Option<|Nat×Nat:=match P.underlying ty with
 |some (.array n e)=>(eZ P e).map fun k=>(n,k)
 |_=>none
def cellsOf(o:Option ah)(off k:Nat):Option<|List AV:=match o with
 |some (.cells m t z)=>(match Tw (off+k) m with|true=>ly t z k off|false=>none)
 |_=>none
def qf(o:Option ah)(off:Nat)(l:List AV):Option ah:=match o with
 |some (.cells m t z)=>(match (Tw (off+l.length) m&&(Tw m top&&l.all AV.bM)) with|true=>some (.cells m (Tr.fill l off t) z)|false=>none)
 |_=>none
def cZ(F:Nat->Option (List AV))(n off k:Nat):Option<|List AV:=match F n with
 |some l=>(match Tw (off+k) l.length with|true=>some ((l.drop off).take k)|false=>none)
 |none=>none
def yI(k:Nat):Bool:=Tv 0 k
def HO(ag:Bool)(cs:List AV):Option AV:=match ag with
 |true=>some<|.agg cs
 |false=>one cs
def G4(P:Program)(ty:TypeId)(ag:Bool):Option Nat:=match ag with
 |true=>eZ P ty
 |false=>some 1
def Ky(o:Option ah):Bool:=match o with
 |none=>true
 |some o=>o.iA
def Md(dr:Bool)(s:AS)(h:Tr ah)(R W:List Nat):AS:=match dr with
 |true=>⟨h,s.nx+1,s.mark,R,W⟩
 |false=>⟨h,s.nx+1,s.mark,s.rd,s.wr⟩
def yX(v:AV):Option<|Nat×Nat×cx:=match v with
 | .slice (some (n,0)) len cap=>some (n,len,cap)
 |_=>none
def NX(op:Op):Option<|TypeId×Operand×Option Operand×Option Operand:=match op with
 | .slice ty x lo hi none=>some (ty,x,lo,hi)
 |_=>none
def NM(op:Op):Option<|TypeId×Operand×Operand×Operand:=match op with
 | .slice ty x none (some hi) (some mx)=>some (ty,x,hi,mx)
 |_=>none
def kept(c:cx):Bool:=match c with
 | .lost=>false
 |_=>true
def Ez(t:Tr AV)(o:Option Operand)(d:Int):Option Int:=match o with
 |none=>some d
 |some y=>match aF t y with
  |some (.int _ n)=>some n
  |_=>none
def aoe(op:Op):Option<|TypeId×Operand×Operand:=match op with
 | .lookup ty x i false=>some (ty,x,i)
 |_=>none
def NY(op:Op):Option<|TypeId×Operand×Operand:=match op with
 | .lookup ty x i true=>some (ty,x,i)
 |_=>none
def OV(op:Op):Option<|TypeId×Operand×Operand×Operand:=match op with
 | .mapUpdate ty x i y=>some (ty,x,i,y)
 |_=>none
def Pz(op:Op):Option<|TypeId×Operand×Operand:=match op with
 | .makeSlice ty l c=>some (ty,l,c)
 |_=>none
def Lu(v:AV):Option Nat:=match v with
 | .map (some n)=>some n
 |_=>none
def Kz(P:Program)(ty:TypeId):Option<|TypeId×TypeId:=match P.underlying ty with
 |some (.map k e)=>some (k,e)
 |_=>none
def Hr(k:IntKind):Bool:=match k with
 | .i64=>true
 |_=>false
def Rs(v:Option AV):Bool:=match v with
 |some (.int .i64 (.ofNat 0))=>true
 |_=>false
def PA(l:List AV):Option<|Nat×List AV:=match l with
 | .ptr (some (n,0))::r=>some (n,r)
 |_=>none
def QU(o:Option ah):Option<|Nat×AV:=match o with
 |some (.tok k v)=>some (k,v)
 |_=>none
def ZV(E:Env)(dr:Bool)(ih:Rec)(n:Nat)(nx:AV->AS->Pl->Prop)(s:AS)(t:Tr AV)(op:Op)(p:Pl):Prop:=match p with
 | .fk p q=>wo (JO op) fun x=>wo (aF t x.2.2.1) fun a=>wo (aF t x.2.2.2.1) fun b=>wo (asInt a) fun a=>wo (asInt b) fun b=>wb (decide<|a.1=b.1)<|wo (Rp x.1 a.2 b.2) fun c=>(c->nx (.bool true) s p)/\(¬c->nx (.bool false) s q)
 | .vl v p=>wr ((dY E.P op).val (ba E.P E.sp E.F n) t s) fun v' s1=>v'=v/\nx v s1 p
 | .kn v p=>wo (wy t op) fun x=>wo (EU n) fun _=>wo (E.vw x.1) fun val=>wb (E.ck s)<|val x.2=some v/\nx v (E.cs s) p
 | .kp c d p q=>wo (wy t op) fun x=>wo (EU n) fun _=>wo (E.vw x.1) fun val=>wb (E.ck s)<|val x.2=some (.bool<|@decide c d)/\(c->nx (.bool true) (E.cs s) p)/\(¬c->nx (.bool false) (E.cs s) q)
 | .cu v s2 p=>wo (wy t op) fun x=>ba E.P E.sp E.F n (.fn x.1) x.2 s= .ok v s2/\nx v s2 p
 | .cg v F Q p=>wo (wy t op) fun x=>(∀s,Q s->ba E.P E.sp E.F n (.fn x.1) x.2 s= .ok v (F s))/\Q s/\nx v (F s) p
 | .ml v F Q p=>wo (Pz op) fun x=>wo (aF t x.2.1) fun a=>wo (aF t x.2.2) fun b=>(∀s,Q s->makeSlice E.P x.1 a b s= .ok v (F s))/\Q s/\nx v (F s) p
 | .ap _ enc l c p=>wo (D6 op) fun x=>wo (aF t x.1) fun a=>wo (Rr a) fun a=>wo (aF t x.2.1) fun b=>wo (P7 b) fun m=>wo (D7 E.P x.2.2) fun i=>wb (Tx a.2.2.2 i.1&&(yI i.1&&(Tv a.1 s.nx&&(Tv m s.nx&&(Tv s.nx top&&(dr||Tx s.mark 0))))))<|a.2.1=l.length/\a.2.2.1=l.length/\s.h.get a.1=some (az enc l)/\s.h.get m=some (.cells (enc c).length (Tr.fill (enc c) 0 .nil) [])/\(∀x,(enc x).length=i.1/\(enc x).all AV.bM=true)/\2*(l.length+1)*i.2+4096*i.2<=room/\(l.length+1)*i.1<=top/\nx (.slice (some (s.nx,0)) (l++[c]).length<|.au (l++[c]).length i.1) (Md dr s ((s.h.put a.1 none).put s.nx<|some<|az enc<|l++[c]) [a.1,m] [a.1]) p
 | .ix p=>wo (GM op) fun x=>wo (aF t x.2.1) fun a=>wo (asSlice a) fun a=>wo a.1 fun ad=>wo (aF t x.2.2) fun z=>wo (asInt z) fun z=>wo (sd E.P x.1) fun K=>wb (Tx ad.2 0)<|0<=z.2/\z.2<(Int.ofNat a.2.1)/\nx (.ptr<|some (ad.1,z.2.toNat*K)) s p
 | .cm p=>wo (GM op) fun x=>wo (aF t x.2.1) fun a=>wo (Lt a) fun a=>wo (aF t x.2.2) fun z=>wo (asInt z) fun z=>wo (sd E.P x.1) fun K=>0<=z.2/\z.2<(Int.ofNat a.2.2)/\nx (.ql a.1<|a.2.1+z.2.toNat*K) s p
 | .ld cs p=>wo (Gv op) fun x=>wo (aF t x.2) fun a=>wo (addrOf a) fun a=>wo (rf E.P x.1) fun ag=>wo (G4 E.P x.1 ag) fun k=>wb (yI k)<|wb (Tv a.1 s.nx)<|wo (HO ag cs) fun v=>cellsOf (s.h.get a.1) a.2 k=some cs/\nx v (aU a.1 s) p
 | .ZQ b p q=>wo (Gv op) fun x=>wo (aF t x.2) fun a=>wo (addrOf a) fun a=>wo (rf E.P x.1) fun ag=>wb (!ag)<|wb (Tv a.1 s.nx)<|cellsOf (s.h.get a.1) a.2 1=some [.bool b]/\(b=true->nx (.bool true) (aU a.1 s) p)/\(b=false->nx (.bool false) (aU a.1 s) q)
 | .cn cs p=>wo (Gv op) fun x=>wo (aF t x.2) fun a=>wo (P8 a) fun a=>wo (rf E.P x.1) fun ag=>wo (eZ E.P x.1) fun _=>wo (G4 E.P x.1 ag) fun k=>wo (HO ag cs) fun v=>top<=a.1/\cZ E.F a.1 a.2 k=some cs/\nx v s p
 | .oU o p=>wo (NW op) fun x=>wo (aF t x.2.1) fun a=>wo (addrOf a) fun a=>wo (aF t x.2.2) fun v=>wo (eZ E.P x.1) fun k=>wb (Tx v.cells.length k)<|wb (yI k)<|wb (Tv a.1 s.nx)<|wb (Tv a.1 top)<|qf (s.h.get a.1) a.2 v.cells=some o/\nx qQ (fN a.1 (some o)<|aU a.1 s) p
 | .rm p=>wo (JO op) fun x=>wb (match x.1 with| .rem=>true|_=>false)<|wo (aF t x.2.2.1) fun a=>wo (aF t x.2.2.2.1) fun b=>wo (asInt a) fun a=>wo (asInt b) fun b=>wb (decide<|a.1=b.1)<|b.2≠0/\nx (.int a.1<|Uh a.2 b.2) s p
 | .al _ enc l L p=>wo (D6 op) fun x=>wo (aF t x.1) fun a=>wo (yX a) fun a=>wo (aF t x.2.1) fun b=>wo (Lt b) fun b=>wo (D7 E.P x.2.2) fun i=>wb (QE i.1 a.2.1 a.2.2&&(Tv a.1 s.nx&&(Tv s.nx top&&(dr||Tx s.mark 0))))<|a.2.1=l.length/\s.h.get a.1=some (az enc l)/\top<=b.1/\cZ E.F b.1 b.2.1 (b.2.2*i.1)=some (L.map enc).flatten/\b.2.2=L.length/\(∀x,(enc x).length=i.1/\(enc x).all AV.bM=true)/\2*(l.length+L.length)*i.2+4096*i.2<=room/\(l.length+L.length)*i.1<=top/\nx (.slice (some (s.nx,0)) (l++L).length<|.au (l++L).length i.1) (Md dr s ((s.h.put a.1 none).put s.nx<|some<|az enc<|l++L) [a.1] [a.1]) p
 | .cy v s2 p=>wo (Py t op) fun x=>ba E.P E.sp E.F n (.round x.1) x.2 s= .ok v s2/\nx v s2 p
 | .tw p=>wo (GM op) fun x=>wo (aF t x.2.1) fun a=>wo (addrOf a) fun a=>wo (aF t x.2.2) fun z=>wo (asInt z) fun z=>wo (QT E.P x.1) fun K=>0<=z.2/\z.2<(Int.ofNat K.1)/\nx (.ptr<|some (a.1,a.2+z.2.toNat*K.2)) s p
 | .kt y v' p=>wo (wy t op) fun x=>wo (EU n) fun _=>wo (E.tt x.1) fun q=>wo (PA x.2) fun z=>wo (QU<|(E.cs s).h.get z.1) fun u=>wb (E.ck s&&(Tx q.1 u.1&&(Tw E.n0 z.1&&(Tv z.1 (E.cs s).nx&&Tv z.1 top))))<|q.2 u.2 z.2=some (y,v')/\nx y (ZS z.1 q.1 v'<|E.cs s) p
 | .nt v res p=>wo (wy t op) fun x=>wo (EU n) fun _=>wo (E.tn x.1) fun q=>wb (E.ck s&&Tv (E.cs s).nx top)<|q.2 x.2=some (v,res)/\nx (ZT res (E.cs s) v) (ZU q.1 (E.cs s) v) p
 | .ZR m p q=>wo (NY op) fun x=>wo (aF t x.2.1) fun a=>wo (Lu a) fun n=>wo (aF t x.2.2) fun i=>wo (asInt i) fun i=>wo (Kz E.P x.1) fun y=>wb (pj E.P 10000 y.1 (.int .i64 i.2)&&(plainKey E.P y.1 (.int .i64 i.2)&&(Hr i.1&&(Rs (qd E.P y.2)&&Tv n s.nx))))<|s.h.get n=some (bE m)/\(lU m i.2=true->nx (.tuple [.int .i64<|getM m i.2,.bool true]) (aU n s) p)/\(lU m i.2=false->nx (.tuple [.int .i64 0,.bool false]) (aU n s) q)
 | .MT m p=>wo (OV op) fun x=>wo (aF t x.2.1) fun a=>wo (Lu a) fun n=>wo (aF t x.2.2.1) fun i=>wo (asInt i) fun i=>wo (aF t x.2.2.2) fun v=>wo (asInt v) fun v=>wo (Kz E.P x.1) fun y=>wb (pj E.P 10000 y.1 (.int .i64 i.2)&&(plainKey E.P y.1 (.int .i64 i.2)&&(Hr i.1&&(Hr v.1&&(Tv n s.nx&&Tv n top)))))<|s.h.get n=some (bE m)/\nx (.tuple []) (fN n (some<|bE<|gf m i.2 v.2)<|aU n s) p
 | .so p=>wo (NX op) fun x=>wo (aF t x.2.1) fun a=>wo (yX a) fun a=>wo (sd E.P x.1) fun _=>wo (Ez t x.2.2.1 0) fun lo=>wo (Ez t x.2.2.2<|Int.ofNat a.2.1) fun hi=>wb (kept a.2.2)<|lo=0/\0<=hi/\hi<=Int.ofNat (jR a.2.1 a.2.2)/\nx (.slice (some (a.1,0)) hi.toNat a.2.2) s p
 | .s3 p=>wo (NM op) fun x=>wo (aF t x.2.1) fun a=>wo (yX a) fun a=>wo (sd E.P x.1) fun _=>wo (aF t x.2.2.1) fun hi=>wo (asInt hi) fun hi=>wo (aF t x.2.2.2) fun mx=>wo (asInt mx) fun mx=>wb (kept a.2.2)<|0<=hi.2/\hi.2<=mx.2/\mx.2<=Int.ofNat (jR a.2.1 a.2.2)/\nx (.slice (some (a.1,0)) hi.2.toNat<|.known mx.2.toNat) s p
 | .ao L1 L2 l p=>wo (D6 op) fun x=>wo (aF t x.1) fun a=>wo (yX a) fun a=>wo (aF t x.2.1) fun b=>wo (yX b) fun b=>wo (D7 E.P x.2.2) fun i=>wb (Tv a.1 s.nx&&(Tv b.1 s.nx&&(Tv s.nx top&&(dr||Tx s.mark 0))))
  (a.2.2= .known a.2.1/\1<=b.2.1/\s.h.get a.1=some (.cells L1.length (Tr.fill L1 0 .nil) [])/\s.h.get b.1=some (.cells L2.length (Tr.fill L2 0 .nil) [])/\L1.length<=top/\L2.length<=top/\a.2.1*i.1<=L1.length/\b.2.1*i.1<=L2.length/\
   L1.take (a.2.1*i.1)++L2.take (b.2.1*i.1)=l/\l.all AV.bM=true/\2*(a.2.1+b.2.1)*i.2+4096*i.2<=room/\l.length<=top/\
   nx (.slice (some (s.nx,0)) (a.2.1+b.2.1)<|.au (a.2.1+b.2.1) i.1) (Md dr s (s.h.put s.nx<|some<|.cells l.length (Tr.fill l 0 .nil) []) [a.1,b.1] []) p)
 | .an L1 L2 l p=>wo (D6 op) fun x=>wo (aF t x.1) fun a=>wo (yX a) fun a=>wo (aF t x.2.1) fun b=>wo (yX b) fun b=>wo (D7 E.P x.2.2) fun i=>wb (yI i.1&&(Tv a.1 s.nx&&(Tv b.1 s.nx&&Tv s.nx top)))
  (a.2.2= .known a.2.1/\1<=a.2.1/\1<=b.2.1/\s.h.get a.1=some (.cells L1.length (Tr.fill L1 0 .nil) [])/\s.h.get b.1=some (.cells L2.length (Tr.fill L2 0 .nil) [])/\L1.length<=top/\L2.length<=top/\a.2.1*i.1<=L1.length/\b.2.1*i.1<=L2.length/\
   L1.take (a.2.1*i.1)++L2.take (b.2.1*i.1)=l/\l.all AV.bM=true/\2*(a.2.1+b.2.1)*i.2+4096*i.2<=room/\l.length<=top/\
   nx (.slice (some (s.nx,0)) (a.2.1+b.2.1)<|.au (a.2.1+b.2.1) i.1) (HM (.cells l.length (Tr.fill l 0 .nil) [])<|aU a.1<|aU b.1 s) p)
 | .il p=>wo (wy t op) fun x=>wo (EU n) fun m=>match E.sp x.1 with
  |some _=>False
  |none=>wo (E.P.funcs[x.1]?) fun fn=>wo fn.body fun body=>wb (!(fn.name == "runtime.NumGoroutine"))<|wb (Tw (max fn.ntmps x.2.length) top)<|ih m (.fr x.1 (max fn.ntmps x.2.length) [.code body] (dZ x.2) s) p fn.results.toList nx fun _ _ _=>False
 |_=>False
def Sr(E:Env)(ih:Rec)(n:Nat)(c:MU)(p:Pl)(rs:List ResultVar)(k:Kt)(C:yW):Prop:=match c with
 | .fr f nt K t s=>match p with
  | .st j p=>wr (eL E.P (ba E.P E.sp E.F n) j ⟨f,t,nt,K,[],none⟩ s) fun x s1=>wo (QR x) fun y=>ih n (.fr y.1 y.2.1 y.2.2.1 y.2.2.2 s1) p rs k C
  | .rg p=>wo (Px K) fun x=>ih n (.rg f nt x.2.2 x.1 (Yo x.2.1) 0 t s) p rs k C
  | .rt j p=>wr (eL E.P (ba E.P E.sp E.F n) j ⟨f,t,nt,K,[],none⟩ s) fun x s1=>wo (QS x) fun y=>wr (finish E.P rs y.1 y.2 s1) fun v s2=>k v s2 p
  | .cut p=>C ⟨f,t,nt,K,[],none⟩ s p
  | .ls l o nx p=>wb (E.fg&&(qu top l&&(qu top o&&((Tw s.nx nx&&Tw nx top)&&o.all fun q=>Ky q.2))))<|l.map (fun q=>t.get q.1)=l.map (fun q=>some q.2)/\o.map (fun q=>s.h.get q.1)=o.map (fun q=>q.2)/\C ⟨f,aA l,nt,K,[],none⟩ (aj o nx) p
  | .rn l0 o0 l o aP nx p=>wb (E.fg&&Tx s.nx aP)<|l0.map (fun q=>t.get q.1)=l0.map (fun q=>some q.2)/\o0.map (fun q=>s.h.get q.1)=o0.map (fun q=>q.2)/\fy E.F E.lo aP l0 o0 l o nx/\C ⟨f,aA l,nt,K,[],none⟩ (aj o nx) p
  | .bk l o nx p=>wb (E.fg&&(qu top l&&(qu nx o&&((Tw nx s.nx&&(Tv s.nx top&&Tw E.lo nx))&&o.all fun q=>Ky q.2))))<|l.map (fun q=>t.get q.1)=l.map (fun q=>some q.2)/\o.map (fun q=>s.h.get q.1)=o.map (fun q=>q.2)/\uU nx l o/\C ⟨f,aA l,nt,K,[],none⟩ (aj o nx) p
  |_=>False
 | .rg f nt K ops D i t s=>match p with
  | .go m p=>wb (Tw (i+m) ops.size)<|wr (Rq E.P (ba E.P E.sp E.F n) nt ops D i m t s) fun x s1=>ih n (.rg f nt K ops x.2 (i+m) x.1 s1) p rs k C
  | .en p=>wb (Tw ops.size i)<|wb (Ls ops D)<|ih n (.fr f nt K t s) p rs k C
  |p=>wo (yR ops i) fun o=>wb (Lr ops o.2.2 t)<|ZV E (D.isSome&&Tx s.mark 0) ih n (fun v s1 p=>wo (jD nt t o.2.1 v) fun t1=>ih n (.rg f nt K ops (Mb D i (s) s1) (i+1) t1<|Fo D s s1) p rs k C) (iK D s) t o.1 p
def wp(E:Env)(fuel:Nat):Rec:= @Nat.rec (fun _=>Rec) (fun _ _ _ _ _ _=>False) (fun _ ih=>Sr E ih) fuel
def my(P:Program)(Tu:aJ)(G:AF->AS->Prop)(f nt:Nat)(K:List Item)(ops:Array Oper)(D:Option<|List Met)(i:Nat)(t:Tr AV)(s:AS):Prop:=match D with
 |none=>yU P Tu G f nt K ops i t s
 |some acc=>ru P Tu G f nt K ops acc i t s
def Gof(P:Program)(Tu:aJ)(G:AF->AS->Prop)(c:MU):Prop:=match c with
 | .fr f nt K t s=>G ⟨f,t,nt,K,[],none⟩ s
 | .rg f nt K ops D i t s=>my P Tu G f nt K ops D i t s
end
theorem bh{o:Option α}{k:α->Prop}(h:wo o k):∃x,o=some x/\k x:=by
 cases o with
 |none=>exact h.elim
 |some x=>exact⟨x,rfl,h⟩
theorem G5{r:R α}{k:α->AS->Prop}(h:wr r k):∃x s,r= .ok x s/\k x s:=by
 cases r with
 |bad=>exact h.elim
 |ok x s=>exact⟨x,s,rfl,h⟩
theorem im{k:Prop}(h:wb b k):b=true/\k:=by
 cases b with
 |false=>exact h.elim
 |true=>exact⟨rfl,h⟩
theorem afu(fi args ca:List AV):Rm fi args ca=fi++args++ca:=by
 unfold Rm;split
 ·simp
 ·rfl
theorem aef{g:FuncId×List AV×List AV}(h:Ro v=some g):v= .func (.func g.1) g.2.1 g.2.2:=by
 unfold Ro at h;split at h
 ·injection h with h;subst h;rfl
 ·cases h
theorem rU{x:IntKind×Int}(h:asInt v=some x):v= .int x.1 x.2:=by
 unfold asInt at h;split at h
 ·injection h with h;subst h;rfl
 ·cases h
theorem abM{x:Option (Nat×Nat)×Nat×cx}(h:asSlice v=some x):v= .slice x.1 x.2.1 x.2.2:=by
 unfold asSlice at h;split at h
 ·injection h with h;subst h;rfl
 ·cases h
theorem ac2{x:bw}{y:Nat×Nat×List Item×Tr AV}(h:QR x=some y):x= .go ⟨y.1,y.2.2.2,y.2.1,y.2.2.1,[],none⟩:=by
 unfold QR at h;split at h
 ·injection h with h;subst h;rfl
 ·cases h
theorem ac3{x:bw}{y:AF×Option Code}(h:QS x=some y):x= .leave y.1 y.2:=by
 unfold QS at h;split at h
 ·injection h with h;subst h;rfl
 ·cases h
theorem abN{K:List Item}{y:Array Oper×Bool×List Item}(h:Px K=some y):∃id,K= .code (.region id y.1 y.2.1)::y.2.2:=by
 unfold Px at h;split at h
 ·injection h with h;subst h;exact⟨_,rfl⟩
 ·cases h
theorem Gw{m:Nat}(h:EU n=some m):n=m+1:=by
 cases n with
 |zero=>cases h
 |succ n=>injection h with h;subst h;rfl
theorem aat{op:Op}{x:BinOp×TypeId×Operand×Operand×TypeId}(h:JO op=some x):op= .binOp x.1 x.2.1 x.2.2.1 x.2.2.2.1 x.2.2.2.2:=by
 unfold JO at h;split at h
 ·injection h with h;subst h;rfl
 ·cases h
theorem acg{t:Tr AV}{op:Op}{x:FuncId×List AV}(h:wy t op=some x):∃fo xs ts fi args ca,op= .call ⟨.value fo,xs,ts⟩/\aF t fo=some (.func (.func x.1) fi ca)/\kv (aF t) xs.toList=some args/\x.2=fi++args++ca:=by
 unfold wy at h;split at h
 ·cases h
 ·rename_i y hy;have fB:op= .call ⟨.value y.1,y.2.1,y.2.2⟩:=by
   unfold callParts at hy;split at hy
   ·injection hy with hy;subst hy;rfl
   ·cases hy
  split at h
  ·cases h
  ·rename_i fv hf;split at h
   ·cases h
   ·rename_i g hg;split at h
    ·cases h
    ·rename_i args ha;injection h with h;subst h
     exact⟨_,_,_,g.2.1,_,g.2.2,fB,by rw[hf,aef hg],ha,afu _ _ _⟩
section
variable {P:Program} {s s1:AS} {Tu:aJ} {t t1:Tr AV} {ops:Array Oper} {f nt i:Nat} {K:List Item} {G:AF->AS->Prop} {D:Option<|List Met}
theorem afv{o:BinOp}{a b:Int}(h:Rp o a b=some c):∃r,Rj o a b=some r/\(r=true↔c):=by
 unfold Rp at h;split at h<;>first|(injection h with h;subst h)|cases h
 ·exact⟨_,rfl,by rw[decide_eq_true_iff]⟩
 ·exact⟨_,rfl,by rw[decide_eq_true_iff]⟩
 ·exact⟨_,rfl,by rw[decide_eq_true_iff]⟩
 ·exact⟨_,rfl,by rw[decide_eq_true_iff]⟩
 ·exact⟨_,rfl,by simp⟩
 ·exact⟨_,rfl,by simp⟩
theorem my.op{op:Op}{d:Option Tmp}{g:Option<|Nat×Bool}(ho:yR ops i=some (op,d,g))(hw:Lr ops g t=true)(h:(dY P op).val Tu t (iK D s)= .ok v s1)(hp:jD nt t d v=some t1)(H:my P Tu G f nt K ops (Mb D i s s1) (i+1) t1<|Fo D s s1):my P Tu G f nt K ops D i t s:=by
 cases D with
 |none=>exact yU.step (anC ho) (ag1 ho hw h hp) H
 |some acc=>exact ru.step (anC ho) (afr ho hw h hp) H
theorem my.go{x:Tr AV×Option (List Met)}(hn:Tw (i+n) ops.size=true)(h:Rq P Tu nt ops D i n t s= .ok x s1)(H:my P Tu G f nt K ops x.2 (i+n) x.1 s1):my P Tu G f nt K ops D i t s:=by
 have hle:=aI.1 hn;unfold Rq at h;cases D with
 |none=>
  simp only at h;split at h
  ·rename_i t2 s2 e;injection h with h1 h2;subst h1;subst h2
   obtain⟨t3,s3,q1,q2⟩:=H;refine⟨t3,s3,?_,q2⟩;rw[show ops.size - i=n+(ops.size - (i+n)) by omega];exact agw e q1
  ·cases h
 |some acc=>
  simp only at h;split at h
  ·rename_i y s2 e;injection h with h1 h2;subst h1;subst h2
   obtain⟨t3,ms,s3,q1,q2,q3⟩:=H;refine⟨t3,_,s3,?_,by rw[←Um];exact q2,q3⟩;rw[show ops.size - i=n+(ops.size - (i+n)) by omega];exact amP rfl ak e q1
  ·cases h
theorem my.done(h:Tw ops.size i=true)(ho:Ls ops D=true)(H:G ⟨f,t,nt,K,[],none⟩ s):my P Tu G f nt K ops D i t s:=by
 cases D with
 |none=>exact yU.done h H
 |some acc=>exact ru.done (and_true.2 ⟨h,ho⟩) H
theorem my.aku(hG:Chunk P Tu G){id:Nat}{d:Bool}(H:my P Tu G f nt K ops (Yo d) 0 t s):G ⟨f,t,nt,.code (.region id ops d)::K,[],none⟩ s:=by
 cases d with
 |false=>exact Chunk.A7 hG (c:=.region id ops false) rfl H
 |true=>exact Chunk.akq hG (c:=.region id ops true) rfl H
theorem ach{op:Op}{x:Nat×List AV}(h:Py t op=some x)(hv:Tu (.round x.1) x.2 s= .ok v s1):(dY P op).val Tu t s= .ok v s1:=by
 unfold Py at h;split at h
 ·cases h
 ·rename_i y e;split at h
  ·rename_i l e2;split at h
   ·cases h
   ·rename_i args e3;injection h with h;subst h
    unfold callParts at e;split at e
    ·rename_i fo xs ts;injection e with e;subst e
     show uF fo xs.toList Tu t s=_;unfold uF;simp only at e2 e3;rw[e3,bW,e2,bW];show nK Tu (.yield l) args s=_;exact hv
    ·cases e
  ·cases h
theorem BE{op:Op}{x:FuncId×List AV}(h:wy t op=some x)(hv:Tu (.fn x.1) x.2 s= .ok v s1):(dY P op).val Tu t s= .ok v s1:=by obtain⟨fo,xs,ts,fi,args,ca,rfl,h1,h2,h3⟩:=acg h;show uF fo xs.toList Tu t s=_;unfold uF;rw[h2,bW,h1,bW];show Tu (.fn x.1) (fi++args++ca) s=_;rw[←h3];exact hv
end
theorem aa6{op:Op}(h:NY op=some x):op= .lookup x.1 x.2.1 x.2.2 true:=by
 unfold NY at h;split at h
 ·injection h with h;subst h;rfl
 ·cases h
theorem abv{op:Op}{x:TypeId×Operand×Operand×Operand}(h:OV op=some x):op= .mapUpdate x.1 x.2.1 x.2.2.1 x.2.2.2:=by
 unfold OV at h;split at h
 ·injection h with h;subst h;rfl
 ·cases h
theorem abO{op:Op}(h:Pz op=some x):op= .makeSlice x.1 x.2.1 x.2.2:=by
 unfold Pz at h;split at h
 ·injection h with h;subst h;rfl
 ·cases h
theorem amb(h:Lu v=some n):v= .map (some n):=by
 unfold Lu at h;split at h
 ·injection h with h;subst h;rfl
 ·cases h
theorem ahH{P:Program}{y:TypeId×TypeId}(h:Kz P ty=some y):P.underlying ty=some (.map y.1 y.2):=by
 unfold Kz at h;split at h
 ·rename_i e;injection h with h;subst h;exact e
 ·cases h
theorem Oq{k:IntKind}(h:Hr k=true):k= .i64:=by
 unfold Hr at h;split at h
 ·rfl
 ·cases h
theorem aeg{v:Option AV}(h:Rs v=true):v=some (.int .i64 0):=by
 unfold Rs at h;split at h
 ·rfl
 ·cases h
theorem NC{op:Op}(h:GM op=some x):op= .indexAddr x.1 x.2.1 x.2.2:=by
 unfold GM at h;split at h
 ·injection h with h;subst h;rfl
 ·cases h
theorem I6{op:Op}{x:Operand×Operand×Array TypeId}(h:D6 op=some x):op= .call ⟨.builtin .append, #[x.1,x.2.1],x.2.2⟩:=by
 unfold D6 at h;split at h
 ·rename_i xs ts;split at h
  ·rename_i a b e;injection h with h;subst h
   have:xs= #[a,b]:=Array.ext' e;rw[this]
  ·cases h
 ·cases h
theorem aeh{x:Nat×Nat×Nat×Nat}(h:Rr v=some x):v= .slice (some (x.1,0)) x.2.1 (.au x.2.2.1 x.2.2.2):=by
 unfold Rr at h;split at h
 ·injection h with h;subst h;rfl
 ·cases h
theorem aci{m:Nat}(h:P7 v=some m):v= .slice (some (m,0)) 1 (.known 1):=by
 unfold P7 at h;split at h
 ·injection h with h;subst h;rfl
 ·cases h
theorem I7{P:Program}{ts:Array TypeId}{x:Nat×Nat}(h:D7 P ts=some x):∃ty e,ts[0]? =some ty/\P.underlying ty=some (.slice e)/\(P.info? e).map (fun i=>(i.size,i.bytes,tX i))=some (x.1,x.2,true)/\pZ P ts[1]? =true/\Tx x.2 0=false:=by
 unfold D7 at h;split at h
 ·rename_i ty h1;split at h
  ·rename_i e h2;split at h
   ·rename_i i h3;split at h
    ·rename_i hb;injection h with h;subst h
     obtain⟨b1,b2⟩:=and_true.1 hb;obtain⟨b2,b3⟩:=and_true.1 b2;refine⟨ty,e,h1,h2,by rw[h3];simp only[Uj,b1],b2,by simpa using b3⟩
    ·cases h
   ·cases h
  ·cases h
 ·cases h
theorem I2{op:Op}{x:TypeId×Operand}(h:Gv op=some x):op= .load x.1 x.2:=by
 unfold Gv at h;split at h
 ·injection h with h;subst h;rfl
 ·cases h
theorem aa7{op:Op}(h:NW op=some x):op= .store x.1 x.2.1 x.2.2:=by
 unfold NW at h;split at h
 ·injection h with h;subst h;rfl
 ·cases h
theorem amc{x:Nat×Nat×Nat}(h:Lt v=some x):v= .ab x.1 x.2.1 x.2.2:=by
 unfold Lt at h;split at h
 ·injection h with h;subst h;rfl
 ·cases h
theorem acj{x:Nat×Nat}(h:P8 v=some x):v= .ql x.1 x.2:=by
 unfold P8 at h;split at h
 ·injection h with h;subst h;rfl
 ·cases h
theorem Jj{x:Nat×Nat}(h:addrOf v=some x):v= .ptr (some x):=by
 unfold addrOf at h;split at h
 ·injection h with h;subst h;rfl
 ·cases h
theorem Ot{z:Int}{len:Nat}(h1:0<=z)(h2:z<Int.ofNat len):within z len=some z.toNat:=by
 obtain⟨m,rfl⟩:=Int.eq_ofNat_of_zero_le h1;show within (Int.ofNat m) len=some m;have h2:(m:Int)<(len:Int):=h2;unfold within;have:Tv m len=true:=by rw[blt_eq];omega
 simp only[this]
section
variable {P:Program} {s s1:AS} {Tu:aJ} {t:Tr AV}
theorem aiB{len K:Nat}{z:Int}(hx:aF t x.2.1=some (.slice (some (n,0)) len cap))(hz:aF t x.2.2=some (.int ik z))(hk:sd P x.1=some K)(h1:0<=z)(h2:z<Int.ofNat len):(dY P<|.indexAddr x.1 x.2.1 x.2.2).val Tu t s= .ok (.ptr<|some (n,z.toNat*K)) s:=by
 show qL P x.1 x.2.1 x.2.2 Tu t s=_;unfold qL;rw[hx,hz,bW,bW];unfold sd at hk;split at hk
 ·rename_i e he;show lift (indexAddr P x.1 (.slice (some (n,0)) len cap)<|.int ik z) s=_;unfold indexAddr intOf;simp only[he,hk,Ot h1 h2,T6];rfl
 ·cases hk
theorem ahd{K:Nat×Nat}{z:Int}(hx:aF t x.2.1=some (.ptr<|some (n,o)))(hz:aF t x.2.2=some (.int ik z))(hk:QT P x.1=some K)(h1:0<=z)(h2:z<Int.ofNat K.1):(dY P<|.indexAddr x.1 x.2.1 x.2.2).val Tu t s= .ok (.ptr<|some (n,o+z.toNat*K.2)) s:=by
 show qL P x.1 x.2.1 x.2.2 Tu t s=_;unfold qL;rw[hx,hz,bW,bW];unfold QT at hk;split at hk
 ·rename_i m e he;cases hs:eZ P e with
  |none=>rw[hs] at hk;cases hk
  |some k=>
   rw[hs] at hk;injection hk with hk
   subst hk;show lift (indexAddr P x.1 (.ptr<|some (n,o))<|.int ik z) s=_;unfold indexAddr intOf;simp only[he,hs,Ot h1 h2];rfl
 ·cases hk
theorem ahe{len K:Nat}{z:Int}(hx:aF t x.2.1=some (.ab n o len))(hz:aF t x.2.2=some (.int ik z))(hk:sd P x.1=some K)(h1:0<=z)(h2:z<Int.ofNat len):(dY P<|.indexAddr x.1 x.2.1 x.2.2).val Tu t s= .ok (.ql n<|o+z.toNat*K) s:=by
 show qL P x.1 x.2.1 x.2.2 Tu t s=_;unfold qL;rw[hx,hz,bW,bW];unfold sd at hk;split at hk
 ·rename_i e he;show lift (indexAddr P x.1 (.ab n o len)<|.int ik z) s=_;unfold indexAddr intOf;simp only[he,hk,Ot h1 h2];rfl
 ·cases hk
theorem aau(hk:yI k=true)(hn:Tv n s.nx=true)(h:cellsOf (s.h.get n) off k=some cs):jz n off k s= .ok cs (aU n s):=by
 cases k with
 |zero=>cases hk
 |succ k=>
  unfold cellsOf at h;split at h
  ·rename_i m tt z hg;split at h
   ·rename_i hb;show((bA n).bind fun o=>match o with
     | .cells m t z=>aG (Tw (off+(k+1)) m) <| lift (ly t z (k+1) off)
     | .ro m t=>aG (Tw (off+(k+1)) m) <| lift (ly t [] (k+1) off)
     |_=>fail) s=_
    rw[M.bO<|mo hn hg];show aG (Tw (off+(k+1)) m) (lift<|ly tt z (k+1) off) (aU n s)=_;rw[hb,dR,h];rfl
   ·cases h
  ·cases h
theorem ack(hg:rf P ty=some ag)(hw:G4 P ty ag=some k)(hk:yI k=true)(hn:Tv n s.nx=true)(hv:HO ag cs=some v)(h:cellsOf (s.h.get n) off k=some cs):loadVar P ty n off s= .ok v (aU n s):=by
 unfold loadVar;rw[hg,bW];cases ag with
 |true=>
  have hw:eZ P ty=some k:=hw;injection hv with hv;subst hv
  show(aB (eZ P ty) fun k=>(jz n off k).bind fun l=>M.pure<|AV.agg l) s=_;rw[hw,bW,M.bO<|aau hk hn h];rfl
 |false=>
  injection hw with hw;subst hw
  show((jz n off 1).bind fun l=>lift<|one l) s=_;rw[M.bO<|aau hk hn h];show lift (one cs) (aU n s)=_;rw[show one cs=some v from hv];rfl
theorem QV{x:TypeId×Operand}(ha:aF t x.2=some (.ptr<|some a))(hg:rf P x.1=some ag)(hw:G4 P x.1 ag=some k)(hk:yI k=true)(hn:Tv a.1 s.nx=true)(hv:HO ag cs=some v)(h:cellsOf (s.h.get a.1) a.2 k=some cs):(dY P<|.load x.1 x.2).val Tu t s= .ok v (aU a.1 s):=by show uE P x.1 x.2 Tu t s=_;unfold uE;rw[ha,bW];show loadVar P x.1 a.1 a.2 s=_;exact ack hg hw hk hn hv h
theorem ahf{o:ah}(ha:aF t x.2.1=some (.ptr<|some a))(hv:aF t x.2.2=some v)(hk:eZ P x.1=some k)(hl:Tx v.cells.length k=true)(hp:yI k=true)(hn:Tv a.1 s.nx=true)(ht:Tv a.1 top=true)(h:qf (s.h.get a.1) a.2 v.cells=some o):(dY P<|.store x.1 x.2.1 x.2.2).val Tu t s= .ok qQ (fN a.1 (some o)<|aU a.1 s):=by
 show yp P x.1 x.2.1 x.2.2 Tu t s=_;unfold yp;rw[ha,bW];show aB (aF t x.2.2) (fun v=>(storeVar P x.1 a.1 a.2 v).bind fun _=>M.pure qQ) s=_;rw[hv,bW];have hw:storeVar P x.1 a.1 a.2 v s= .ok () (fN a.1 (some o)<|aU a.1 s):=by
  unfold storeVar;rw[hk,bW,hl,dR];unfold qf at h;split at h
  ·rename_i m tt z hg;split at h
   ·rename_i hb;injection h with h;subst h
    cases hc:v.cells with
    |nil=>rw[hc] at hl;have:=Ug hl;subst this;cases hp
    |cons y r=>
     rw[hc] at hb;show((bA a.1).bind fun o=>match o with
      | .cells m t z=>aG (and (Tw (a.2+(r.length+1)) m)<|and (Tw m top)<|(y::r).all AV.bM) <| bS a.1 (some<|.cells m (Tr.fill (y::r) a.2 t) z)
      |_=>fail) s=_
     rw[M.bO<|mo hn hg];show aG (and (Tw (a.2+(r.length+1)) m)<|and (Tw m top)<|(y::r).all AV.bM) (bS a.1<|some<|.cells m (Tr.fill (y::r) a.2 tt) z) (aU a.1 s)=_;rw[show(and (Tw (a.2+(r.length+1)) m)<|and (Tw m top)<|(y::r).all AV.bM)=true from hb,dR];obtain⟨e1,e2,_⟩:=gd a.1 s;exact yf (p:=.cells m tt z) (by rw[e2];exact hn) (by rw[e1];exact hg) rfl ht
   ·cases h
  ·cases h
 rw[M.bO hw];rfl
theorem ahg{x:TypeId×Operand}(ha:aF t x.2=some (.ql a.1 a.2))(hg:rf P x.1=some ag){z:Nat}(hz:eZ P x.1=some z)(hw:G4 P x.1 ag=some k)(hv:HO ag cs=some v)(ht:top<=a.1)(h:cZ F a.1 a.2 k=some cs):(dY P<|.load x.1 x.2).val (ba P sp F n) t s= .ok v s:=by
 show uE P x.1 x.2 (ba P sp F n) t s=_;unfold uE;rw[ha,bW];show(match Tw top a.1 with
  |true=>wq P x.1 (ba P sp F n) a.1 a.2
  |false=>yd P x.1 a.1 a.2) s=_
 rw[aI.2 ht];have hr:∀k,cZ F a.1 a.2 k=some cs->ba P sp F n (.row a.1 a.2 k) [] s= .ok (.agg cs) s:=by
  intro k h;have:rp F a.1 a.2 k s= .ok (.agg cs) s:=by
   unfold cZ at h;unfold rp;cases e:F a.1 with
   |none=>rw[e] at h;cases h
   |some l=>
    rw[e] at h;simp only at h;split at h
    ·rename_i hb;injection h with h;subst h
     rw[bW,hb,dR];rfl
    ·cases h
  cases n<;>exact this
 show wq P x.1 (ba P sp F n) a.1 a.2 s=_;unfold wq;rw[hg,bW];rw[hz,bW];cases ag with
 |true=>
  have hw:eZ P x.1=some k:=hw;rw[hz] at hw;injection hw with hw;subst hw
  injection hv with hv;subst hv
  show((ba P sp F n (.row a.1 a.2 z) []).bind fun v=>_) s=_;rw[M.bO<|hr z h];rfl
 |false=>
  injection hw with hw;subst hw
  show((ba P sp F n (.row a.1 a.2 1) []).bind fun v=>_) s=_;rw[M.bO<|hr 1 h];show lift (one cs) s=_;rw[show one cs=some v from hv];rfl
theorem aiC{x:BinOp×TypeId×Operand×Operand×TypeId}{k:IntKind}{a b:Int}(ho:x.1= .rem)(hx:aF t x.2.2.1=some (.int k a))(hy:aF t x.2.2.2.1=some (.int k b))(hb:b≠0):(dY P<|.binOp x.1 x.2.1 x.2.2.1 x.2.2.2.1 x.2.2.2.2).val Tu t s= .ok (.int k<|Uh a b) s:=by rw[ho];exact ag0 hx hy hb rfl
theorem OW:∀{l:List<|Nat×AV},l.map (fun q=>t.get q.1)=l.map (fun q=>some q.2)->yH t l
 |[],_=>trivial
 |p::l,h=>by simp only[T0,TQ] at h;exact⟨h.1,OW h.2⟩
theorem PB{h:Tr ah}:∀{o:List<|Nat×Option ah},o.map (fun q=>h.get q.1)=o.map (fun q=>q.2)->(o.all fun q=>Ky q.2)=true->yS h o
 |[],_,_=>trivial
 |p::l,e,k=>by simp only[T0,TQ] at e;rw[TS] at k;obtain⟨k1,k2⟩:=and_true.1 k;exact⟨⟨e.1,fun o ho=>by rw[ho] at k1;exact k1⟩,PB e.2 k2⟩
end
def Bb(m m':Met):Prop:=m.i=m'.i/\(∀n∈m.rd,n∈m'.rd)/\(∀n∈m.wr,n∈m'.wr)/\m.lo=m'.lo/\m.hi=m'.hi
def nQ:List Met->List Met->Prop
 |[],[]=>True
 |x::l,y::m=>Bb x y/\nQ l m
 |_,_=>False
theorem Bb.refl(m:Met):Bb m m:=⟨rfl,fun _ h=>h,fun _ h=>h,rfl,rfl⟩
theorem nQ.refl:∀l:List Met,nQ l l
 |[]=>trivial
 |x::l=>⟨Bb.refl x,nQ.refl l⟩
theorem nQ.app:∀{a a' b b':List Met},nQ a a'->nQ b b'->nQ (a++b) (a'++b')
 |[],[],_,_,_,h=>h
 |_::_,_::_,_,_,h,k=>⟨h.1,nQ.app h.2 k⟩
 |[],_::_,_,_,h,_=>h.elim
 |_::_,[],_,_,h,_=>h.elim
theorem Ou{lo hi:Nat}:∀{l:List Nat},Aj lo hi l=true↔∃n∈l,lo<=n/\n<hi
 |[]=>by simp[Aj]
 |x::l=>by
  have ih:=Ou (lo:=lo) (hi:=hi) (l:=l);unfold Aj;cases q:(Tw lo x&&Tv x hi) with
  |true=>obtain⟨h1,h2⟩:=and_true.1 q;exact⟨fun _=>⟨x,TA,aI.1 h1,(blt_eq _ _).mp h2⟩,fun _=>rfl⟩
  |false=>
   refine ih.trans ⟨fun⟨n,a,b⟩=>⟨n,TB _ a,b⟩,fun⟨n,a,b⟩=>?_⟩;rcases Ty.1 a with rfl|a
   ·exfalso;rw[show(Tw lo n&&Tv n hi)=true from and_true.2 ⟨aI.2 b.1,(blt_eq _ _).mpr b.2⟩] at q;cases q
   ·exact⟨n,a,b⟩
theorem Ov:∀{a b:List Nat},meets a b=true↔∃n∈a,n∈b
 |[],b=>by simp[meets]
 |x::a,b=>by
  have ih:=Ov (a:=a) (b:=b);unfold meets;cases q:CE x b with
  |true=>exact⟨fun _=>⟨x,TA,JI.1 q⟩,fun _=>rfl⟩
  |false=>
   refine ih.trans ⟨fun⟨n,h,k⟩=>⟨n,TB _ h,k⟩,fun⟨n,h,k⟩=>?_⟩;rcases Ty.1 h with rfl|h
   ·rw[JI.2 k] at q;cases q
   ·exact⟨n,h,k⟩
theorem amd{m:Nat}{a b:List Nat}(h:∀k∈a,k∈b)(n:Nat)(hn:n∈below m a):n∈below m b:=by obtain⟨h1,h2⟩:=xV.1 hn;exact xV.2 ⟨h n h1,h2⟩
theorem Jk(l:List Nat):below 0 l=[]:=rfl
theorem acm{x y y':Met}(hx:Bb x x')(hy:Bb y y')(h:uo x' y'=true):uo x y=true:=by
 unfold uo at h ⊢;obtain⟨h1,h2⟩:=and_true.1 h;refine and_true.2 ⟨?_,?_⟩
 ·cases q:meets x.wr y.rd with
  |false=>rfl
  |true=>obtain⟨n,a,b⟩:=Ov.1 q;rw[Ov.2 ⟨n,hx.2.2.1 n a,hy.2.1 n b⟩] at h1;cases h1
 ·cases q:Aj x.lo x.hi y.rd with
  |false=>rfl
  |true=>obtain⟨n,a,b⟩:=Ou.1 q;rw[hx.2.2.2.1,hx.2.2.2.2] at b;rw[Ou.2 ⟨n,hy.2.1 n a,b⟩] at h2;cases h2
theorem acn{x:Met}(hx:Bb x x')(h:uq x'=true):uq x=true:=by
 unfold uq at h ⊢;cases e:x'.wr with
 |cons a l=>rw[e] at h;cases h
 |nil=>
  rw[e] at h;cases e2:x.wr with
  |nil=>rw[hx.2.2.2.1,hx.2.2.2.2];exact h
  |cons a l=>have:=hx.2.2.1 a (by rw[e2];exact TA);rw[e] at this;cases this
theorem aae{b:Array Nat}{x x':Met}(hx:Bb x x'):∀{l l':List Met},nQ l l'->tU b x' l'=true->tU b x l=true
 |[],[],_,_=>rfl
 |[],_::_,h,_=>h.elim
 |_::_,[],h,_=>h.elim
 |y::l,y'::l',hl,h=>by
  unfold tU at h ⊢;cases q:(Tx x'.i y'.i||(uo x' y'|| !loose b x'.i y'.i)) with
  |false=>rw[q] at h;cases h
  |true=>
   rw[q] at h;have:(Tx x.i y.i||(uo x y|| !loose b x.i y.i))=true:=by
    rw[hx.1,hl.1.1];cases q1:Tx x'.i y'.i with
    |true=>rfl
    |false=>
     rw[q1] at q;cases q2:uo x' y' with
     |true=>rw[acm hx hl.1 q2];rfl
     |false=>
      rw[q2] at q;cases uo x y
      ·exact q
      ·rfl
   rw[this];exact aae hx hl.2 h
theorem ame{b:Array Nat}{all Rt:List Met}(ha:nQ all Rt):∀{l l':List Met},nQ l l'->qU b Rt l'=true->qU b all l=true
 |[],[],_,_=>rfl
 |[],_::_,h,_=>h.elim
 |_::_,[],h,_=>h.elim
 |x::l,x'::l',hl,h=>by
  unfold qU at h ⊢;cases q:(uq x'||tU b x' Rt) with
  |false=>rw[q] at h;cases h
  |true=>
   rw[q] at h;have:(uq x||tU b x all)=true:=by
    cases q1:uq x' with
    |true=>rw[acn hl.1 q1];rfl
    |false=>rw[q1] at q;rw[aae hl.1 ha q];cases uq x<;>rfl
   rw[this];exact ame ha hl.2 h
theorem ru.cover{P:Program}{Tu:aJ}{G:AF->AS->Prop}{f nt:Nat}{K:List Item}{ops:Array Oper}{acc Ru:List Met}{i:Nat}{t:Tr AV}{s:AS}(h:nQ acc Ru)(H:ru P Tu G f nt K ops Ru i t s):ru P Tu G f nt K ops acc i t s:=by obtain⟨t1,ms,s1,q1,q2,q3⟩:=H;exact⟨t1,ms,s1,q1,ame (h.app<|nQ.refl ms) (h.app<|nQ.refl ms) q2,q3⟩
theorem ac4{B:Prop}(hy:b=true->A)(mD:b=false->B)(ha:b=true->A->X)(hb:b=false->B->X):X:=by
 cases b with
 |true=>exact ha rfl<|hy rfl
 |false=>exact hb rfl<|mD rfl
theorem aei{o:Option AV}{d:Decidable c}{B:Prop}(h:o=some (.bool<|@decide c d))(hy:c->A)(mD:¬c->B)(ha:o=some (.bool true)->A->X)(hb:o=some (.bool false)->B->X):X:=by
 by_cases q:c
 ·rw[decide_eq_true q] at h;exact ha h<|hy q
 ·rw[decide_eq_false q] at h;exact hb h<|mD q
theorem BP{x:Nat×Nat×cx}(h:yX v=some x):v= .slice (some (x.1,0)) x.2.1 x.2.2:=by
 unfold yX at h;split at h
 ·injection h with h;subst h;rfl
 ·cases h
theorem aa8{op:Op}{x:TypeId×Operand×Option Operand×Option Operand}(h:NX op=some x):op= .slice x.1 x.2.1 x.2.2.1 x.2.2.2 none:=by
 unfold NX at h;split at h
 ·injection h with h;subst h;rfl
 ·cases h
theorem Ow{i:Int}(h0:0<=i)(h1:i<(n:Int)):within i n=some i.toNat:=by
 obtain⟨k,rfl⟩:=Int.eq_ofNat_of_zero_le h0;have hk:k<n:=by omega
 show(match (Int.ofNat k) with| .ofNat k=>(match Tv k n with|true=>some k|false=>none)| .negSucc _=>none)=some k;have:Tv k n=true:=by rw[blt_eq];exact hk
 simp only[this]
theorem aav{t:Tr AV}{o:Option Operand}{d v:Int}{uR:Nat}(h:Ez t o d=some v)(h0:0<=v)(h1:v<=(uR:Int)):∃y,opt (aF t) o=some y/\∀dn:Nat,(Int.ofNat dn=d)->bound y uR dn=some v.toNat:=by
 cases o with
 |none=>
  injection h with h;subst h
  exact⟨none,rfl,fun dn e=>by subst e;rfl⟩
 |some x=>
  unfold Ez at h;simp only at h;cases e:aF t x with
  |none=>rw[e] at h;cases h
  |some z=>
   rw[e] at h;cases z<;>simp only at h<;>first|(cases h;done)|skip
   rename_i k n;injection h with h;subst h
   refine⟨some<|.int k n,?_,fun dn _=>?_⟩
   ·show(match aF t x with|none=>none|some v=>some<|some v)=_;rw[e]
   ·show within n (uR+1)=_;exact Ow h0 ak
theorem aa1{op:Op}{x:TypeId×Operand×Operand×Operand}(h:NM op=some x):op= .slice x.1 x.2.1 none (some x.2.2.1) (some x.2.2.2):=by
 unfold NM at h;split at h
 ·injection h with h;subst h;rfl
 ·cases h
theorem aiD{P:Program}{Tu:aJ}{t:Tr AV}{s:AS}{x:TypeId×Operand×Option Operand×Option Operand}{len K:Nat}{hi:Int}(hx:aF t x.2.1=some (.slice (some (n,0)) len cap))(hk:sd P x.1=some K)(h1:Ez t x.2.2.1 0=some 0)(h2:Ez t x.2.2.2 (Int.ofNat len)=some hi)(hc:kept cap=true)(a1:0<=hi)(a2:hi<=Int.ofNat (jR len cap)):
 (dY P<|.slice x.1 x.2.1 x.2.2.1 x.2.2.2 none).val Tu t s= .ok (.slice (some (n,0)) hi.toNat cap) s:=by
 obtain⟨y1,e1,f1⟩:=aav (uR:=hi.toNat) h1 ak ak;obtain⟨y2,e2,f2⟩:=aav (uR:=jR len cap) h2 a1 a2;show uj P x.1 x.2.1 x.2.2.1 x.2.2.2 none Tu t s=_;unfold uj;rw[hx,bW,e1,bW,e2,bW];show lift (yc P x.1 (.slice (some (n,0)) len cap) y1 y2 none) s=_;have:yc P x.1 (.slice (some (n,0)) len cap) y1 y2 none=some (.slice (some (n,0)) hi.toNat cap):=by
  unfold sd at hk;split at hk<;>first|(cases hk;done)|skip
  rename_i e hu;unfold yc;rw[hu];have f1':=f1 0 rfl;simp only[hk,f2 len rfl];rw[f1'];cases cap with
  |known c=>
   show(match Tx c 0 with
    |true=>some (AV.slice (some (n,0)) (hi.toNat - 0)<|.known<|c - 0)
    |false=>some<|AV.slice (some (n,0+0*K)) (hi.toNat - 0)<|.known<|c - 0)=_
   rw[UE];cases Tx c 0<;>rfl
  |au b e=>rfl
  |lost=>cases hc
 rw[this];rfl
theorem aiE{P:Program}{Tu:aJ}{t:Tr AV}{s:AS}{x:TypeId×Operand×Operand×Operand}{len K:Nat}{hi mx:IntKind×Int}(hx:aF t x.2.1=some (.slice (some (n,0)) len cap))(hk:sd P x.1=some K)(h1:aF t x.2.2.1=some (.int hi.1 hi.2))(h2:aF t x.2.2.2=some (.int mx.1 mx.2))(hc:kept cap=true)(a1:0<=hi.2)(a2:hi.2<=mx.2)(a3:mx.2<=Int.ofNat (jR len cap)):
 (dY P<|.slice x.1 x.2.1 none (some x.2.2.1)<|some x.2.2.2).val Tu t s= .ok (.slice (some (n,0)) hi.2.toNat<|.known mx.2.toNat) s:=by
 show uj P x.1 x.2.1 none (some x.2.2.1) (some x.2.2.2) Tu t s=_;unfold uj;have o1:opt (aF t) (some x.2.2.1)=some (some<|.int hi.1 hi.2):=by show(match aF t x.2.2.1 with|none=>none|some v=>some<|some v)=_;rw[h1]
 have o2:opt (aF t) (some x.2.2.2)=some (some<|.int mx.1 mx.2):=by show(match aF t x.2.2.2 with|none=>none|some v=>some<|some v)=_;rw[h2]
 rw[hx,bW,show opt (aF t) none=some none from rfl,bW,o1,bW,o2,bW];show lift (yc P x.1 (.slice (some (n,0)) len cap) none (some<|.int hi.1 hi.2)<|some<|.int mx.1 mx.2) s=_;have b1:bound (some<|.int mx.1 mx.2) (jR len cap) 0=some mx.2.toNat:=Ow ak (by have:(Int.ofNat<|jR len cap)=((jR len cap:Nat):Int):=rfl;omega);have b2:bound (some<|.int hi.1 hi.2) mx.2.toNat 0=some hi.2.toNat:=Ow a1 ak;have:yc P x.1 (.slice (some (n,0)) len cap) none (some<|.int hi.1 hi.2) (some<|.int mx.1 mx.2)=some (.slice (some (n,0)) hi.2.toNat<|.known mx.2.toNat):=by
  unfold sd at hk;split at hk<;>first|(cases hk;done)|skip
  rename_i e hu;unfold yc;rw[hu];simp only[hk];have h3:slice3 K (some (n,0)) (jR len cap) none (some<|.int hi.1 hi.2) (.int mx.1 mx.2)=some (.slice (some (n,0)) hi.2.toNat<|.known mx.2.toNat):=by
   unfold slice3;rw[b1];simp only;rw[b2];show(match Tx mx.2.toNat 0 with
    |true=>some (AV.slice (some (n,0)) (hi.2.toNat - 0)<|.known<|mx.2.toNat - 0)
    |false=>some<|AV.slice (some (n,0+0*K)) (hi.2.toNat - 0)<|.known<|mx.2.toNat - 0)=_
   rw[UE];cases Tx mx.2.toNat 0<;>rfl
  cases cap with
  |known c=>exact h3
  |au b e=>exact h3
  |lost=>cases hc
 rw[this];rfl
theorem aej{P:Program}{m:Nat}{s:AS}(h:cZ F n o k=some cs):ba P sp F m (.row n o k) [] s= .ok (.agg cs) s:=by
 have:rp F n o k s= .ok (.agg cs) s:=by
  unfold cZ at h;unfold rp;split at h
  ·rename_i l e;split at h
   ·rename_i q;injection h with h;subst h
    rw[e,bW,q,dR];rfl
   ·cases h
  ·cases h
 cases m<;>exact this
theorem abP{l:List AV}{z:Nat×List AV}(h:PA l=some z):l= .ptr (some (z.1,0))::z.2:=by
 unfold PA at h;split at h
 ·injection h with h;subst h;rfl
 ·cases h
theorem ac5{o:Option ah}{u:Nat×AV}(h:QU o=some u):o=some (.tok u.1 u.2):=by
 unfold QU at h;split at h
 ·injection h with h;subst h;rfl
 ·cases h
theorem D8{E:Env}(hE:E.Ok):∀(fuel n:Nat) (c:MU) (p:Pl) (rs:List ResultVar) (k:Kt) (C:yW) (G:AF->AS->Prop),Chunk E.P (ba E.P E.sp E.F n) G->
 (∀fr s j aR jm s1 x s2 p,eL E.P (ba E.P E.sp E.F n) j fr s= .ok (.leave aR jm) s1->finish E.P rs aR jm s1= .ok x s2->k x s2 p->G fr s)->(∀fr s p,C fr s p->G fr s)->(∀f nt K t s l o nx p,E.fg=true->qu top l=true->qu top o=true->(Tw s.nx nx&&Tw nx top)=true->yH t l->yS s.h o->C ⟨f,aA l,nt,K,[],none⟩ (aj o nx) p->G ⟨f,t,nt,K,[],none⟩ s)->(∀f nt K t s l0 o0 l o nx p,E.fg=true->l0.map (fun q=>t.get q.1)=l0.map (fun q=>some q.2)->o0.map (fun q=>s.h.get q.1)=o0.map (fun q=>q.2)->fy E.F E.lo s.nx l0 o0 l o nx->C ⟨f,aA l,nt,K,[],none⟩ (aj o nx) p->G ⟨f,t,nt,K,[],none⟩ s)->(∀f nt K t s l o nx p,E.fg=true->qu top l=true->qu nx o=true->(Tw nx s.nx&&(Tv s.nx top&&Tw E.lo nx))=true->yH t l->yS s.h o->uU nx l o->C ⟨f,aA l,nt,K,[],none⟩ (aj o nx) p->G ⟨f,t,nt,K,[],none⟩ s)->wp E fuel n c p rs k C->Gof E.P (ba E.P E.sp E.F n) G c
 |0,n,c,p,rs,k,C,G,hG,hk,hC,hL,hR,hB,h=>h.elim
 |fuel+1,n,c,p,rs,k,C,G,hG,hk,hC,hL,hR,hB,h=>by
  have ih:=D8 hE fuel;have h:Sr E (wp E fuel) n c p rs k C:=h;unfold Sr at h;cases c with
  |fr f nt K t s=>
   simp only at h;split at h
   ·obtain⟨x,s1,h1,h⟩:=G5 h;obtain⟨y,h2,h⟩:=bh h;rw[ac2 h2] at h1;exact hG _ _ _ _ _ h1<|ih n _ _ rs k C G hG hk hC hL hR hB h
   ·obtain⟨x,h1,h⟩:=bh h;obtain⟨id,rfl⟩:=abN h1;exact my.aku hG<|ih n _ _ rs k C G hG hk hC hL hR hB h
   ·obtain⟨x,s1,h1,h⟩:=G5 h;obtain⟨y,h2,h⟩:=bh h;obtain⟨v,s2,h3,h⟩:=G5 h;rw[ac3 h2] at h1;exact hk _ _ _ _ _ _ _ _ _ h1 h3 h
   ·exact hC _ _ _ h
   ·obtain⟨h1,h2,h3,h⟩:=im h;obtain⟨q0,h1⟩:=and_true.1 h1;obtain⟨q1,h1⟩:=and_true.1 h1;obtain⟨q2,h1⟩:=and_true.1 h1;obtain⟨q3,q4⟩:=and_true.1 h1;exact hL _ _ _ _ _ _ _ _ _ q0 q1 q2 q3 (OW h2) (PB h3 q4) h
   ·obtain⟨h1,h2,h3,h4,h⟩:=im h;obtain⟨q0,q1⟩:=and_true.1 h1;have q1:=Ug q1;rw[←q1] at h4;exact hR _ _ _ _ _ _ _ _ _ _ _ q0 h2 h3 h4 h
   ·obtain⟨h1,h2,h3,h4,h⟩:=im h;obtain⟨q0,h1⟩:=and_true.1 h1;obtain⟨q1,h1⟩:=and_true.1 h1;obtain⟨q2,h1⟩:=and_true.1 h1;obtain⟨q3,q4⟩:=and_true.1 h1;exact hB _ _ _ _ _ _ _ _ _ q0 q1 q2 q3 (OW h2) (PB h3 q4) h4 h
   ·exact h.elim
  |rg f nt K ops D i t s=>
   simp only at h;split at h
   ·obtain⟨h1,h⟩:=im h;obtain⟨x,s1,h2,h⟩:=G5 h;exact my.go h1 h2<|ih n _ _ rs k C G hG hk hC hL hR hB h
   ·obtain⟨h1,h⟩:=im h;obtain⟨h2,h⟩:=im h;exact my.done h1 h2<|ih n _ _ rs k C G hG hk hC hL hR hB h
   ·obtain⟨o,ho,h⟩:=bh h;obtain⟨hw,h⟩:=im h;obtain⟨op,d,g⟩:=o;simp only at hw h;have hn:∀v s1 p,(dY E.P op).val (ba E.P E.sp E.F n) t (iK D s)= .ok v s1->(wo (jD nt t d v) fun t1=>wp E fuel n (.rg f nt K ops (Mb D i s s1) (i+1) t1<|Fo D s s1) p rs k C)->my E.P (ba E.P E.sp E.F n) G f nt K ops D i t s:=by intro v s1 p hv h;obtain⟨t1,hp,h⟩:=bh h;exact my.op ho hw hv hp (ih n _ _ rs k C G hG hk hC hL hR hB h)
    generalize cM:(fun(v:AV) (s1:AS) (p:Pl)=>wo (jD nt t d v) fun t1=>wp E fuel n (.rg f nt K ops (Mb D i s s1) (i+1) t1<|Fo D s s1) p rs k C)=nx at h;have hn:∀v s1 p,(dY E.P op).val (ba E.P E.sp E.F n) t (iK D s)= .ok v s1->nx v s1 p->my E.P (ba E.P E.sp E.F n) G f nt K ops D i t s:=by intro v s1 p hv h;rw[←cM] at h;exact hn v s1 p hv h
    have lT:∀v h2 R W p,((D.isSome&&Tx s.mark 0)||Tx (iK D s).mark 0)=true->(∃rd wr,(∀k∈rd,k∈R\/k∈(iK D s).rd)/\(∀k∈wr,k∈W\/k∈(iK D s).wr)/\((iK D s).mark=0->rd=(iK D s).rd/\wr=(iK D s).wr)/\
     (dY E.P op).val (ba E.P E.sp E.F n) t (iK D s)= .ok v ⟨h2,(iK D s).nx+1,(iK D s).mark,rd,wr⟩)->nx v (Md (D.isSome&&Tx s.mark 0) (iK D s) h2 R W) p->my E.P (ba E.P E.sp E.F n) G f nt K ops D i t s:=by
     rintro v h2 R W p cV ⟨rd,wr,a1,a2,a3,hv⟩ h;cases Ss:(D.isSome&&Tx s.mark 0) with
     |false=>rw[Ss] at cV h;have AZ:=Ug (show Tx (iK D s).mark 0=true from cV);obtain⟨rfl,rfl⟩:=a3 AZ;exact hn _ _ _ hv h
     |true=>
      rw[Ss] at h;obtain⟨Su,hd2⟩:=and_true.1 Ss;cases D with
      |none=>cases Su
      |some acc=>
       have hm:s.mark=0:=Ug hd2;have a1:∀k∈rd,k∈R:=fun k hk=>(a1 k hk).resolve_right (by show ¬k∈([]:List Nat);simp);have a2:∀k∈wr,k∈W:=fun k hk=>(a2 k hk).resolve_right (by show ¬k∈([]:List Nat);simp);have h:nx v ⟨h2,(iK (some acc) s).nx+1,(iK (some acc) s).mark,R,W⟩ p:=h;rw[←cM] at h;obtain⟨t1,hp,h⟩:=bh h;refine my.op ho hw hv hp ?_;have H:=ih n _ _ rs k C G hG hk hC hL hR hB h;have e:Fo (some acc) s ⟨h2,(iK (some acc) s).nx+1,(iK (some acc) s).mark,rd,wr⟩=Fo (some acc) s ⟨h2,(iK (some acc) s).nx+1,(iK (some acc) s).mark,R,W⟩:=by show ET s _=ET s _;unfold ET;rw[hm,Jk,Jk,Jk,Jk]
       rw[e];exact ru.cover (Ru:=acc++[Ma i s ⟨h2,(iK (some acc) s).nx+1,(iK (some acc) s).mark,R,W⟩]) (nQ.app (nQ.refl acc) ⟨⟨rfl,fun n h=>amd a1 n h,fun n h=>amd a2 n h,rfl,rfl⟩,trivial⟩) H
    show my E.P (ba E.P E.sp E.F n) G f nt K ops D i t s;unfold ZV at h;split at h
    ·obtain⟨x,h1,h⟩:=bh h;obtain⟨a,h2,h⟩:=bh h;obtain⟨b,h3,h⟩:=bh h;obtain⟨a1,h4,h⟩:=bh h;obtain⟨b1,h5,h⟩:=bh h;obtain⟨h6,h⟩:=im h;obtain⟨c,h7,hy,mD⟩:=bh h;have h6:=of_decide_eq_true h6;have e:=aat h1;rw[rU h4] at h2;rw[rU h5, ←h6] at h3;obtain⟨r,hr,ZW⟩:=afv h7;have hv:(dY E.P op).val (ba E.P E.sp E.F n) t (iK D s)= .ok (.bool r) (iK D s):=by rw[e];exact ag2 h2 h3 hr
     cases r with
     |true=>exact hn _ _ _ hv<|hy<|ZW.1 rfl
     |false=>exact hn _ _ _ hv (mD fun q=>by have:=ZW.2 q;cases this)
    ·obtain⟨v',s1,h1,rfl,h⟩:=G5 h;exact hn _ _ _ h1 h
    ·obtain⟨x,h1,h⟩:=bh h;obtain⟨m,hm,h⟩:=bh h;obtain⟨val,h2,h⟩:=bh h;obtain⟨h3,h4,h⟩:=im h;have e:=Gw hm;exact hn _ _ _ (by rw[e];exact BE h1<|hE.vw _ _ _ _ _ _ h2 h4 h3) h
    ·obtain⟨x,h1,h⟩:=bh h;obtain⟨m,hm,h⟩:=bh h;obtain⟨val,h2,h⟩:=bh h;obtain⟨h3,h4,hy,mD⟩:=im h;have e:=Gw hm;have hv:=fun b (h4:val x.2=some (.bool b))=>(show(dY E.P op).val (ba E.P E.sp E.F n) t (iK D s)= .ok (.bool b) (E.cs<|iK D s) by rw[e];exact BE (P:=E.P) h1<|hE.vw _ _ _ _ _ m h2 h4 h3);exact aei h4 hy mD (fun q h=>hn _ _ _ (hv _ q) h) fun q h=>hn _ _ _ (hv _ q) h
    ·obtain⟨x,h1,h2,h⟩:=bh h;exact hn _ _ _ (BE h1 h2) h
    ·obtain⟨x,h1,h2,h3,h⟩:=bh h;exact hn _ _ _ (BE h1<|h2 _ h3) h
    ·obtain⟨x,h1,h⟩:=bh h;obtain⟨a,h2,h⟩:=bh h;obtain⟨b',h3,h4,h5,h⟩:=bh h;refine hn _ _ _ ?_ h;rw[abO h1];show xS E.P x.1 x.2.1 x.2.2 (ba E.P E.sp E.F n) t (iK _ s)=_;unfold xS;rw[h2,h3,bW,bW];exact h4 _ h5
    ·obtain⟨x,h1,h⟩:=bh h;obtain⟨a,h2,h⟩:=bh h;obtain⟨a',h3,h⟩:=bh h;obtain⟨b,h4,h⟩:=bh h;obtain⟨m,h5,h⟩:=bh h;obtain⟨i1,h6,h⟩:=bh h;obtain⟨hb,k1,k2,k3,k4,k5,k6,k7,h⟩:=im h;obtain⟨b1,hb⟩:=and_true.1 hb;obtain⟨b0,hb⟩:=and_true.1 hb;obtain⟨b2,hb⟩:=and_true.1 hb;obtain⟨b3,hb⟩:=and_true.1 hb;obtain⟨b4,b5⟩:=and_true.1 hb;have b1:=Ug b1;obtain⟨ty,e,e1,e2,e3,e4,e5⟩:=I7 h6;cases iO:E.P.info? e with
     |none=>rw[iO] at e3;cases e3
     |some i0=>rw[iO] at e3;simp only[Uj,Ud,Prod.mk.injEq] at e3;obtain⟨q1,q2,q3⟩:=e3;rw[aeh h3,k1,k2,b1, ←q1] at h2;rw[aci h5] at h4;rw[←q1] at k5 k7 h b0;rw[←q2] at k6 e5;refine lT _ _ _ _ _ b5 ?_ h;rw[I6 h1];obtain⟨rd,wr,d1,d2,d3,d4⟩:=ag8 h2 h4 e1 e2 iO (by rw[q3,e4];rfl) k3 k4 (by rw[b2,b3,b4];rfl) k5 ((blt_eq _ _).mp b0) e5 k6 k7;exact⟨rd,wr,fun k hk=>by rcases d1 k hk with rfl|rfl|h;exact .inl j0;exact .inl j0;exact .inr h,fun k hk=>by rcases d2 k hk with rfl|h;exact .inl j0;exact .inr h,d3,d4⟩
    ·obtain⟨x,h1,h⟩:=bh h;obtain⟨a,h2,h⟩:=bh h;obtain⟨a',h3,h⟩:=bh h;obtain⟨ad,h4,h⟩:=bh h;obtain⟨z,h5,h⟩:=bh h;obtain⟨z',h6,h⟩:=bh h;obtain⟨K1,h7,h⟩:=bh h;obtain⟨h8,h9,gT,h⟩:=im h;refine hn _ _ _ ?_ h;rw[NC h1];rw[abM h3,h4] at h2;obtain⟨n0,o0⟩:=ad;have h8:o0=0:=Ug h8;subst h8;rw[rU h6] at h5;exact aiB h2 h5 h7 h9 gT
    ·obtain⟨x,h1,h⟩:=bh h;obtain⟨a,h2,h⟩:=bh h;obtain⟨a',h3,h⟩:=bh h;obtain⟨z,h5,h⟩:=bh h;obtain⟨z',h6,h⟩:=bh h;obtain⟨K1,h7,h9,gT,h⟩:=bh h;refine hn _ _ _ ?_ h;rw[NC h1];rw[amc h3] at h2;rw[rU h6] at h5;exact ahe h2 h5 h7 h9 gT
    ·obtain⟨x,h1,h⟩:=bh h;obtain⟨a,h2,h⟩:=bh h;obtain⟨a',h3,h⟩:=bh h;obtain⟨ag,h4,h⟩:=bh h;obtain⟨k1,h5,h⟩:=bh h;obtain⟨h6,h⟩:=im h;obtain⟨h7,h⟩:=im h;obtain⟨v,h8,h9,h⟩:=bh h;refine hn _ _ _ ?_ h;rw[I2 h1];rw[Jj h3] at h2;exact QV h2 h4 h5 h6 h7 h8 h9
    ·obtain⟨x,h1,h⟩:=bh h;obtain⟨a,h2,h⟩:=bh h;obtain⟨a',h3,h⟩:=bh h;obtain⟨ag,h4,h⟩:=bh h;obtain⟨h5,h⟩:=im h;obtain⟨h7,h8,hy,mD⟩:=im h;have h5:ag=false:=by simpa using h5
     subst h5;rw[Jj h3] at h2;exact ac4 hy mD (fun e h=>hn _ _ _ (by rw[I2 h1];exact QV h2 h4 rfl rfl h7 rfl<|by rw[h8,e]) h) fun e h=>hn _ _ _ (by rw[I2 h1];exact QV h2 h4 rfl rfl h7 rfl<|by rw[h8,e]) h
    ·obtain⟨x,h1,h⟩:=bh h;obtain⟨a,h2,h⟩:=bh h;obtain⟨a',h3,h⟩:=bh h;obtain⟨ag,h4,h⟩:=bh h;obtain⟨z,hz,h⟩:=bh h;obtain⟨k1,h5,h⟩:=bh h;obtain⟨v,h8,h9,gT,h⟩:=bh h;refine hn _ _ _ ?_ h;rw[I2 h1];rw[acj h3] at h2;exact ahg h2 h4 hz h5 h8 h9 gT
    ·obtain⟨x,h1,h⟩:=bh h;obtain⟨a,h2,h⟩:=bh h;obtain⟨a',h3,h⟩:=bh h;obtain⟨v,h4,h⟩:=bh h;obtain⟨k1,h5,h⟩:=bh h;obtain⟨h6,h⟩:=im h;obtain⟨h7,h⟩:=im h;obtain⟨h8,h⟩:=im h;obtain⟨h9,gT,h⟩:=im h;refine hn _ _ _ ?_ h;rw[aa7 h1];rw[Jj h3] at h2;exact ahf h2 h4 h5 h6 h7 h8 h9 gT
    ·obtain⟨x,h1,h⟩:=bh h;obtain⟨h6,h⟩:=im h;obtain⟨a,h2,h⟩:=bh h;obtain⟨b,h3,h⟩:=bh h;obtain⟨a1,h4,h⟩:=bh h;obtain⟨b1,h5,h⟩:=bh h;obtain⟨h8,h7,h⟩:=im h;have ea:x.1= .rem:=by revert h6;split<;>intro h6<;>first|assumption|cases h6
     have h8:=of_decide_eq_true h8;refine hn _ _ _ ?_ h;rw[aat h1];rw[rU h4] at h2;rw[rU h5, ←h8] at h3;exact aiC ea h2 h3 h7
    ·obtain⟨x,h1,h⟩:=bh h;obtain⟨a,h2,h⟩:=bh h;obtain⟨a',h3,h⟩:=bh h;obtain⟨b,h4,h⟩:=bh h;obtain⟨b',h5,h⟩:=bh h;obtain⟨i1,h6,h⟩:=bh h;obtain⟨hb,k1,k2,k3,k4,k5,k6,k7,k8,h⟩:=im h;obtain⟨b1,hb⟩:=and_true.1 hb;obtain⟨b2,hb⟩:=and_true.1 hb;obtain⟨b3,b4⟩:=and_true.1 hb;obtain⟨ty,e,e1,e2,e3,e4,e5⟩:=I7 h6;cases iO:E.P.info? e with
     |none=>rw[iO] at e3;cases e3
     |some i0=>rw[iO] at e3;simp only[Uj,Ud,Prod.mk.injEq] at e3;obtain⟨q1,q2,q3⟩:=e3;rw[BP h3] at h2;rw[amc h5] at h4;rw[←q1] at k4 k6 k8 h b1;rw[←q2] at k7 e5;refine lT _ _ _ _ _ b4 ?_ h;rw[I6 h1];obtain⟨rd,wr,d1,d2,d3,d4⟩:=ag7 (s:=iK D s) (Tu:=ba E.P E.sp E.F n) h2 k1 h4 e1 e2 iO (by rw[q3,e4];rfl) b1 k3 (fun s'=>aej k4) k5 k2 (by rw[b2,b3];rfl) k6 e5 k7 k8;exact⟨rd,wr,fun k hk=>by rcases d1 k hk with rfl|h;exact .inl j0;exact .inr h,fun k hk=>by rcases d2 k hk with rfl|h;exact .inl j0;exact .inr h,d3,d4⟩
    ·obtain⟨x,h1,h2,h⟩:=bh h;exact hn _ _ _ (ach h1 h2) h
    ·obtain⟨x,h1,h⟩:=bh h;obtain⟨a,h2,h⟩:=bh h;obtain⟨a',h3,h⟩:=bh h;obtain⟨z,h5,h⟩:=bh h;obtain⟨z',h6,h⟩:=bh h;obtain⟨K1,h7,h9,gT,h⟩:=bh h;refine hn _ _ _ ?_ h;rw[NC h1];rw[Jj h3] at h2;rw[rU h6] at h5;exact ahd h2 h5 h7 h9 gT
    ·obtain⟨x,h1,h⟩:=bh h;obtain⟨m,hm,h⟩:=bh h;obtain⟨q,h2,h⟩:=bh h;obtain⟨z,h3,h⟩:=bh h;obtain⟨u,h4,h⟩:=bh h;obtain⟨h5,h6,h⟩:=im h;obtain⟨c1,h5⟩:=and_true.1 h5;obtain⟨c2,h5⟩:=and_true.1 h5;obtain⟨c3,h5⟩:=and_true.1 h5;obtain⟨c4,c5⟩:=and_true.1 h5;have e:=Gw hm;have c2:q.1=u.1:=Ug c2;refine hn _ _ _ ?_ h;rw[e];refine BE h1 ?_;rw[abP h3];exact hE.tt _ _ _ _ _ _ _ _ _ h2 c1 c3 c4 c5 (by rw[ac5 h4,c2]) h6
    ·obtain⟨x,h1,h⟩:=bh h;obtain⟨m,hm,h⟩:=bh h;obtain⟨q,h2,h⟩:=bh h;obtain⟨h5,h6,h⟩:=im h;obtain⟨c1,c2⟩:=and_true.1 h5;have e:=Gw hm;refine hn _ _ _ ?_ h;rw[e];exact BE h1<|hE.tn _ _ _ _ _ _ _ h2 c1 c2 h6
    ·obtain⟨x,h1,h⟩:=bh h;obtain⟨a,h2,h⟩:=bh h;obtain⟨n',h3,h⟩:=bh h;obtain⟨i',h4,h⟩:=bh h;obtain⟨i1,h5,h⟩:=bh h;obtain⟨y,h6,h⟩:=bh h;obtain⟨hb,h7,h8,h9⟩:=im h;obtain⟨b1,hb⟩:=and_true.1 hb;obtain⟨b2,hb⟩:=and_true.1 hb;obtain⟨b3,hb⟩:=and_true.1 hb;obtain⟨b4,b5⟩:=and_true.1 hb;rw[amb h3] at h2;rw[rU h5,Oq b3] at h4;have key:=ag9 (P:=E.P) (Tu:=ba E.P E.sp E.F n) h2 h4 (ahH h6) b1 b2 (aeg b4) h7 b5;rw[←aa6 h1] at key;cases hq:lU _ i1.2 with
     |true=>rw[hq,if_pos rfl] at key;exact hn _ _ _ key<|h8 hq
     |false=>rw[hq,if_neg (by intro e;cases e)] at key;exact hn _ _ _ key<|h9 hq
    ·obtain⟨x,h1,h⟩:=bh h;obtain⟨a,h2,h⟩:=bh h;obtain⟨n',h3,h⟩:=bh h;obtain⟨i',h4,h⟩:=bh h;obtain⟨i1,h5,h⟩:=bh h;obtain⟨v',h8,h⟩:=bh h;obtain⟨v1,h9,h⟩:=bh h;obtain⟨y,h6,h⟩:=bh h;obtain⟨hb,h7,h⟩:=im h;obtain⟨b1,hb⟩:=and_true.1 hb;obtain⟨b2,hb⟩:=and_true.1 hb;obtain⟨b3,hb⟩:=and_true.1 hb;obtain⟨b4,hb⟩:=and_true.1 hb;obtain⟨b5,b6⟩:=and_true.1 hb;refine hn _ _ _ ?_ h;rw[abv h1];rw[amb h3] at h2;rw[rU h5,Oq b3] at h4;rw[rU h9,Oq b4] at h8;exact aha h2 h4 h8 (ahH h6) b1 b2 h7 b5 b6
    ·obtain⟨x,h1,h⟩:=bh h;obtain⟨a,h2,h⟩:=bh h;obtain⟨a',h3,h⟩:=bh h;obtain⟨K1,h4,h⟩:=bh h;obtain⟨oT,h5,h⟩:=bh h;obtain⟨iO,h6,h⟩:=bh h;obtain⟨h7,h8,h9,k1,hz⟩:=im h;rw[h8] at h5;rw[BP h3] at h2;refine hn _ _ _ ?_ hz;rw[aa8 h1];exact aiD h2 h4 h5 h6 h7 h9 k1
    ·obtain⟨x,h1,h⟩:=bh h;obtain⟨a,h2,h⟩:=bh h;obtain⟨a',h3,h⟩:=bh h;obtain⟨K1,h4,h⟩:=bh h;obtain⟨hi,h5,h⟩:=bh h;obtain⟨iO,h6,h⟩:=bh h;obtain⟨mx,h7,h⟩:=bh h;obtain⟨FG,h8,h⟩:=bh h;obtain⟨h9,k1,k2,k3,h⟩:=im h;rw[BP h3] at h2;rw[rU h6] at h5;rw[rU h8] at h7;refine hn _ _ _ ?_ h;rw[aa1 h1];exact aiE h2 h4 h5 h7 h9 k1 k2 k3
    ·obtain⟨x,h1,h⟩:=bh h;obtain⟨a,h2,h⟩:=bh h;obtain⟨a',h3,h⟩:=bh h;obtain⟨b,h4,h⟩:=bh h;obtain⟨b',h5,h⟩:=bh h;obtain⟨i1,h6,h⟩:=bh h;obtain⟨hb,k0,k1,k2,k3,k4,k5,k6,k7,k8,k9,tz,zm,h⟩:=im h;obtain⟨b1,hb⟩:=and_true.1 hb;obtain⟨b2,hb⟩:=and_true.1 hb;obtain⟨b3,b4⟩:=and_true.1 hb;obtain⟨ty,e,e1,e2,e3,e4,e5⟩:=I7 h6;cases iO:E.P.info? e with
     |none=>rw[iO] at e3;cases e3
     |some i0=>rw[iO] at e3;simp only[Uj,Ud,Prod.mk.injEq] at e3;obtain⟨q1,q2,q3⟩:=e3;rw[BP h3,k0] at h2;rw[BP h5] at h4;rw[←q1] at k6 k7 k8 h;rw[←q2] at tz e5;refine lT _ _ _ _ _ b4 ?_ h;rw[I6 h1];obtain⟨rd,wr,d1,d2,d3,d4⟩:=ahb (s:=iK D s) (Tu:=ba E.P E.sp E.F n) h2 h4 e1 e2 iO (by rw[q3,e4];rfl) k1 k2 k3 k4 k5 k6 k7 k8 (by rw[b1,b2,b3];rfl) k9 e5 tz zm;exact⟨rd,wr,fun k hk=>by rcases d1 k hk with rfl|rfl|h;exact .inl j0;exact .inl j0;exact .inr h,fun k hk=>.inr<|d2 k hk,d3,d4⟩
    ·obtain⟨x,h1,h⟩:=bh h;obtain⟨a,h2,h⟩:=bh h;obtain⟨a',h3,h⟩:=bh h;obtain⟨b,h4,h⟩:=bh h;obtain⟨b',h5,h⟩:=bh h;obtain⟨i1,h6,h⟩:=bh h;obtain⟨hb,k0,kk,k1,k2,k3,k4,k5,k6,k7,k8,k9,tz,zm,h⟩:=im h;obtain⟨b0,hb⟩:=and_true.1 hb;obtain⟨b1,hb⟩:=and_true.1 hb;obtain⟨b2,b3⟩:=and_true.1 hb;obtain⟨ty,e,e1,e2,e3,e4,e5⟩:=I7 h6;cases iO:E.P.info? e with
     |none=>rw[iO] at e3;cases e3
     |some i0=>rw[iO] at e3;simp only[Uj,Ud,Prod.mk.injEq] at e3;obtain⟨q1,q2,q3⟩:=e3;rw[BP h3,k0] at h2;rw[BP h5] at h4;rw[←q1] at k6 k7 k8 h b0;rw[←q2] at tz e5;refine hn _ _ _ ?_ h;rw[I6 h1];exact ahc (s:=iK D s) (Tu:=ba E.P E.sp E.F n) h2 h4 e1 e2 iO (by rw[q3,e4];rfl) kk k1 (by unfold yI at b0;exact(blt_eq _ _).mp b0) k2 k3 k4 k5 k6 k7 k8 (by rw[b1,b2,b3];rfl) k9 e5 tz zm
    ·obtain⟨x,h1,h⟩:=bh h;obtain⟨m,hm,h⟩:=bh h;have e:=Gw hm;split at h
     ·exact h.elim
     ·rename_i vx;obtain⟨fn,cv,h⟩:=bh h;obtain⟨body,cF,h⟩:=bh h;obtain⟨dF,h⟩:=im h;obtain⟨pz,h⟩:=im h;have dF:(fn.name == "runtime.NumGoroutine")=false:=by simpa using dF
      have H:=ih m _ _ _ nx (fun _ _ _=>False) (Ev E.P (ba E.P E.sp E.F m) fun aR jm s1=>∃v s2 p,finish E.P fn.results.toList aR jm s1= .ok v s2/\nx v s2 p) Chunk.ev (fun fr s j aR jm s1 v s2 p q1 q2 q3=>⟨j,aR,jm,s1,q1,v,s2,p,q2,q3⟩) (fun _ _ _ q=>q.elim) (fun _ _ _ _ _ _ _ _ _ _ _ _ _ _ _ q=>q.elim) (fun _ _ _ _ _ _ _ _ _ _ _ _ _ _ _ q=>q.elim) (fun _ _ _ _ _ _ _ _ _ _ _ _ _ _ _ _ q=>q.elim) h;obtain⟨j,aR,jm,s1,q1,v,s2,p,q2,q3⟩:=H;refine hn _ _ _ (BE h1 ?_) q3;rw[e];show jv E.P E.sp x.1 (ba E.P E.sp E.F m) x.2 _=_;rw[OU vx cv cF dF];unfold wv;rw[pz,dR,M.bO<|Jt q1];exact q2
    ·exact h.elim
theorem bq{B:Prop}(c:Prop)(x:c->A)(y:¬c->B):(c->A)/\(¬c->B):=⟨x,y⟩
theorem av.back{P:Program}{s:AS}{t:Tr AV}{nt f:Nat}{K:List Item}{o:List<|Nat×Option ah}{nx:Nat}(hl:qu top l=true)(ho:qu nx o=true)(hn:(Tw nx s.nx&&(Tv s.nx top&&Tw U nx))=true)(hg:fY<=U)(ht:yH t l)(hh:yS s.h o)(he:uU nx l o)(H:av P B U Q ⟨f,aA l,nt,K,[],none⟩<|aj o nx):av P B U Q ⟨f,t,nt,K,[],none⟩ s:=by
 obtain⟨n1,n2⟩:=and_true.1 hn;obtain⟨n2,n3⟩:=and_true.1 n2;have n1:=aI.1 n1;have n2:=(blt_eq _ _).mp n2;have n3:=aI.1 n3;let r:Nat->Nat:=fun k=>if k<nx\/top<=k then k else max k s.nx
 have r1:∀k,k<nx->r k=k:=fun k hk=>by show(if _ then _ else _)=_;rw[if_pos<|.inl hk]
 have r2:∀k,top<=k->r k=k:=fun k hk=>by show(if _ then _ else _)=_;rw[if_pos<|.inr hk]
 obtain⟨e1,e2⟩:=he r r1 r2;refine av.weaken (s2:=aj o nx) (t2:=aA l) [] r (fun k hk=>r1 k ak) (fun k hk ht=>?_) r2 hg ⟨TN _,by show nx<=top;omega⟩ rfl rfl (fun _ h=>by cases h) (fun i y hy=>?_) (fun n o2 hn hg=>?_) (fun _ h=>by cases h) (fun n m x y hn hm h1 h2 e=>?_) H
 ·have FF:nx<=k:=hk;show s.nx<=(if _ then _ else _)/\(if _ then _ else _)<top;rw[if_neg ak];omega
 ·have hm:=D5 (fun p hp=>xY hl p hp) hy;exact⟨y,ht.mem _ hm,(e1 _ hm).z⟩
 ·have cH:∀p∈o,p.1<top:=fun p hp=>by have:=xY ho p hp;omega
  have hm:=wc cH hg;obtain⟨h1,h2⟩:=hh.mem _ hm;have ct:n<nx:=xY ho _ hm;rw[r1 n ct];exact⟨hn,.inl<|h2 o2 rfl,o2,h1,fc.refl _,(e2 _ hm o2 rfl).z⟩
 ·have cH:∀p∈o,p.1<top:=fun p hp=>by have:=xY ho p hp;omega
  have a1:n<nx:=xY ho _<|wc cH h1;have a2:m<nx:=xY ho _<|wc cH h2;rw[r1 n a1,r1 m a2] at e;exact e
theorem av.rn{P:Program}{s:AS}{t:Tr AV}{nt f:Nat}{K:List Item}{l0:List<|Nat×AV}{o0 o:List<|Nat×Option ah}{nx:Nat}(hg:fY<=U)(h1:l0.map (fun q=>t.get q.1)=l0.map (fun q=>some q.2))(h2:o0.map (fun q=>s.h.get q.1)=o0.map (fun q=>q.2))(hw:fy B.F U s.nx l0 o0 l o nx)(H:av P B U Q ⟨f,aA l,nt,K,[],none⟩<|aj o nx):av P B U Q ⟨f,t,nt,K,[],none⟩ s:=by
 obtain⟨fz,r,r1,r2,r3,r4,r5,r6,r7,r8,r9⟩:=hw;have hs:∀(l0:List<|Nat×AV),l0.map (fun q=>t.get q.1)=l0.map (fun q=>some q.2)->∀p∈l0,t.get p.1=some p.2:=by
  intro l0;induction l0 with
  |nil=>intro _ p hp;cases hp
  |cons a l ih=>
   intro h p hp;simp only[T0,TQ] at h;rcases Ty.1 hp with rfl|hp
   ·exact h.1
   ·exact ih h.2 p hp
 have ho:∀(o0:List<|Nat×Option ah),o0.map (fun q=>s.h.get q.1)=o0.map (fun q=>q.2)->∀p∈o0,s.h.get p.1=p.2:=by
  intro o0;induction o0 with
  |nil=>intro _ p hp;cases hp
  |cons a l ih=>
   intro h p hp;simp only[T0,TQ] at h;rcases Ty.1 hp with rfl|hp
   ·exact h.1
   ·exact ih h.2 p hp
 have zn:∀n y,n<top->(gm o).get n=some y->(n,some y)∈o:=fun n y hn hg=>wc (fun p hp=>(r6 p hp).1) hg;refine av.weaken (s2:=aj o nx) (t2:=aA l) fz r r1 (fun k hk ht=>r2 k hk ht) r3 hg ⟨TN _,r4⟩ rfl rfl (fun p hp=>?_) (fun i y hy=>?_) (fun n y hn hg=>?_) (fun p hp n y hn hg=>?_) (fun n m x y hn hm e1 e2 e=>?_) H
 ·obtain⟨q1,q2,N,t',z,q3,q4⟩:=r8 p hp;exact⟨q1,q2,N,t',z,ho o0 h2 _ q3,fun i x hx=>by obtain⟨i1,i2,i3,i4⟩:=q4 i x hx;exact⟨i1,i2,i3,fun ρ v hv=>AV.wx ag6 i4 hv⟩⟩
 ·have hm:=D5 (fun p hp=>(r5 p hp).1) hy;obtain⟨_,x,hx,hv⟩:=r5 _ hm;exact⟨x,hs l0 h1 _ hx,hv⟩
 ·obtain⟨_,q⟩:=r6 _<|zn n y hn hg;obtain⟨q1,q2,x,q3,q4,q5⟩:=q y rfl;exact⟨q1,.inl q2,x,ho o0 h2 _ q3,q4,q5⟩
 ·exact r9 p hp _ (zn n y hn hg) j0
 ·exact r7 _ (zn n x hn e1) _ (zn m y hm e2) j0 j0 e
theorem wp_cut{E:Env}(hE:E.Ok){P:Program}(hP:E.P=P){f nt:Nat}{t:Tr AV}{K:List Item}{s:AS}{R:AV->AS->Prop}(bR:P.follows .mixedOrders=true)(hc:gk P B<|ba E.P E.sp E.F n)(hl:∀t a,Tt<|ba E.P E.sp E.F n t a)(hg:fY<=U)(eY:E.lo=U)(hF:B.F=E.F){C:yW}(hC:∀fr s p,C fr s p->av P B U (Fin P rs R) fr s)(fuel:Nat)(p:Pl)(x:T)(h:T=wp E fuel n (.fr f nt K t s) p rs (fun v s _=>R v s) C:=by as_aux_lemma=>kernel_rfl)(h0:Tw U s.nx=true:=by as_aux_lemma=>kernel_rfl):av P B U (Fin P rs R) ⟨f,t,nt,K,[],none⟩ s:=by
 subst hP;have H:=D8 hE fuel n (.fr f nt K t s) p rs (fun v s _=>R v s) C (AI E.P B U<|Fin E.P rs R) (Chunk.FT bR hc hl)
  (fun fr s j aR jm s1 v s2 p q1 q2 q3 h0=>av.leave bR hc hl q1 h0 ⟨v,s2,by rw[←Gu];exact q2,q3⟩) (fun fr s p q _=>hC fr s p q)
  (fun f nt K t s l o nx p _ q1 q2 q3 q4 q5 q6 _=>av.less q1 q2 q3 hg q4 q5<|hC _ _ _ q6) (fun f nt K t s l0 o0 l o nx p _ q1 q2 q3 q4 _=>av.rn hg q1 q2 (by rw[←eY,hF];exact q3)<|hC _ _ _ q4) (fun f nt K t s l o nx p _ q1 q2 q3 q4 q5 q6 q7 _=>av.back q1 q2 (by rw[←eY];exact q3) hg q4 q5 q6<|hC _ _ _ q7) (h▸x)
 exact AI.start h0 H
theorem mM{E:Env}(hE:E.Ok){P:Program}(hP:E.P=P){f nt:Nat}{t:Tr AV}{K:List Item}{s:AS}{R:AV->AS->Prop}(bR:P.follows .mixedOrders=true)(hc:gk P B<|ba E.P E.sp E.F n)(hl:∀t a,Tt<|ba E.P E.sp E.F n t a)(fuel:Nat)(p:Pl)(x:T)(h:T=wp E fuel n (.fr f nt K t s) p rs (fun v s _=>R v s) (fun _ _ _=>False):=by as_aux_lemma=>kernel_rfl)(h0:Tw U s.nx=true:=by as_aux_lemma=>kernel_rfl):av P B U (Fin P rs R) ⟨f,t,nt,K,[],none⟩ s:=by subst hP;have H:=D8 hE fuel n (.fr f nt K t s) p rs (fun v s _=>R v s) (fun _ _ _=>False) (AI E.P B U<|Fin E.P rs R) (Chunk.FT bR hc hl) (fun fr s j aR jm s1 v s2 p q1 q2 q3 h0=>av.leave bR hc hl q1 h0 ⟨v,s2,by rw[←Gu];exact q2,q3⟩) (fun _ _ _ q=>q.elim) (fun _ _ _ _ _ _ _ _ _ _ _ _ _ _ _ q=>q.elim) (fun _ _ _ _ _ _ _ _ _ _ _ _ _ _ _ q=>q.elim) (fun _ _ _ _ _ _ _ _ _ _ _ _ _ _ _ _ q=>q.elim)<|h▸x;exact AI.start h0 H
def tA(E:Env)(n:Nat)(rs:List ResultVar)(R:AV->AS->Prop)(fr:AF)(s:AS):Prop:=Ev E.P (ba E.P E.sp E.F n) (fun aR jm s1=>∃v s2,finish E.P rs aR jm s1= .ok v s2/\R v s2) fr s
theorem Hs{E:Env}(hE:E.Ok)(vy:E.fg=false){f nt:Nat}{t:Tr AV}{K:List Item}{s:AS}{R:AV->AS->Prop}{C:yW}(hC:∀fr s p,C fr s p->tA E n rs R fr s)(fuel:Nat)(p:Pl)(x:T)(h:T=wp E fuel n (.fr f nt K t s) p rs (fun v s _=>R v s) C:=by as_aux_lemma=>kernel_rfl):tA E n rs R ⟨f,t,nt,K,[],none⟩ s:=D8 hE fuel n (.fr f nt K t s) p rs (fun v s _=>R v s) C (tA E n rs R) Chunk.ev (fun fr s j aR jm s1 v s2 p q1 q2 q3=>⟨j,aR,jm,s1,q1,v,s2,q2,q3⟩) hC (fun _ _ _ _ _ _ _ _ _ q=>by rw[vy] at q;cases q) (fun _ _ _ _ _ _ _ _ _ _ _ q=>by rw[vy] at q;cases q) (fun _ _ _ _ _ _ _ _ _ q=>by rw[vy] at q;cases q)<|h▸x
theorem tA.call{E:Env}{g:Nat}{fn:Func}{body:Code}{args:List AV}{s:AS}{R:AV->AS->Prop}(cv:E.P.funcs[g]? =some fn)(cF:fn.body=some body)(H:tA E n fn.results.toList R ⟨g,dZ args,max fn.ntmps args.length,[.code body],[],none⟩ s)(h0:((fn.name == "runtime.NumGoroutine"),(E.sp g).isNone,Tw (max fn.ntmps args.length) top)=(false,true,true):=by as_aux_lemma=>kernel_rfl):∃v s2,ba E.P E.sp E.F (n+1) (.fn g) args s= .ok v s2/\R v s2:=by
 injection h0 with dF h0
 injection h0 with vx pz
 have akv:E.sp g=none:=Option.isNone_iff_eq_none.1 vx;obtain⟨j,aR,jm,s1,q1,v,s2,q2,q3⟩:=H;refine⟨v,s2,?_,q3⟩;show jv E.P E.sp g (ba E.P E.sp E.F n) args s=_;rw[OU akv cv cF dF];unfold wv;rw[pz,dR,M.bO<|Jt q1];exact q2
end
end Go.Rn
