import Derived.Test.YtjcfiaeoopphoaaDoorAtGE
import Derived.Test.YtjcfiaeoopphoaaDoorRnGC
import Derived.Test.YtjcfiaeoopphoaaDoorAtGD
set_option maxRecDepth 100000
set_option maxHeartbeats 8000000
set_option linter.unusedSimpArgs false
set_option linter.unusedVariables false
open Classical renaming byContradiction → Ut
open Int renaming le_refl → Vd, toNat_natCast → Uy
open List renaming all_cons → TS, all_eq_true → TG, append_assoc → Um, append_nil → U8, drop → UH, dropLast_subset → Wv, drop_drop → Up, drop_eq_getElem_cons → U6, drop_eq_nil_of_le → Wm, drop_zero → T8, getD_eq_getElem?_getD → T9, getElem?_append_right → UJ, getElem?_drop → Ue, getElem?_eq_getElem → TE, getElem?_eq_some_iff → TZ, length_append → TM, length_cons → TL, length_drop → Vo, length_map → T3, length_nil → Ub, length_take → T4, mem_append → TP, mem_append_left → T7, mem_append_right → TU, mem_cons → Ty, mem_cons_of_mem → TB, mem_cons_self → TA, mem_flatten → Vb, mem_map → TI, mem_of_getElem? → TY, mem_singleton → TC, nil_append → UB, nodup_nil → UD, not_mem_nil → TV, reverse_reverse → UC, take_add_one → VW, take_length → UM, take_of_length_le → UG
open Nat renaming beq → Tx, ble → Tw, blt → Tv, eq_of_beq_eq_true → Ug, le_refl → Tz, lt_succ_self → UT, mul_one → Va, sub_zero → Uk, zero_add → T6, zero_le → TN
open Go Go.Rn Go.RowKit Go.Proofs
noncomputable section
namespace Mw
open fq ia lk lY pF xg RO oJ
variable {a a':dX}
def wV(n:Int)(m:List<|Int×Int):Prop:=∀p∈m,0<=p.1/\p.1<n
def nk(n:Int)(b:bp):Prop:=∀m∈b,wV n m
section
variable {n:Int} {b b':bp} {m:List<|Int×Int} {k v:Int}
theorem Lj:∀{m:List<|Int×Int},wV n m->0<=k/\k<n->wV n (gf m k v)
 |[],_,hk,p,hp=>by rw[gf,TC] at hp;subst hp;exact hk
 |q::l,h,hk,p,hp=>by
  unfold gf at hp;split at hp
  ·rcases Ty.1 hp with rfl|hp
   ·exact hk
   ·exact h p<|TB _ hp
  ·rcases Ty.1 hp with rfl|hp
   ·exact h _ TA
   ·exact Lj (fun x hx=>h x<|TB _ hx) hk p hp
theorem Pk:∀{s d:List<|Int×Int},wV n d->wV n s->wV n (fM d s)
 |[],d,hd,_=>hd
 |p::s,d,hd,hs=>Pk (s:=s) (Lj hd<|hs p TA) fun q hq=>hs q<|TB _ hq
theorem X9:∀{b:bp},nk n b->0<=k/\k<n->nk n (lA b k v)
 |[],h,_=>h
 |[m],h,hk=>fun q hq=>by rw[show lA [m] k v=[gf m k v] from rfl,TC] at hq;subst hq;exact Lj (h m TA) hk
 |m::m'::l,h,hk=>fun q hq=>by
  rcases Ty.1 (show q∈m::lA (m'::l) k v from hq) with rfl|hq
  ·exact h _ TA
  ·exact X9 (b:=m'::l) (fun x hx=>h x<|TB _ hx) hk q hq
theorem Xn:∀{b:bp},nk n b->nk n (gA b)
 |[],h=>h
 |[m],h=>h
 |[m,m'],h=>fun q hq=>by rw[show gA [m,m']=[fM m m'] from rfl,TC] at hq;subst hq;exact Pk (h m TA)<|h m'<|TB _ TA
 |m::m'::Bo::l,h=>fun q hq=>by
  rcases Ty.1 (show q∈m::gA (m'::Bo::l) from hq) with rfl|hq
  ·exact h _ TA
  ·exact Xn (b:=m'::Bo::l) (fun x hx=>h x<|TB _ hx) q hq
theorem GF:∀(j:Nat) (st:List Fr) (b:bp) (br:List Fr) (b':bp),iH j st b=some (br,b')->nk n b->nk n b'
 |0,_,_,_,_,h,_=>by cases h
 |j+1,[],b,br,b',h,hb=>by
  unfold iH at h;injection h with h;injection h with _ h
  rw[←h];exact hb
 |j+1,f::r,b,br,b',h,hb=>by
  unfold iH at h;split at h
  ·injection h with h;injection h with _ h
   rw[←h];exact hb
  split at h
  ·split at h
   ·injection h with h;injection h with _ h
    rw[←h];exact hb
   ·exact GF j _ b _ _ h hb
  split at h
  ·split at h
   ·exact GF j _ _ _ _ h<|Xn hb
   ·cases h
  ·exact GF j _ b _ _ h hb
theorem Hj{st:List Fr}(h:fin a st b=some a')(hb:nk n b):nk n a'.b:=by
 unfold fin at h;cases e:iH 1000 st b with
 |none=>rw[e] at h;cases h
 |some p=>
  rw[e] at h;injection h with h
  rw[←h];exact GF 1000 st b p.1 p.2 e hb
end
theorem agH{n:Int}{b:bp}(hb:nk n b):nk n<|b++[[]]:=fun m hm=>by
 rcases TP.1 hm with hm|hm
 ·exact hb m hm
 ·rw[TC] at hm;subst hm;intro p hp;cases hp
theorem agI(hv:1<=a.vars)(hs:sw a=some a')(hb:nk a.vars a.b):nk a.vars a'.b:=by
 unfold sw at hs;split at hs
 ·cases hs
 split at hs
 ·cases hs
 repeat' split at hs
 all_goals first|(cases hs;done)|exact Hj hs hb|exact Hj hs (X9 hb<|W5 hv)|exact Hj hs (fun m hm=>hb m<|Wv _ hm)|exact Hj hs<|agH hb
theorem aia{x:Int}(hs:pc a x=some a')(hb:nk a.vars a.b):nk a.vars a'.b:=by
 unfold pc at hs;split at hs
 ·cases hs
 split at hs
 ·cases hs
 exact Hj hs hb
theorem Ya{n:Int}{b:bp}(h:nk n b):∀{d:List<|Int×Int},wV n d->wV n (b.foldl fM d):=by
 induction b with
 |nil=>exact fun hd=>hd
 |cons m b ih=>exact fun hd=>ih (fun x hx=>h x<|TB _ hx)<|Pk hd<|h m TA
theorem Yb:∀(n:Nat) (l:List Int),l.Nodup->(∀x∈l,0<=x/\x<(n:Int))->l.length<=n
 |0,[],_,_=>Tz _
 |0,x::l,_,h=>by have:=h x TA;omega
 |n+1,l,hn,h=>by
  have e:l.length<=(l.erase (n:Int)).length+1:=by
   by_cases q:(n:Int)∈l
   ·rw[List.length_erase_of_mem q];omega
   ·rw[List.erase_of_not_mem q];omega
  have:=Yb n (l.erase (n:Int)) (hn.erase _) fun x hx=>by
   have h1:=h x<|List.mem_of_mem_erase hx;have h2:x≠(n:Int):=fun e=>by rw[e] at hx;exact(List.Nodup.not_mem_erase hn) hx
   omega
  omega
theorem Xo{n:Nat}{b:bp}(h:nk (n:Int) b):(allM b).length<=n:=by
 have hk:eK<|allM b:=N7 UD;have hi:wV (n:Int)<|allM b:=Ya h fun p hp=>by cases hp
 have:=Yb n ((allM b).map (·.1)) hk fun x hx=>by obtain⟨p,hp,rfl⟩:=TI.1 hx;exact hi p hp
 rw[T3] at this;exact this
structure DI where
 m:dX
 rs:List<|Int×Int
 re:Bool
 x:Int
def qj(mem:List Int)(v:Int):Int:=mem.getD v.toNat 0
def Ax(mem:List Int):Nat->dX->List (Int×Int)->Option DI
  |0,_,_=>none
  | n+1,a,rs=>if(fm a).1=1 then(sw a).bind fun a'=>Ax mem n a' rs
    else if(fm a).1=2 then(pc a<|qj mem (fm a).2.1).bind fun a'=>Ax mem n a'<|rs++[((fm a).2.1,qj mem (fm a).2.1)]
    else if(fm a).1=3 then some ⟨a,rs,false,(fm a).2.2⟩ else some ⟨a,rs,true,0⟩
def nf(d:DI):List<|Int×Int:=if d.re=true then[] else eC (allM d.m.b)
structure uQ (mem:List Int) (a:dX) (rs:List<|Int×Int):Prop where
 mi:mV a
 va:a.vars=(mem.length:Int)
 bi:nk a.vars a.b
 st:(rs.length:Int)<=a.steps
 rd:∀p∈rs,0<=p.1/\p.1<(mem.length:Int)/\p.2=qj mem p.1
theorem ann{mem:List Int}{rs:List<|Int×Int}(h:uQ mem a rs)(hs:a.steps<=1000000000000):(fm a=(1,0,0)/\∃a',sw a=some a'/\JZ a/\uQ mem a' rs/\a'.steps=a.steps+1/\eU a'.fs.reverse+1<=eU a.fs.reverse)\/
 (∃v a',fm a=(2,v,0)/\(0<=v/\v<(mem.length:Int))/\pc a (qj mem v)=some a'/\Li a/\uQ mem a' (rs++[(v,qj mem v)])/\a'.steps=a.steps+1/\eU a'.fs.reverse+1<=eU a.fs.reverse)\/(∃x,fm a=(3,0,x))\/fm a=(4,0,0):=by
 obtain⟨hm,hv,hb,dq,hrd⟩:=h;have h1:=hm.vars;rcases adP hm with e|⟨v,e,b1,b2⟩|e|e
 ·obtain⟨hd,a',q1,q2,q3,q4,_⟩:=OS hm ae e;exact .inl ⟨e,a',q1,hd,⟨q2,q4.trans hv,by rw[q4];exact agI h1.1 q1 hb,by omega,hrd⟩,q3,ae3 hm e q1⟩
 ·obtain⟨hd,a',q1,q2,q3,q4,_⟩:=agA hm ae e<|qj mem v;refine .inr<|.inl ⟨v,a',e,by omega,q1,hd,⟨q2,q4.trans hv,by rw[q4];exact aia q1 hb,by rw[TM];show((rs.length+1:Nat):Int)<=_;omega,fun p hp=>?_⟩,q3,agF hm e q1⟩;rcases TP.1 hp with hp|hp
  ·exact hrd p hp
  ·rw[TC] at hp;subst hp;exact⟨b1,by show v<_;omega,rfl⟩
 ·exact .inr<|.inr<|.inl e
 ·exact .inr<|.inr<|.inr e
theorem Pm{mem:List Int}:∀(n:Nat) (a:dX) (rs:List<|Int×Int),uQ mem a rs->eU a.fs.reverse<n->a.steps+n<=1000000->∃d,Ax mem n a rs=some d/\uQ mem d.m d.rs/\(d.re=true->d.x=0)/\d.m.steps<=a.steps+n
 |0,_,_,_,h,_=>by omega
 |n+1,a,rs,h,hp,hn=>by
  unfold Ax;rcases ann h ae with⟨e,a',e1,_,ok,e2,e3⟩|⟨v,a',e,hv,e1,_,ok,e2,e3⟩|⟨x,e⟩|e
  ·rw[e,if_pos rfl,e1];obtain⟨d,h1,h2,h3,h4⟩:=Pm n a' rs ok ae ae;exact⟨d,h1,h2,h3,by omega⟩
  ·rw[e,if_neg (by show ¬((2:Int)=1);omega),if_pos rfl];show ∃d,(pc a<|qj mem v).bind _=some d/\_;rw[e1];obtain⟨d,h1,h2,h3,h4⟩:=Pm n a' _ ok ae ae;exact⟨d,h1,h2,h3,by omega⟩
  ·rw[e,if_neg (by show ¬((3:Int)=1);omega),if_neg (by show ¬((3:Int)=2);omega),if_pos rfl];exact⟨_,rfl,h,(fun q=>by cases q),by show a.steps<=_;omega⟩
  ·rw[e,if_neg (by show ¬((4:Int)=1);omega),if_neg (by show ¬((4:Int)=2);omega),if_neg (by show ¬((4:Int)=3);omega)];exact⟨_,rfl,h,fun _=>rfl,by show a.steps<=_;omega⟩
theorem ajV{mem:List Int}{d:DI}(h:uQ mem d.m d.rs):(nf d).Pairwise (fun a b=>a.1<b.1)/\(∀p∈nf d,0<=p.1/\p.1<(mem.length:Int))/\(nf d).length<=mem.length:=by
 unfold nf;split
 ·exact⟨List.Pairwise.nil,(fun p hp=>by cases hp),TN _⟩
 ·have hb:=h.bi;rw[h.va] at hb;have hk:eK<|allM d.m.b:=N7 UD;have hi:wV _<|allM d.m.b:=Ya hb fun p hp=>by cases hp
  refine⟨?_,(fun p hp=>hi p<|(DW _).subset hp),by rw[BH];exact Xo hb⟩;have h1:=Pd<|allM d.m.b;have h2:((eC<|allM d.m.b).map (·.1)).Nodup:=(((DW<|allM d.m.b).map (·.1)).nodup_iff).2 hk;rw[List.Nodup,List.pairwise_map] at h2;exact(h1.and h2).imp fun q=>by have:=q.1;have:=q.2;omega
end Mw
namespace Ay
open cj gw gi iU fq cY lk lY pF Ie xg Aw wU RO oJ Ii sS Mw CX uL mr
variable {x st:Int} {ws rs:List<|Int×Int} {v:AV} {tx:List St} {o N:Nat} {mm aN:List Int} {b:Bool} {B:aE}
abbrev Bv(mem:List Int)(d:DI):AV:=mC d.x d.re d.rs (nf d) (oZ mem<|nf d) d.m.steps
theorem aib:(mC x b rs ws mm st).hi=true:=by show([AV.int .i64 x,.bool b,ar aO rs,ar aO ws,ar encI mm,.int .i64 st].all AV.cN&&true)=true;have h1:∀l:List<|Int×Int,(ar aO l).cN=true:=fun l=>aI.2<|cR _;have h2:(ar encI mm).cN=true:=aI.2<|cR _;show((true&&(true&&((ar aO rs).cN&&((ar aO ws).cN&&((ar encI mm).cN&&(true&&true))))))&&true)=true;rw[h1,h1,h2];rfl
theorem Zv{S:Type}{enc:S->AV}(inj:∀a b,enc a=enc b->a=b){f:S->List AV->Option (AV×S)}{a a':S}{rest:List AV}{y:AV}(h:f a rest=some (y,a'))(h1:rest.all AV.hi=true)(h2:y.hi=true):iZ (ir enc f) (enc a) rest=some (y,enc a'):=afA ((B1 inj).trans (by rw[h];rfl)) h1 h2
theorem als{m:dX}(hm:mV m)(hs:0<=m.steps/\m.steps<=1000000000000):vO (eS m) []=some (AO<|fm m):=by refine(J1 v7).trans ?_;unfold Mu;rw[if_pos ⟨rfl,hm.ask hs⟩];rfl
theorem QB{B:aE}(mc:Mt me B){mem:List Int}{N o:Nat}(hl:dP encI 1 (.ab N o mem.length) mem)(h1:1<=mem.length/\mem.length<=1000):∀(n:Nat) (a:dX) (rs:List<|Int×Int),uQ mem a rs->eU a.fs.reverse<n->a.steps+n<=50000->rs.length+n<=50000->
 ∃d,Ax mem n a rs=some d/\uQ mem d.m d.rs/\(d.re=true->d.x=0)/\fW B (Bv mem d) nY (fV (eS a) (.ab N o mem.length) rs)
 |0,_,_,_,h,_,_=>by omega
 |n+1,a,rs,h,hp,hn,hr=>by
  have hN:=hl.len.2.1;have s0:0<=a.steps/\a.steps<=1000000000000:=by have:=h.st;omega
  have hx:=als h.mi s0;unfold Ax;have fin:∀(d:DI),d.m=a->d.rs=rs->(d.re=true->d.x=0)->px eS IY (eS a) []=some (ar aO<|eC<|allM a.b)/\fW B (Bv mem d) ga (zD (eS a) (.ab N o mem.length) d.x d.re rs<|nf d):=by rintro ⟨m,rs',re,x⟩ rfl rfl hre;obtain⟨w1,w2,w3⟩:=ajV (d:=⟨m,rs',re,x⟩) h;have hb:=h.bi;rw[h.va] at hb;refine⟨(J1 v7).trans<|if_pos (by have:=Xo hb;omega),tlD mc (J1 v7)<|eV (eQ Ff.bJ ⟨N,o,mem,_,rfl,hl,⟨h1.1,by omega,by omega⟩,w2,rfl⟩) ?_<|aI.2<|cR _⟩;rw[TS,hl.hi,TS,show(ar aO<|nf ⟨m,rs',re,x⟩).hi=true from aI.2<|cR _];rfl
  rcases ann h ae with⟨e,a',e1,hd,ok,e2,e3⟩|⟨v,a',e,hv,e1,hd,ok,e2,e3⟩|⟨x,e⟩|e
  ·rw[e,if_pos rfl,e1];rw[e] at hx;obtain⟨d,d1,d2,d3,d4⟩:=QB mc hl h1 n a' rs ok ae ae ae;refine⟨d,d1,d2,d3,jL mc hN ae (an:=0) (xn:=0) hx (Zv v7 (f:=HD) ?_ rfl rfl) d4⟩;unfold HD;rw[if_pos ⟨rfl,hd⟩,e1];rfl
  ·rw[e,if_neg (by show ¬((2:Int)=1);omega),if_pos rfl];rw[e] at hx;show ∃d,(pc a<|qj mem v).bind _=some d/\_;rw[e1];obtain⟨d,d1,d2,d3,d4⟩:=QB mc hl h1 n a' _ ok ae ae (by rw[TM];show rs.length+1+n<=_;omega);have hg:mem[v.toNat]? =some (qj mem v):=by unfold qj;rw[T9,TE ae];rfl
   have hf:cZ FU N (o+v.toNat*1+0) 1=some [.int .i64<|qj mem v]:=hl.len.2.2 v.toNat _ hg;have kT:iZ (ir eS AQ) (eS a) [.int .i64<|qj mem v]=some (.int .i64 0,eS a'):=by
    refine Zv v7 (f:=AQ) ?_ rfl rfl;have e0:AQ a [.int .i64<|qj mem v]=(pc a<|qj mem v).map fun a'=>(AV.int .i64 0,a'):=by unfold AQ;exact if_pos hd
    rw[e0,e1];rfl
   refine⟨d,d1,d2,d3,?_⟩;cases rs with
   |nil=>exact alo mc hN hx hv hf kT d4
   |cons q r=>exact alp mc hN ae hx hv hf kT d4
  ·rw[e,if_neg (by show ¬((3:Int)=1);omega),if_neg (by show ¬((3:Int)=2);omega),if_pos rfl];rw[e] at hx;obtain⟨f1,f2⟩:=fin ⟨a,rs,false,x⟩ rfl rfl (fun q=>by cases q);exact⟨_,rfl,h,(fun q=>by cases q),pS mc hN ae hx f1 f2⟩
  ·rw[e,if_neg (by show ¬((4:Int)=1);omega),if_neg (by show ¬((4:Int)=2);omega),if_neg (by show ¬((4:Int)=3);omega)];rw[e] at hx;obtain⟨f1,f2⟩:=fin ⟨a,rs,true,0⟩ rfl rfl fun _=>rfl;exact⟨_,rfl,h,fun _=>rfl,Gb mc hN ae hx f2⟩
def zE(tx:List St)(mem aN:List Int):Option DI:=match iH 1000 [uP tx] [[]] with
 |some (st,bb)=>Ax mem 3000 ⟨(mem.length:Int),aN,Z8,bb,st.reverse,0⟩ []
 |none=>none
def DJ(tx:List St)(mem aN:List Int):AV:=match zE tx mem aN with
 |some d=>Bv mem d
 |none=>Tc 0
def Ij(g:AV)(aN:List Int):Prop:=(g=nl/\aN=[])\/∃G q,g= .ab G q aN.length/\dP encI 1 g aN
theorem Ij.inj{g:AV}{l m:List Int}(h:Ij g l)(k:Ij g m):l=m:=by
 rcases h with⟨e,rfl⟩|⟨G,q,e,h⟩<;>rcases k with⟨e',rfl⟩|⟨G',q',e',k⟩
 ·rfl
 ·exact absurd (e.symm.trans e') (by intro h;cases h)
 ·exact absurd (e.symm.trans e') (by intro h;cases h)
 ·exact h.inj sa k
def o6(args:List AV)(v:AV):Prop:=∃(tx:List St) (mem aN:List Int) (N o:Nat) (g:AV),args=[.ab (nm (tx.map aM).flatten) 0 tx.length,.ab N o mem.length,g]/\dP encI 1 (.ab N o mem.length) mem/\Ij g aN/\aN.length<=1000/\(1<=mem.length/\mem.length<=32)/\pv 60 tx=true/\ks 60 tx=true/\oB tx (aN.length:Int) true/\ow 60 tx=true/\kZ 6 tx/\v=DJ tx mem aN
theorem o6.bJ(args:List AV)(v v':AV)(h:o6 args v)(h':o6 args v'):v=v':=by
 obtain⟨tx,mem,aN,N,o,g,rfl,i1,i2,_,_,_,_,_,_,_,rfl⟩:=h;obtain⟨tx',alu,Mm,N',o',g',e,j1,j2,_,_,_,_,_,_,_,rfl⟩:=h';injection e with e1 e;injection e with e2 e;injection e with e3 _
 have e1:tx=tx':=JA e1;rw[e2] at i1;rw[e3] at i2;have e2:mem=alu:=i1.inj sa j1;have e3:aN=Mm:=i2.inj j2;subst e1;subst e2;subst e3;rfl
def tS:FuncId×KE:=(7,.raw fun a b c=>qi false a b c<|aK o6)
theorem Xp{mem:List Int}(hm:1<=mem.length/\mem.length<=32)(hg:aN.length<=1000)(sO:oB tx (aN.length:Int) true)(wf:kZ 6 tx):∃st bb d,iH 1000 [uP tx] [[]]=some (st,bb)/\uQ mem ⟨(mem.length:Int),aN,Z8,bb,st.reverse,0⟩ []/\eU (st.reverse).reverse<=2000/\
 zE tx mem aN=some d/\uQ mem d.m d.rs/\(d.re=true->d.x=0)/\d.rs.length<=3000:=by
 obtain⟨st,bb,hs,hmi⟩:=agB (aN:=aN) (vars:=(mem.length:Int)) wf hg ae;have hc:=ae4 sO;have aox:=agG wf hc hs;have hb:nk (mem.length:Int) bb:=GF 1000 _ _ _ _ hs fun m hm=>by rw[TC] at hm;subst hm;intro p hp;cases hp
 have ok:uQ mem ⟨(mem.length:Int),aN,Z8,bb,st.reverse,0⟩ []:=⟨hmi,rfl,hb,Vd _,fun p hp=>by cases hp⟩;have fI:eU (st.reverse).reverse<=2000:=by rw[UC];omega
 obtain⟨d,d1,d2,d3,d4⟩:=Pm 3000 _ _ ok (by show eU (st.reverse).reverse<3000;omega) (by show(0:Int)+3000<=_;omega);exact⟨st,bb,d,hs,ok,fI,by unfold zE;rw[hs];exact d1,d2,d3,by have:=d2.st;have d4:d.m.steps<=(0:Int)+(3000:Nat):=d4;omega⟩
abbrev vP(X xl N o L:Nat)(g:AV):List<|Nat×AV:=[(0,.ab X 0 xl),(1,.ab N o L),(2,g)]
theorem s0Z{X xl L:Nat}(mc:Mt me B)(hX:top<=X)(hN:top<=N)(H:fW B v ⟨7,dZ [.ab X 0 xl,.ab N o L,ar encI []],qJ,(dh 7 []),[],none⟩<|aj aq 270):
 fW B v ⟨7,dZ [.ab X 0 xl,.ab N o L,nl],qJ,(dh 7 []),[],none⟩ (aj aq 270):=
 wC mc (C:=fun fr s1 _=>fr=⟨7,aA<|vP X xl N o L<|ar encI [],qJ,(dh 7 []),[],none⟩/\s1=aj aq 270) (fun fr s1 _ hC=>by obtain⟨rfl,rfl⟩:=hC;rw[show aA (vP X xl N o L<|ar encI [])=dZ [.ab X 0 xl,.ab N o L,ar encI []] by kernel_rfl];exact H) (.rn (vP X xl N o L nl) aq (vP X xl N o L<|ar encI []) aq 270 270 .no) (show((vP X xl N o L nl).map (fun q=>some q.2)=(vP X xl N o L nl).map (fun q=>some q.2))/\(aq.map (fun q=>q.2)=aq.map (fun q=>q.2))/\fy FU 270 270 (vP X xl N o L nl) aq (vP X xl N o L<|ar encI []) aq 270/\((⟨7,aA<|vP X xl N o L<|ar encI [],qJ,(dh 7 []),[],none⟩:AF)=⟨7,aA<|vP X xl N o L<|ar encI [],qJ,(dh 7 []),[],none⟩/\aj aq 270=aj aq 270) from
  ⟨rfl,rfl,Fe (fz:=[]) (Tz _) (Tz _) dV (fun r hr ht p hp=>by
   simp only[vP,Ty,TV,or_false] at hp;rcases hp with rfl|rfl|rfl
   ·exact⟨by show 0<top;unfold top;omega,_,iL.mi 0,(aZ.ab (ht _ hX) ht).z⟩
   ·exact⟨by show 1<top;unfold top;omega,_,iL.mi 1,(aZ.ab (ht _ hN) ht).z⟩
   ·exact⟨by show 2<top;unfold top;omega,_,iL.mi 2,B0⟩) (fun r hr ht p hp=>by
   obtain⟨a,b⟩:=yN (fz:=[]) hr p hp;refine⟨a,fun y hy=>?_⟩;obtain⟨c,d⟩:=b y hy;exact⟨c,y,by rw[←hy];exact hp,fc.refl _,d⟩) (fun p hp=>by cases hp),rfl,rfl⟩) cf cf
theorem Yc{α:Type}{enc:α->List AV}{K:Nat}(he:kA K enc)(hf:∀x,(enc x).all AV.flat=true)(l:List α):IW<|ar enc l:=.inr ⟨_,0,_,rfl,(l.map enc).flatten,rfl,he.all l,TG.2 fun x hx=>by obtain⟨q,h1,h2⟩:=Vb.1 hx;obtain⟨y,_,rfl⟩:=TI.1 h1;exact TG.1 (hf y) x h2⟩
theorem ajW(e:Int):HN<|Tc e:=⟨_,rfl,fun y hy=>by
 simp only[Ty,TV,or_false] at hy;rcases hy with rfl|rfl
 ·refine .inr ⟨_,rfl,fun z hz=>.inl ?_⟩;simp only[Ty,TV,or_false] at hz;rcases hz with rfl|rfl|rfl|rfl|rfl|rfl<;>rfl
 ·exact .inl<|.inl rfl⟩
theorem ajX:HN<|mC x b rs ws mm st:=⟨_,rfl,fun y hy=>by
 have hp:=Yc sS.vd fun _=>rfl;simp only[Ty,TV,or_false] at hy;rcases hy with rfl|rfl
 ·refine .inr ⟨_,rfl,fun z hz=>?_⟩;simp only[Ty,TV,or_false] at hz;rcases hz with rfl|rfl|rfl|rfl|rfl|rfl
  ·exact .inl rfl
  ·exact .inl rfl
  ·exact hp _
  ·exact hp _
  ·exact Yc eI (fun _=>rfl) _
  ·exact .inl rfl
 ·exact .inl<|.inl rfl⟩
theorem ajY{args:List AV}(h:o6 args v):HN v:=by
 obtain⟨tx,mem,aN,_,_,_,_,_,_,_,_,_,_,_,_,_,rfl⟩:=h;unfold DJ;split
 ·exact ajX
 ·exact ajW 0
theorem Yd(mc:Mt me B){mem:List Int}(i1:dP encI 1 (.ab N o mem.length) mem)(G q:Nat)(i2:dP encI 1 (.ab G q aN.length) aN)(hg:aN.length<=1000)(a:1<=mem.length/\mem.length<=32)(d1:pv 60 tx=true)(d2:ks 60 tx=true)(m:oB tx (aN.length:Int) true)(gc:ow 60 tx=true)(wf:kZ 6 tx):
 fW B (DJ tx mem aN) ⟨7,dZ [.ab (nm (tx.map aM).flatten) 0 tx.length,.ab N o mem.length,.ab G q aN.length],qJ,(dh 7 []),[],none⟩ (aj aq 270):=by
 have hi:[AV.ab (nm (tx.map aM).flatten) 0 tx.length,.int .i64 (mem.length:Int),.ab G q aN.length].all AV.hi=true:=by rw[TS, ←uC,uA,TS,TS,i2.hi];rfl
 obtain⟨st,bb,_,e1,ok,hp,_⟩:=Xp a hg m wf;obtain⟨d,k1,_,_,k4⟩:=QB mc i1 ae 3000 _ [] ok (by show eU (st.reverse).reverse<3000;omega) (by show(0:Int)+3000<=_;omega) (by show 0+3000<=_;omega);have e2:DJ tx mem aN=Bv mem d:=by unfold DJ zE;rw[e1];show(match Ax mem 3000 _ [] with|some d=>Bv mem d|none=>Tc 0)=_;rw[k1]
 rw[e2];exact s0K mc (afB (aeZ ⟨tx,_,aN,G,q,rfl,i2,hg,by omega,d1,d2,m,gc,st,bb,e1,rfl⟩) hi) k4
theorem Ye(hP:bY pg)(hs:Cl pg 60 61){L:bV}(h:aY L):aY<|tS::L:=by
 refine amv hP gW qR jT jb h (ae1 hP<|adF hP<|aeS hP<|ags hP<|agC hP hs<|agD hP<|aeY hP dj) Tryd.func7 (body:=aL pg 7 []) aV aV fun args v e=>?_;have e:=fQ e;refine⟨ajY e,?_⟩;obtain⟨tx,mem,aN,N,o,g,rfl,i1,i2,hg,a,d1,d2,m,gc,wf,rfl⟩:=e;refine⟨aI.1 aV,fun B mc=>?_⟩;show fW B (DJ tx mem aN) ⟨7,_,qJ,_,_,_⟩ ⟨dk,270,0,[],[]⟩;rw[←gX];rcases i2 with⟨rfl,rfl⟩|⟨G,q,rfl,i2⟩
 ·exact s0Z mc (cR _) i1.len.2.1<|Yd mc i1 _ _ (dP.ar eI []) hg a d1 d2 m gc wf
 ·exact Yd mc i1 G q i2 hg a d1 d2 m gc wf
end Ay
namespace Ik
open cj cY oJ iL ve xf CX Ay
variable {l1:List<|Nat×AV} {aP G:Nat} {S:cr} {α:Type} {y st:Int} {wa:List<|Int×Int} {tx:List St} {mm:List Int} {enc:α->List AV} {b:Bool} {T A:Prop} {L:bV}
theorem Bt{fz:jl}{l0:List<|Nat×AV}{o0 o:List<|Nat×Option ah}{nx:Nat}(h:270<=nx/\nx<=aP/\aP<top)(hl:∀f:Nat->Nat,(∀k,k<nx->f k=k)->(∀k,top<=k->f k=k)->VF fz f l0 l1)(ho:∀f:Nat->Nat,(∀k,k<nx->f k=k)->(∀k,top<=k->f k=k)->∀p∈o,p.1<nx/\∀y,p.2=some y->y.iA=true/\∃x,(p.1,some x)∈aq++o0/\fc x y/\dT fz f x y)(hz:∀p∈fz,nx<=p.1/\p.1<top/\FU p.2.1=some p.2.2/\∃N t z,(p.1,some<|.cells N t z)∈aq++o0/\∀i x,p.2.2[i]? =some x->i<N/\cellAt t z i=some x/\x.bM=true/\x.cN=true):fy FU 270 aP l0 (aq++o0) l1 (aq++o) nx:=
 Fe (fz:=fz) h.1 h.2.1 h.2.2 (fun f hf ht=>(hl f hf ht).at) (fun f hf ht p hp=>by
  rcases TP.1 hp with hp|hp
  ·obtain⟨a,b⟩:=yN (fz:=fz) (fun k hk=>hf k ae) p hp;refine⟨by omega,fun y hy=>?_⟩;obtain⟨c,d⟩:=b y hy;exact⟨c,y,T7 _ HY,fc.refl _,d⟩
  ·exact ho f hf ht p hp) hz
abbrev Bu(enc:α->List AV)(r:List α)(n:Nat):jl:=[(n,nm (r.map enc).flatten,(r.map enc).flatten)]
theorem wkF{K:Nat}(he:kA K enc){r:List α}{l0:List<|Nat×AV}{n:Nat}(h:271<=n/\n<aP/\aP<top)(hr:r.length*K<=top)(hl:∀f:Nat->Nat,(∀k,k<271->f k=k)->(∀k,top<=k->f k=k)->VF (Bu enc r n) f l0 l1):fy FU 270 aP l0 (aq++[(270,some<|bt<|dH S),(n,some<|az enc r)]) l1 (aq++[(270,some<|bt<|dH S)]) 271:=
 Bt (fz:=Bu enc r n) ae hl (fun f hf ht p hp=>by
  rw[TC] at hp;subst hp;exact⟨by show 270<271;omega,fun y hy=>by cases hy;exact⟨rfl,_,TU _<|mi 0,lM,CA ht⟩⟩) (fun p hp=>by
  rw[TC] at hp;subst hp;exact⟨h.1,Ei he hr n ae<|TU _<|mi 1⟩)
theorem alv{l0:List<|Nat×AV}(h:271<=aP/\aP<top)(hl:∀f:Nat->Nat,(∀k,k<271->f k=k)->(∀k,top<=k->f k=k)->VF [] f l0 l1):fy FU 270 aP l0 (aq++[(270,some<|bt<|dH S)]) l1 (aq++[(270,some<|bt<|dH S)]) 271:=Bt (fz:=[]) ae hl (fun f hf ht p hp=>by rw[TC] at hp;subst hp;exact⟨by show 270<271;omega,fun y hy=>by cases hy;exact⟨rfl,_,TU _<|mi 0,lM,CA ht⟩⟩) (fun p hp=>by cases hp)
theorem ajZ{j:Nat}{l0:List<|Nat×AV}{r:List Int}(hj:j<100)(hl:r.length<=1000000)(h1:273<aP)(h2:aP<top)(FO:∀(fz:jl) (f:Nat->Nat),(∀k,top<=k->f k=k)->VF fz f l0 l1):fy FU 270 aP ((j,eG 273 r)::l0) (aq++[(273,sU r)]) ((j,ar encI r)::l1) (aq++[]) 270:=by
 cases r with
 |nil=>exact Bt (fz:=[]) ae (fun f hf ht=>⟨⟨rfl,by show j<200;omega,B0⟩,FO _ f ht⟩) (fun f hf ht p hp=>by cases hp) (fun p hp=>by cases hp)
 |cons x r=>exact Bt (fz:=Bu encI (x::r) 273) ae (fun f hf ht=>⟨⟨rfl,by show j<200;omega,BZ (TC.2 rfl) ht rfl⟩,FO _ f ht⟩) (fun f hf ht p hp=>by cases hp) (fun p hp=>by rw[TC] at hp;subst hp;exact⟨by show 270<=273;omega,Ei eI dV 273 dV<|TU _<|mi 0⟩)
abbrev Mx(n:Nat):ah:=.cells (n*1) .nil [.slice none 0<|.known 0]
abbrev Tk(n:Nat):AS->AS:=HM<|Mx n
abbrev mrQ(s:AS):Prop:=s.nx=271
theorem agJ{n:Nat}(hn:n<=1000000)(s:AS)(hs:mrQ s):makeSlice pg 57 (i6 (n:Int)) (i6 (n:Int)) s= .ok (.slice (some (271,0)) n<|.known n) (Tk n s):=by
 have hu:Tryd.prog.underlying 57=some (.slice 22):=by kernel_rfl
 have hz:qd pg 22=some (.slice none 0<|.known 0):=by kernel_rfl
 have hi:(match Tryd.prog.info? 22 with|some i=>Tx i.size 1&&Tx i.bytes 24|none=>false)=true:=by kernel_rfl
 unfold makeSlice;simp only[hu];cases e:Tryd.prog.info? 22 with
 |none=>rw[e] at hi;cases hi
 |some i=>
  rw[e] at hi;obtain⟨h1,h2⟩:=and_true.1 hi;have h1:=Ug h1;have h2:=Ug h2;rw[show Rn.intOf (i6 (n:Int))=some (n:Int) from rfl,bW,bW,bW];have w1:within (n:Int) room=some n:=by show(match Tv n room with|true=>some n|false=>none)=_;rw[(blt_eq _ _).mpr (show n<room by unfold room;omega)]
  have w2:within (n:Int) (n+1)=some n:=by show(match Tv n (n+1) with|true=>some n|false=>none)=_;rw[(blt_eq _ _).mpr<|UT n]
  rw[w1,bW,w2,bW,hz,bW,h1,h2];rw[show(and (Tw (n*24) room)<|and (Tw (n*1) top)<|and (or (Tx (n*1) 0)<|not<|Tx (AV.slice none 0<|.known 0).cells.length 0)<|(AV.slice none 0<|.known 0).cells.all AV.bM)=true by rw[aI.2 (show n*24<=room by unfold room;omega),aI.2 (show n*1<=top by unfold top;omega)];show(and true<|and true<|and (or (Tx (n*1) 0) true) true)=true;cases Tx (n*1) 0<;>rfl,dR];rw[M.bO<|Ps (by rw[hs];unfold top;omega),hs];show R.ok _ _=_;unfold Tk HM;rw[hs];rfl
abbrev ng:gz:=fun _=>[]
theorem aic{r:Nat->Nat}{n:Nat}(hn:n<=1000):lh r (Mx n)<|mZ n<|mY ng:=fun ρ N o k=>by
 show OR _ _ (bt<|p9 n<|mY ng) _;unfold bt;simp only[OR] at k ⊢;obtain⟨c,e,rfl,k1,k2,k3⟩:=k;refine⟨c,e,rfl,k1,by rw[BB];omega,fun i hi=>?_⟩;rw[BB] at hi;obtain⟨x,v,a1,a2,a3,a4⟩:=k3 i ae;have hx:x= .slice none 0 (.known 0):=by have a1:cellAt .nil [.slice none 0<|.known 0] i=some x:=a1;unfold cellAt at a1;rw[show(Tr.nil:Tr AV).get i=none from Tr.get_nil i] at a1;have a1:[AV.slice none 0<|.known 0][i % 1]? =some x:=a1;rw[Nat.mod_one] at a1;cases a1;rfl
 subst hx;refine⟨.slice none 0<|.known 0,v,?_,a2,a3,aZ.rZ ρ v a4⟩;unfold cellAt;rw[Tr.rR _ _ _ _ Mi,if_pos (by rw[BB];omega),Uk,GC hi];rfl
theorem Zw{N:Nat}{t:Tr AV}{z:List AV}{l0:List<|Nat×AV}(hq:∀r,dT [] r (.cells N t z)<|mZ G<|mY ng)(hl:∀r,r=rX 270 270 270 270 272->(∀k,top<=k->r k=k)->VZ r l0 l1):
 fy FU 270 272 l0 (aq++([(270,some<|bt<|dH S),(271,some<|.cells N t z)]++pT fun _=>none)) l1 (Mc S G ng []) 400:=
 S6 ae ae ae (fun _=>rfl) (fun r hr ht=>(hl r hr ht).at) (fun r hr ht=>four ⟨by omega,fun e=>by omega,lI (mi 0) (ra hr) lM (CA ht) rfl⟩ ⟨by show _/\_;omega,fun e=>by simp only at e;omega,lI (mi 1) (rk hr) lM (hq r) rfl⟩ ⟨by show _/\_;omega,fun e=>by simp only at e;omega,fun y e=>by cases e⟩ ⟨by show _/\_;omega,fun e=>by simp only at e;omega,fun y e=>by cases e⟩ fun j hj=>⟨by show _/\_;omega,fun e=>by simp only at e;omega,fun y e=>by cases e⟩)
abbrev dQ(s:AS):Prop:=nu 270 dk dK s=true
abbrev dG:AS->AS:=de 270 dk dK
abbrev oQ(l:List Int)(s:AS):Prop:=nu 270 dk dK s=true/\Tv 272 (de 270 dk dK s).nx=true/\(de 270 dk dK s).h.get 272=some (az encI l)
abbrev oG:AS->AS:=fun s=>aU 272<|de 270 dk dK s
theorem Gc{l:List α}:(ar enc l).hi=true:=aI.2<|cR _
theorem doN(hs:sp L 7=some (qi false 270 dK dk<|aK o6)){mem:List Int}{ra:List<|Int×Int}(h:aK o6 [ar aM tx,ar encI mem,nl]=some (mC y b ra wa mm st))(t:T):
 (∀s,dQ s->ba pg (sp L) FU 6 (.fn 7) [ar aM tx,ar encI mem,nl] s= .ok (mC y b ra wa mm st) (dG s))/\true=true/\T:=by
 refine⟨fun s q=>?_,rfl,t⟩;show jv pg (sp L) 7 (ba pg (sp L) FU 5) [ar aM tx,ar encI mem,nl] s=_;rw[p6 hs];show nH 270 dK dk (aK o6) (ba pg (sp L) FU 5) [ar aM tx,ar encI mem,nl] s=_;exact amf (eV h (by rw[TS,Gc,TS,Gc];rfl) aib) q
theorem doO(hs:sp L 7=some (qi false 270 dK dk<|aK o6)){mem l:List Int}{ra:List<|Int×Int}(h:aK o6 [ar aM tx,ar encI mem,.ab (am (l.map encI).flatten) 0 l.length]=some (mC y b ra wa mm st))(hl:l.length<=100000)(t:T):
 (∀s,oQ l s->ba pg (sp L) FU 6 (.fn 7) [ar aM tx,ar encI mem,sN 272 l] s= .ok (mC y b ra wa mm st) (oG s))/\(true=true/\true=true/\some (az encI l)=some (az encI l))/\T:=by
 refine⟨fun s q=>?_,⟨rfl,rfl,rfl⟩,t⟩;obtain⟨q1,q2,q3⟩:=q;refine acF (n:=5) hs (cs:=(l.map encI).flatten) ?_ q1 q2 cf ?_ (eI.all l) h
 ·rw[Gc,Gc];rfl
 ·rw[q3];have e:(l.map encI).flatten.length=l.length:=by rw[eI.length,Va]
  show(match Tw (0+l.length) (l.map encI).flatten.length with|true=>ly (Tr.fill (l.map encI).flatten 0 .nil) [] l.length 0|false=>none)=_;rw[e,aI.2 (show 0+l.length<=l.length by omega)];show ly (Tr.fill (l.map encI).flatten 0 .nil) [] l.length 0=_;rw[Je (by rw[e];unfold top;omega) _ _ ae,T8, ←e,UM]
theorem cW(G:Nat)(rs:gz)(g:Nat)(p:List Int)(x:A)(h:g<G:=by omega)(hG:G<=1000:=by omega):(0:Int)<=(g:Int)/\(g:Int)<(G:Int)/\cellsOf (some<|mZ G<|cX (mY rs) g<|eG 272 p) ((g:Int).toNat*1) 1=some [eG 272 p]/\A:=⟨by omega,by omega,ajS hG h sg,x⟩
theorem sW(G:Nat)(rs:gz)(g:Nat)(p:List Int)(n:Nat)(l:List Int)(x:A)(h:g<G:=by omega)(hG:G<=1000:=by omega):(0:Int)<=(g:Int)/\(g:Int)<(G:Int)/\qf (some<|mZ G<|cX (mY rs) g<|eG 272 p) ((g:Int).toNat*1) [sN n l]=some (iC G rs g p<|sN n l)/\A:=⟨by omega,by omega,ajT hG h rfl,x⟩
theorem aW{l:List Int}(c:Int)(h:l.length<=100000){X:Prop}(x:X):l.length=l.length/\l.length=l.length/\some (az encI l)=some (az encI l)/\some (ah.cells (encI c).length (Tr.fill (encI c) 0 .nil) [])=some (ah.cells (encI c).length (Tr.fill (encI c) 0 .nil) [])/\(∀x,(encI x).length=1/\(encI x).all AV.bM=true)/\2*(l.length+1)*8+4096*8<=room/\(l.length+1)*1<=Rn.top/\X:=ap1 encI l c (fun x=>⟨rfl,rfl⟩) (by unfold room;omega) dV x
theorem QC{f:Nat->Nat}{l:List Int}(h:l.length<=1000000):∀y,sU l=some y->y.iA=true/\dT [] f y y:=fun y e=>by
 cases l with
 |nil=>cases e
 |cons x l=>cases e;exact⟨rfl,Rc h⟩
theorem wkI{g nx:Nat}{rs:gz}{p out:List Int}{ex:List<|Nat×Option ah}{l0:List<|Nat×AV}(hn:400<=nx/\nx<1000)(hp:p.length<=1000000)(hb:Bd rs)(ho:out.length<=1000000)(hG:G<=6)(hl:∀f:Nat->Nat,(∀k,k<nx->f k=k)->(∀k,top<=k->f k=k)->VZ f l0 l1)(hx:∀f:Nat->Nat,(∀k,top<=k->f k=k)->∀q∈ex,q.1<nx/\∀y,q.2=some y->y.iA=true/\dT [] f y y):
 fy FU 270 nx l0 (Mo S G rs g p out++ex) l1 (Mo S G rs g p out++ex) nx:=by
 refine Fe (fz:=[]) ae (Tz _) dV (fun f hf ht=>(hl f hf ht).at) (fun f hf ht q hq=>?_) (fun q hq=>by cases hq);have key:q.1<nx/\∀y,q.2=some y->y.iA=true/\dT [] f y y:=by
  rcases TP.1 hq with hq|hq
  ·rcases TP.1 hq with hq|hq
   ·obtain⟨a,b⟩:=yN (fz:=[]) (fun k hk=>hf k ae) q hq;exact⟨by omega,b⟩
   ·have hc:dT [] f (mZ G<|cX (mY rs) g<|eG 272 p)<|mZ G<|cX (mY rs) g<|eG 272 p:=Kq (fun j hj=>by
     by_cases z:j=g
     ·subst z;rw[sg];exact Cm fun _=>hf _ ae
     ·rw[si z];exact Cm fun _=>hf _ ae) (fun j hj=>by
     by_cases z:j=g
     ·subst z;rw[sg];exact Pg _ _
     ·rw[si z];exact PW rs j) ae
    refine four (P:=fun q=>q.1<nx/\∀y,q.2=some y->y.iA=true/\dT [] f y y) ⟨by show 270<nx;omega,fun y e=>by cases e;exact⟨rfl,CA ht⟩⟩ ⟨by show 271<nx;omega,fun y e=>by cases e;exact⟨rfl,hc⟩⟩ ⟨by show 272<nx;omega,QC hp⟩ ⟨by show 273<nx;omega,QC ho⟩ (fun j hj=>⟨by show 300+j<nx;omega,fun y e=>?_⟩) q hq
    ·have e:cX (DH rs) g none j=some y:=e;by_cases z:j=g
     ·rw[z,sg] at e;cases e
     ·rw[si z] at e;exact QC (hb j) y e
  ·exact hx f ht q hq
 refine⟨key.1,fun y hy=>?_⟩;obtain⟨a,b⟩:=key.2 y hy;exact⟨a,y,by rw[←hy];exact hq,fc.refl _,b⟩
end Ik
namespace My
open cj cY wU FA HE ve xf
def jM(S:cr)(n:Int)(i:Nat):List<|Nat×AV:=[(1,.ptr<|some (270,0)),(3,.int .i64 n),(4,.int .i64 (i:Int))]
def KH:List Item:=[.code<|aL pg 4 [1,1,1,0,1,0,0],.inLoop<|aL pg 4 [1,1,1,0,1,0,0],.inBlock 0,.code<|aL pg 4 [1,1,1,1]]
def ep(S:cr)(n:Int)(i:Nat):AF:=⟨4,aA<|jM S n i,(max Tryd.f4.ntmps 1),KH,[],none⟩
def vS(S:cr)(n:Int)(i:Nat)(k:Nat):List<|Nat×AV:=[(1,.ptr<|some (270,0)),(3,.int .i64 n),(4,.int .i64 (i:Int)),(5,.int .i64 (k:Int))]
def KK:List Item:=[.code<|aL pg 4 [1,1,1,0,1,0,0,1,0,0,1,1,0,0],.inLoop<|aL pg 4 [1,1,1,0,1,0,0,1,0,0,1,1,0,0],.inBlock 2,.inBlock 1,.code<|aL pg 4 [1,1,1,0,1,0,0,1,1],.inLoop<|aL pg 4 [1,1,1,0,1,0,0],.inBlock 0,.code<|aL pg 4 [1,1,1,1]]
def nG(S:cr)(n:Int)(i:Nat)(k:Nat):AF:=⟨4,aA<|vS S n i k,(max Tryd.f4.ntmps 1),KK,[],none⟩
abbrev fW(B:aE)(y:Bool)(fr:AF)(s:AS):Prop:=Sm B Tryd.f4 (.bool y) fr s
section
variable {B:aE} {y:Bool} {S:cr} {n m:Int} {i k:Nat} (mc:Mt [sC 22] B)
include mc
theorem d1(h:S.init.length>100):fW B true (sF 4 Tryd.f4 [.agg<|dH S])<|aj aq 270:=wS mc (R:=fun r0 _=>r0= .bool true) (.st 4<|.rg<|.go 3<|.fk (.go 6<|.en<|.rt 5<|.no) .no)<|tY ((S.init.length:Int)>100) uV
theorem d2(h0:¬S.init.length>100)(h:S.aX.length>20):fW B true (sF 4 Tryd.f4 [.agg<|dH S])<|aj aq 270:=wS mc (R:=fun r0 _=>r0= .bool true) (.st 4<|.rg<|.go 3<|.fk .no<|.go 4<|.fk (.go 1<|.en<|.rt 5<|.no) .no)<|tN ((S.init.length:Int)>100)<|tY ((S.aX.length:Int)>20) uV
theorem d3(h0:¬S.init.length>100)(h:¬S.aX.length>20)(H:fW B y (ep S (0)<|0)<|aj (mb S) 271):fW B y (sF 4 Tryd.f4 [.agg<|dH S])<|aj aq 270:=vC mc H (.st 4<|.rg<|.go 3<|.fk .no<|.go 4<|.fk .no<|.go 1<|.en<|.st 9<|.ls (jM S (0)<|0) (mb S) 271 .no)<|tN ((S.init.length:Int)>100)<|tN ((S.aX.length:Int)>20) (show tO (jM S (0)<|0) (mb S) (ep S (0)<|0) (aj (mb S) 271) from vN)
theorem h3(hi:S.aX.length<=i):fW B false (ep S n i)<|aj (mb S) 271:=wS mc (R:=fun r0 _=>r0= .bool false) (.st 2<|.rg<|.go 4<|.fk .no<|.en<|.rt 6<|.no)<|tN ((i:Int)<(S.aX.length:Int))<|rX<|AV.bool false
variable (hi:i<S.aX.length)
include hi
theorem h1(h:(bF S i).length>20):fW B true (ep S n i)<|aj (mb S) 271:=wS mc (R:=fun r0 _=>r0= .bool true) (.st 2<|.rg<|.go 4<|.fk (.en<|.st 6<|.rg<|.go 3<|.cm<|.cn ([ar iI<|bF S i])<|.go 1<|.fk (.en<|.rt 5<|.no) .no) .no)<|tY ((i:Int)<(S.aX.length:Int))<|lJ S i<|tY (((bF S i).length:Int)>20) uV
theorem h2(h:¬(bF S i).length>20)(H:fW B y (nG S n i<|0)<|aj (mb S) 271):fW B y (ep S n i)<|aj (mb S) 271:=vC mc H (.st 2<|.rg<|.go 4<|.fk (.en<|.st 6<|.rg<|.go 3<|.cm<|.cn ([ar iI<|bF S i])<|.go 1<|.fk .no<|.en<|.st 6<|.ls (vS S n i<|0) (mb S) 271 .no) .no)<|tY ((i:Int)<(S.aX.length:Int))<|lJ S i<|tN (((bF S i).length:Int)>20) (show tO (vS S n i<|0) (mb S) (nG S n i<|0) (aj (mb S) 271) from vN)
theorem k1(hk:k<(bF S i).length)(hm:bc (aK<|py 22) [ar aM<|fF S i k,.int .i64<|.ofNat 0]=some (.tuple [.int .i64 m,.bool true]))(hn:(0<=n/\n<=4000)/\0<=m/\m<=3000):fW B true (nG S n i k)<|aj (mb S) 271:=wS mc (R:=fun r0 _=>r0= .bool true) (.st 2<|.rg<|.go 4<|.cm<|.cn ([ar iI<|bF S i])<|.go 1<|.fk (.en<|.st 5<|.rg<|.go 3<|.cm<|.cn ([ar iI<|bF S i])<|.go 1<|.cm<|.cn ([ar aM<|fF S i k])<|.kn (.tuple [.int .i64 m,.bool true])<|.go 5<|.en<|.st 1<|.rg<|.go 2<|.vl (i6<|n+m)<|.go 1<|.en<|.rt 7<|.no) .no)<|lJ S i<|tY ((k:Int)<((bF S i).length:Int))<|lJ S i<|zC S i k<|ai (hm)<|ai (wI<|n+m) uV
theorem k2(hk:k<(bF S i).length)(hm:bc (aK<|py 22) [ar aM<|fF S i k,.int .i64<|.ofNat 0]=some (.tuple [.int .i64 m,.bool false]))(hn:(0<=n/\n<=4000)/\0<=m/\m<=3000)(h:n+m>4000):fW B true (nG S n i k)<|aj (mb S) 271:=wS mc (R:=fun r0 _=>r0= .bool true) (.st 2<|.rg<|.go 4<|.cm<|.cn ([ar iI<|bF S i])<|.go 1<|.fk (.en<|.st 5<|.rg<|.go 3<|.cm<|.cn ([ar iI<|bF S i])<|.go 1<|.cm<|.cn ([ar aM<|fF S i k])<|.kn (.tuple [.int .i64 m,.bool false])<|.go 5<|.en<|.st 1<|.rg<|.go 2<|.vl (i6<|n+m)<|.go 1<|.en<|.st 1<|.rg<|.go 3<|.fk (.go 1<|.en<|.rt 5<|.no) .no) .no)<|lJ S i<|tY ((k:Int)<((bF S i).length:Int))<|lJ S i<|zC S i k<|ai (hm)<|ai (wI<|n+m)<|tY (n+m>4000) uV
theorem k3(hl:(bF S i).length<=20)(hk:k<(bF S i).length)(hm:bc (aK<|py 22) [ar aM<|fF S i k,.int .i64<|.ofNat 0]=some (.tuple [.int .i64 m,.bool false]))(hn:(0<=n/\n<=4000)/\0<=m/\m<=3000)(h:¬n+m>4000)(H:fW B y (nG S (n+m) i<|k+1)<|aj (mb S) 271):fW B y (nG S n i k)<|aj (mb S) 271:=vC mc H (.st 2<|.rg<|.go 4<|.cm<|.cn ([ar iI<|bF S i])<|.go 1<|.fk (.en<|.st 5<|.rg<|.go 3<|.cm<|.cn ([ar iI<|bF S i])<|.go 1<|.cm<|.cn ([ar aM<|fF S i k])<|.kn (.tuple [.int .i64 m,.bool false])<|.go 5<|.en<|.st 1<|.rg<|.go 2<|.vl (i6<|n+m)<|.go 1<|.en<|.st 1<|.rg<|.go 3<|.fk .no<|.go 1<|.en<|.st 3<|.rg<|.go 1<|.vl (i6 ((k+1:Nat):Int))<|.go 1<|.en<|.st 1<|.ls (vS S (n+m) i<|k+1) (mb S) 271 .no) .no)<|lJ S i<|tY ((k:Int)<((bF S i).length:Int))<|lJ S i<|zC S i k<|ai (hm)<|ai (wI<|n+m)<|tN (n+m>4000)<|ai (wN ((k:Int)+1)<|k+1) (show tO (vS S (n+m) i<|k+1) (mb S) (nG S (n+m) i<|k+1) (aj (mb S) 271) from vN)
theorem k4(hs:S.aX.length<=20)(hk:(bF S i).length<=k)(H:fW B y (ep S n<|i+1)<|aj (mb S) 271):fW B y (nG S n i k)<|aj (mb S) 271:=vC mc H (.st 2<|.rg<|.go 4<|.cm<|.cn ([ar iI<|bF S i])<|.go 1<|.fk .no<|.en<|.st 3<|.rg<|.go 1<|.vl (i6 ((i+1:Nat):Int))<|.go 1<|.en<|.st 1<|.ls (jM S n<|i+1) (mb S) 271 .no)<|lJ S i<|tN ((k:Int)<((bF S i).length:Int))<|ai (wN ((i:Int)+1)<|i+1) (show tO (jM S n<|i+1) (mb S) (ep S n<|i+1) (aj (mb S) 271) from vN)
end
def oK:List (List St)->Int->Int×Bool
 |[],n=>(n,false)
 |t::l,n=>if(cK 22 t).2=true\/n+(cK 22 t).1>4000 then(0,true) else oK l (n+(cK 22 t).1)
def AT:List (List<|List St)->Int->Bool
 |[],_=>false
 |t::l,n=>if t.length>20\/(oK t n).2=true then true else AT l (oK t n).1
def CB(S:cr):Bool:=decide (S.init.length>100)||(decide (S.aX.length>20)||AT S.aX 0)
theorem Xq:∀(l:List<|List St) (n:Int),0<=n/\n<=4000->(oK l n).2=false->(0<=(oK l n).1/\(oK l n).1<=4000)/\∀t∈l,(cK 22 t).2=false
 |[],n,h,_=>⟨h,fun t ht=>by cases ht⟩
 |t::l,n,h,e=>by
  unfold oK at e ⊢;split at e
  ·cases e
  ·rename_i q;rw[if_neg q];have:=uh 22 t;obtain⟨h1,h2⟩:=Xq l _ ae e;refine⟨h1,fun u hu=>?_⟩;rcases Ty.1 hu with rfl|hu
   ·cases z:(cK 22 u).2 with
    |false=>rfl
    |true=>exact absurd (.inl z) q
   ·exact h2 u hu
theorem Xr:∀(l:List<|List<|List St) (n:Int),0<=n/\n<=4000->AT l n=false->∀t∈l,t.length<=20/\∀u∈t,(cK 22 u).2=false
 |[],_,_,_,t,ht=>by cases ht
 |t::l,n,h,e,u,hu=>by
  unfold AT at e;split at e
  ·cases e
  ·rename_i q;have e0:(oK t n).2=false:=by
    cases z:(oK t n).2 with
    |false=>rfl
    |true=>exact absurd (.inr z) q
   obtain⟨h1,h2⟩:=Xq t n h e0;rcases Ty.1 hu with rfl|hu
   ·exact⟨by omega,h2⟩
   ·exact Xr l _ h1 e u hu
theorem ae5{S:cr}{i:Nat}(h:i<S.aX.length):S.aX.drop i=bF S i::S.aX.drop (i+1):=by rw[U6 h];congr 1;unfold bF;rw[T9,TE h];rfl
theorem ae6{S:cr}{i k:Nat}(h:k<(bF S i).length):(bF S i).drop k=fF S i k::(bF S i).drop (k+1):=by rw[U6 h];congr 1;unfold fF;rw[T9,TE h];rfl
theorem aj0(l:List St):bc (aK<|py 22) [ar aM l,.int .i64<|.ofNat 0]=some (.tuple [.int .i64 (cK 22 l).1,.bool (cK 22 l).2]):=eV (eQ py.bJ ⟨l,by unfold ar;rw[uC];rfl,by omega,rfl⟩) (by rw[TS,show(ar aM l).hi=true from aI.2<|cR _];rfl) rfl
theorem Il{B:aE}{S:cr}{i:Nat}(mc:Mt [sC 22] B)(hi:i<S.aX.length)(hs:S.aX.length<=20)(hl:(bF S i).length<=20)(H:∀n',0<=n'/\n'<=4000->fW B (AT (S.aX.drop<|i+1) n') (ep S n'<|i+1) (aj (mb S) 271)):
 ∀(r k:Nat) (n:Int),(bF S i).length - k=r->(0<=n/\n<=4000)->fW B (if(oK ((bF S i).drop k) n).2=true then true else AT (S.aX.drop<|i+1) (oK ((bF S i).drop k) n).1) (nG S n i k) (aj (mb S) 271)
 |0,k,n,h,hn=>by
  have hk:(bF S i).length<=k:=by omega
  rw[Wm hk];exact k4 mc hi hs hk<|H n hn
 |r+1,k,n,h,hn=>by
  have hk:k<(bF S i).length:=by omega
  rw[ae6 hk];have hm:=aj0<|fF S i k;have hb:=uh 22<|fF S i k;by_cases q:(cK 22<|fF S i k).2=true
  ·rw[show oK (fF S i k::(bF S i).drop (k+1)) n=(0,true) from if_pos<|.inl q,if_pos rfl];rw[q] at hm;exact k1 mc hi hk hm ⟨hn,hb⟩
  ·have q0:(cK 22<|fF S i k).2=false:=by
    cases z:(cK 22<|fF S i k).2 with
    |false=>rfl
    |true=>exact absurd z q
   rw[q0] at hm;by_cases q2:n+(cK 22<|fF S i k).1>4000
   ·rw[show oK (fF S i k::(bF S i).drop (k+1)) n=(0,true) from if_pos<|.inr q2,if_pos rfl];exact k2 mc hi hk hm ⟨hn,hb⟩ q2
   ·rw[show oK (fF S i k::(bF S i).drop (k+1)) n=oK ((bF S i).drop<|k+1) (n+(cK 22<|fF S i k).1) from if_neg (by intro h;exact h.elim q q2)];exact k3 mc hi hl hk hm ⟨hn,hb⟩ q2<|Il mc hi hs hl H r (k+1) _ ae ae
theorem AU{B:aE}{S:cr}(mc:Mt [sC 22] B)(hs:S.aX.length<=20):
 ∀(r i:Nat) (n:Int),S.aX.length - i=r->(0<=n/\n<=4000)->fW B (AT (S.aX.drop i) n) (ep S n i) (aj (mb S) 271)
 |0,i,n,h,hn=>by
  have hi:S.aX.length<=i:=by omega
  rw[Wm hi];exact h3 mc hi
 |r+1,i,n,h,hn=>by
  have hi:i<S.aX.length:=by omega
  rw[ae5 hi];unfold AT;by_cases q:(bF S i).length>20
  ·rw[if_pos<|.inl q];exact h1 mc hi q
  ·have:=Il mc hi hs ae (fun n' h'=>AU mc hs r (i+1) n' ae h') _ 0 n rfl hn;rw[T8] at this;refine h2 mc hi q ?_;by_cases q2:(oK (bF S i) n).2=true
   ·rw[if_pos q2] at this;rw[if_pos<|.inr q2];exact this
   ·rw[if_neg q2] at this;rw[if_neg (by intro h;exact h.elim q q2)];exact this
def yO(args:List AV)(v:AV):Prop:=∃S:cr,args=[.agg<|dH S]/\v= .bool (CB S)
theorem yO.bJ(args:List AV)(v v':AV)(h:yO args v)(h':yO args v'):v=v':=by
 obtain⟨S,rfl,rfl⟩:=h;obtain⟨S',e,rfl⟩:=h';injection e with e _
 injection e with e
 rw[Pf e]
def Az:FuncId×KE:=(4,.val<|aK yO)
theorem ae7(hP:bY pg){L:bV}(h:aY L):aY<|Az::L:=by
 refine gu hP h (anj hP 22 dj) Tryd.func4 fun args v e=>?_;obtain⟨S,rfl,rfl⟩:=fQ e;refine⟨aI.1 aV,fun B mc=>?_⟩;rw[←gX];unfold CB;by_cases q1:S.init.length>100
 ·rw[decide_eq_true q1];exact d1 mc q1
 ·by_cases q2:S.aX.length>20
  ·rw[decide_eq_false q1,decide_eq_true q2];exact d2 mc q1 q2
  ·rw[decide_eq_false q1,decide_eq_false q2];have:=AU (B:=B) (S:=S) mc ae _ 0 0 rfl ae;rw[T8] at this;exact d3 mc q1 q2 this
theorem Xs{S:cr}(h:CB S=false):S.init.length<=100/\S.aX.length<=20/\∀t∈S.aX,t.length<=20/\∀u∈t,(cK 22 u).2=false:=by unfold CB at h;rw[Bool.or_eq_false_iff,Bool.or_eq_false_iff,decide_eq_false_iff_not,decide_eq_false_iff_not] at h;exact⟨by omega,by omega,Xr _ 0 ae h.2.2⟩
end My
namespace Im
open cj cY gw iU uL wU ve xf gi xg
variable {h:Int} {b:Bool} {L:bV}
abbrev tM(B:aE)(y:Bool)(fr:AF)(s:AS):Prop:=Sm B Tryd.f22 (.bool y) fr s
abbrev mG(B:aE)(y:AV)(fr:AF)(s:AS):Prop:=Sm B Tryd.f12 y fr s
def jZ(n lo hi:Int):Bool:=decide<|lo<=n/\n<=hi
def Gd(args:List AV)(v:AV):Prop:=∃n lo hi:Int,args=[.int .i64 n,.int .i64 lo,.int .i64 hi]/\v= .bool (jZ n lo hi)
theorem Gd.bJ(args:List AV)(v v':AV)(h:Gd args v)(h':Gd args v'):v=v':=by
 obtain⟨n,l,h,rfl,rfl⟩:=h;obtain⟨n',l',h',e,rfl⟩:=h';injection e with e1 e;injection e with e2 e;injection e with e3 _
 injection e1 with _ e1;injection e2 with _ e2;injection e3 with _ e3
 subst e1;subst e2;subst e3;rfl
def Nr:FuncId×KE:=(22,.val<|aK Gd)
theorem np{n lo hi:Int}(h:jZ n lo hi=b):bc (aK Gd) [.int .i64 n,.int .i64 lo,.int .i64 hi]=some (.bool b):=eV (eQ Gd.bJ ⟨n,lo,hi,rfl,by rw[h]⟩) rfl rfl
section
variable {B:aE} {n lo hi:Int} (mc:Mt [] B)
include mc
theorem w1(h:¬n>=lo):tM B false (sF 22 Tryd.f22 [.int .i64 n,.int .i64 lo,.int .i64 hi])<|aj aq 270:=wS mc (R:=fun r0 _=>r0= .bool false) (.st 3<|.rg<|.go 2<|.fk .no<|.go 6<|.en<|.rt 2<|.no)<|tN (n>=lo)<|rX<|AV.bool false
theorem w2(h:n>=lo)(h2:¬n<=hi):tM B false (sF 22 Tryd.f22 [.int .i64 n,.int .i64 lo,.int .i64 hi])<|aj aq 270:=wS mc (R:=fun r0 _=>r0= .bool false) (.st 3<|.rg<|.go 2<|.fk (.go 3<|.fk .no<|.go 2<|.en<|.rt 2<|.no) .no)<|tY (n>=lo)<|tN (n<=hi)<|rX<|AV.bool false
theorem w3(h:n>=lo)(h2:n<=hi):tM B true (sF 22 Tryd.f22 [.int .i64 n,.int .i64 lo,.int .i64 hi])<|aj aq 270:=wS mc (R:=fun r0 _=>r0= .bool true) (.st 3<|.rg<|.go 2<|.fk (.go 3<|.fk (.go 2<|.en<|.rt 2<|.no) .no) .no)<|tY (n>=lo)<|tY (n<=hi) uV
end
theorem aid(hP:bY pg)(h:aY L):aY<|Nr::L:=by
 refine gu hP h dj Tryd.func22 fun args v e=>?_;obtain⟨n,lo,hi,rfl,rfl⟩:=fQ e;refine⟨aI.1 aV,fun B mc=>?_⟩;rw[←gX];show tM B (jZ n lo hi) _ _;by_cases q:n>=lo
 ·by_cases q2:n<=hi
  ·rw[show jZ n lo hi=true from decide_eq_true ⟨q,q2⟩];exact w3 mc q q2
  ·rw[show jZ n lo hi=false from decide_eq_false fun h=>q2 h.2];exact w2 mc q q2
 ·rw[show jZ n lo hi=false from decide_eq_false fun h=>q h.1];exact w1 mc q
def jM(S:cr)(i:Nat):List<|Nat×AV:=[(45,ar wT S.aX),(46,.int .i64 (S.aX.length:Int)),(47,.int .i64 (i:Int))]
def KH:List Item:=[.code<|aL pg 12 [1,1,1,1,0,1,0,0],.inLoop<|aL pg 12 [1,1,1,1,0,1,0,0],.inBlock 0,.code<|aL pg 12 [1,1,1,1,1]]
def ep(S:cr)(i:Nat):AF:=⟨12,aA<|jM S i,(max Tryd.f12.ntmps 1),KH,[],none⟩
def vS(S:cr)(i:Nat)(k:Nat):List<|Nat×AV:=[(45,ar wT S.aX),(46,.int .i64 (S.aX.length:Int)),(47,.int .i64 (i:Int)),(54,ar iI<|bF S i),(55,.int .i64 ((bF S i).length:Int)),(56,.int .i64 (k:Int))]
def KK:List Item:=[.code<|aL pg 12 [1,1,1,1,0,1,0,0,1,1,0,0,1,1,1,0,0],.inLoop<|aL pg 12 [1,1,1,1,0,1,0,0,1,1,0,0,1,1,1,0,0],.inBlock 2,.inBlock 1,.code<|aL pg 12 [1,1,1,1,0,1,0,0,1,1,1],.inLoop<|aL pg 12 [1,1,1,1,0,1,0,0],.inBlock 0,.code<|aL pg 12 [1,1,1,1,1]]
def nG(S:cr)(i:Nat)(k:Nat):AF:=⟨12,aA<|vS S i k,(max Tryd.f12.ntmps 1),KK,[],none⟩
section
variable {B:aE} {y:AV} {S:cr} {i k:Nat} (mc:Mt [Nr,CS] B)
include mc
theorem c0(h0:jZ (S.init.length:Int) 1 32=false):mG B (i6 4) (sF 12 Tryd.f12 [.agg<|dH S])<|aj aq 270:=wS mc (R:=fun r0 _=>r0=i6 4) (.st 8<|.rg<|.go 2<|.kn (.bool<|false)<|.go 29<|.en<|.rt 5<|.no)<|ai (np h0)<|rX<|i6 4
theorem c1(h0:jZ (S.init.length:Int) 1 32=true)(h1:jZ S.st 1 (S.init.length:Int)=false):mG B (i6 4) (sF 12 Tryd.f12 [.agg<|dH S])<|aj aq 270:=wS mc (R:=fun r0 _=>r0=i6 4) (.st 8<|.rg<|.go 2<|.kn (.bool<|true)<|.go 6<|.kn (.bool<|false)<|.go 22<|.en<|.rt 5<|.no)<|ai (np h0)<|ai (np h1)<|rX<|i6 4
theorem c2(h0:jZ (S.init.length:Int) 1 32=true)(h1:jZ S.st 1 (S.init.length:Int)=true)(h2:jZ S.cl 0 1099511627776=false):mG B (i6 4) (sF 12 Tryd.f12 [.agg<|dH S])<|aj aq 270:=wS mc (R:=fun r0 _=>r0=i6 4) (.st 8<|.rg<|.go 2<|.kn (.bool<|true)<|.go 6<|.kn (.bool<|true)<|.go 6<|.kn (.bool<|false)<|.go 15<|.en<|.rt 5<|.no)<|ai (np h0)<|ai (np h1)<|ai (np h2)<|rX<|i6 4
theorem c3(h0:jZ (S.init.length:Int) 1 32=true)(h1:jZ S.st 1 (S.init.length:Int)=true)(h2:jZ S.cl 0 1099511627776=true)(h3:jZ S.tr 1 1000=false):mG B (i6 4) (sF 12 Tryd.f12 [.agg<|dH S])<|aj aq 270:=wS mc (R:=fun r0 _=>r0=i6 4) (.st 8<|.rg<|.go 2<|.kn (.bool<|true)<|.go 6<|.kn (.bool<|true)<|.go 6<|.kn (.bool<|true)<|.go 6<|.kn (.bool<|false)<|.go 8<|.en<|.rt 5<|.no)<|ai (np h0)<|ai (np h1)<|ai (np h2)<|ai (np h3)<|rX<|i6 4
theorem c4(h0:jZ (S.init.length:Int) 1 32=true)(h1:jZ S.st 1 (S.init.length:Int)=true)(h2:jZ S.cl 0 1099511627776=true)(h3:jZ S.tr 1 1000=true)(h:S.aX.length>6):mG B (i6 4) (sF 12 Tryd.f12 [.agg<|dH S])<|aj aq 270:=wS mc (R:=fun r0 _=>r0=i6 4) (.st 8<|.rg<|.go 2<|.kn (.bool true)<|.go 6<|.kn (.bool true)<|.go 6<|.kn (.bool true)<|.go 6<|.kn (.bool true)<|.go 6<|.fk (.go 1<|.en<|.rt 5<|.no) .no)<|ai (np h0)<|ai (np h1)<|ai (np h2)<|ai (np h3)<|tY ((S.aX.length:Int)>6)<|rX<|i6 4
theorem c5(h0:jZ (S.init.length:Int) 1 32=true)(h1:jZ S.st 1 (S.init.length:Int)=true)(h2:jZ S.cl 0 1099511627776=true)(h3:jZ S.tr 1 1000=true)(h:¬S.aX.length>6)(H:mG B y (ep S<|0)<|aj (mb S) 271):mG B y (sF 12 Tryd.f12 [.agg<|dH S])<|aj aq 270:=vC mc H (.st 8<|.rg<|.go 2<|.kn (.bool true)<|.go 6<|.kn (.bool true)<|.go 6<|.kn (.bool true)<|.go 6<|.kn (.bool true)<|.go 6<|.fk .no<|.go 1<|.en<|.st 7<|.ls (jM S<|0) (mb S) 271 .no)<|ai (np h0)<|ai (np h1)<|ai (np h2)<|ai (np h3)<|tN ((S.aX.length:Int)>6) (show tO (jM S<|0) (mb S) (ep S<|0) (aj (mb S) 271) from vN)
theorem h3(hi:S.aX.length<=i):mG B (i6 0) (ep S i)<|aj (mb S) 271:=wS mc (R:=fun r0 _=>r0=i6 0) (.st 1<|.rg<|.fk .no<|.en<|.rt 7<|.no)<|tN ((i:Int)<(S.aX.length:Int))<|rX<|i6 0
theorem h1(hi:i<S.aX.length)(h:(bF S i).length>6):mG B (i6 4) (ep S i)<|aj (mb S) 271:=wS mc (R:=fun r0 _=>r0=i6 4) (.st 1<|.rg<|.fk (.en<|.st 6<|.rg<|.cm<|.cn ([ar iI<|bF S i])<|.go 1<|.en<|.st 2<|.rg<|.go 2<|.fk (.en<|.rt 5<|.no) .no) .no)<|tY ((i:Int)<(S.aX.length:Int))<|lJ S i<|tY (((bF S i).length:Int)>6)<|rX<|i6 4
theorem h2(hi:i<S.aX.length)(h:¬(bF S i).length>6)(H:mG B y (nG S i<|0)<|aj (mb S) 271):mG B y (ep S i)<|aj (mb S) 271:=vC mc H (.st 1<|.rg<|.fk (.en<|.st 6<|.rg<|.cm<|.cn ([ar iI<|bF S i])<|.go 1<|.en<|.st 2<|.rg<|.go 2<|.fk .no<|.en<|.st 6<|.ls (vS S i<|0) (mb S) 271 .no) .no)<|tY ((i:Int)<(S.aX.length:Int))<|lJ S i<|tN (((bF S i).length:Int)>6) (show tO (vS S i<|0) (mb S) (nG S i<|0) (aj (mb S) 271) from vN)
theorem k1(hk:k<(bF S i).length)(hm:bc (aK uM) [ar aM<|fF S i k,.int .i64 (k:Int)]=some (.bool false)):mG B (i6 4) (nG S i k)<|aj (mb S) 271:=wS mc (R:=fun r0 _=>r0=i6 4) (.st 1<|.rg<|.fk (.en<|.st 6<|.rg<|.go 1<|.cm<|.cn ([ar aM<|fF S i k])<|.go 2<|.en<|.st 1<|.rg<|.go 2<|.kn (.bool false)<|.go 1<|.en<|.rt 5<|.no) .no)<|tY ((k:Int)<((bF S i).length:Int))<|zC S i k<|ai (hm)<|rX<|i6 4
theorem k2(hl:(bF S i).length<=6)(hk:k<(bF S i).length)(hm:bc (aK uM) [ar aM<|fF S i k,.int .i64 (k:Int)]=some (.bool true))(H:mG B y (nG S i<|k+1)<|aj (mb S) 271):mG B y (nG S i k)<|aj (mb S) 271:=vC mc H (.st 1<|.rg<|.fk (.en<|.st 6<|.rg<|.go 1<|.cm<|.cn ([ar aM<|fF S i k])<|.go 2<|.en<|.st 1<|.rg<|.go 2<|.kn (.bool true)<|.go 1<|.en<|.st 3<|.rg<|.vl (i6 ((k+1:Nat):Int))<|.go 1<|.en<|.st 1<|.ls (vS S i<|k+1) (mb S) 271 .no) .no)<|tY ((k:Int)<((bF S i).length:Int))<|zC S i k<|ai (hm)<|ai (wN ((k:Int)+1)<|k+1) (show tO (vS S i<|k+1) (mb S) (nG S i<|k+1) (aj (mb S) 271) from vN)
theorem k3(hi:i<S.aX.length)(hs:S.aX.length<=6)(hk:(bF S i).length<=k)(H:mG B y (ep S<|i+1)<|aj (mb S) 271):mG B y (nG S i k)<|aj (mb S) 271:=vC mc H (.st 1<|.rg<|.fk .no<|.en<|.st 4<|.rg<|.vl (i6 ((i+1:Nat):Int))<|.go 1<|.en<|.st 1<|.ls (jM S<|i+1) (mb S) 271 .no)<|tN ((k:Int)<((bF S i).length:Int))<|ai (wN ((i:Int)+1)<|i+1) (show tO (jM S<|i+1) (mb S) (ep S<|i+1) (aj (mb S) 271) from vN)
end
def vg(S:cr):Prop:=∀t∈S.aX,∀u∈t,pv 60 u=true/\ks 60 u=true/\∀n:Nat,∃b,oB u (n:Int) b/\(b=true->ow 60 u=true/\kZ 6 u)
def CY(t:List<|List St):Prop:=t.length<=6/\∀(k:Nat) u,t[k]? =some u->oB u (k:Int) true
def aj1(S:cr):Prop:=(((1<=S.init.length/\S.init.length<=32)/\1<=S.st/\S.st<=(S.init.length:Int))/\(0<=S.cl/\S.cl<=1099511627776)/\1<=S.tr/\S.tr<=1000)/\S.aX.length<=6
def zd(S:cr):Prop:=aj1 S/\∀(i:Nat) t,S.aX[i]? =some t->CY t
open Classical in
def Io(S:cr):Int:=if zd S then 0 else 4
theorem Qb{S:cr}{i k:Nat}(hd:vg S)(hi:i<S.aX.length)(hk:k<(bF S i).length)(h:oB (fF S i k) (k:Int) b):bc (aK uM) [ar aM<|fF S i k,.int .i64 (k:Int)]=some (.bool b):=by obtain⟨h1,h2,_⟩:=hd _ (TY<|Cn hi) _<|TY<|Co hk;exact eV (eQ uM.bJ ⟨_,_,b,by unfold ar;rw[uC],h1,h2,h,rfl⟩) (by rw[TS,show(ar aM<|fF S i k).hi=true from aI.2<|cR _];rfl) rfl
theorem Il{B:aE}{y:AV}{S:cr}{i:Nat}(mc:Mt [Nr,CS] B)(hd:vg S)(hi:i<S.aX.length)(hs:S.aX.length<=6)(hl:(bF S i).length<=6)(hn:¬CY (bF S i)->y=i6 4)(H:CY (bF S i)->mG B y (ep S<|i+1) (aj (mb S) 271)):
 ∀(r k:Nat),(bF S i).length - k=r->(∀j:Nat,j<k->j<(bF S i).length->oB (fF S i j) (j:Int) true)->mG B y (nG S i k) (aj (mb S) 271)
 |0,k,h,hj=>k3 mc hi hs ae<|H ⟨hl,fun j u hu=>by have:=(TZ.1 hu).1;rw[Co this] at hu;cases hu;exact hj j ae this⟩
 |r+1,k,h,hj=>by
  have hk:k<(bF S i).length:=by omega
  obtain⟨_,_,hm⟩:=hd _ (TY<|Cn hi) _<|TY<|Co hk;obtain⟨b,hb,_⟩:=hm k;have q:=Qb hd hi hk hb;cases b with
  |false=>rw[hn fun h=>by cases ani hb (h.2 k _<|Co hk)];exact k1 mc hk q
  |true=>exact k2 mc hl hk q (Il mc hd hi hs hl hn H r (k+1) ae fun j h1 h2=>by
   by_cases e:j=k
   ·subst e;exact hb
   ·exact hj j ae h2)
theorem AU{B:aE}{y:AV}{S:cr}(mc:Mt [Nr,CS] B)(hd:vg S)(hs:S.aX.length<=6)(hn:(¬∀(i:Nat) t,S.aX[i]? =some t->CY t)->y=i6 4)(H:(∀(i:Nat) t,S.aX[i]? =some t->CY t)->y=i6 0):
 ∀(r i:Nat),S.aX.length - i=r->(∀j:Nat,j<i->j<S.aX.length->CY (bF S j))->mG B y (ep S i) (aj (mb S) 271)
 |0,i,h,hj=>by rw[H fun j t ht=>by have:=(TZ.1 ht).1;rw[Cn this] at ht;cases ht;exact hj j ae this];exact h3 mc ae
 |r+1,i,h,hj=>by
  have hi:i<S.aX.length:=by omega
  have no:¬CY (bF S i)->y=i6 4:=fun q=>hn fun h=>q<|h i _<|Cn hi;by_cases q:(bF S i).length>6
  ·rw[no fun h=>by have:=h.1;omega];exact h1 mc hi q
  ·exact h2 mc hi q (Il mc hd hi hs ae no (fun ok=>AU mc hd hs hn H r (i+1) ae fun j h1 h2=>by
    by_cases e:j=i
    ·subst e;exact ok
    ·exact hj j ae h2) _ 0 rfl fun j h=>by omega)
def Ah(args:List AV)(v:AV):Prop:=∃S:cr,args=[.agg<|dH S]/\vg S/\v=i6 (Io S)
theorem Ah.bJ(args:List AV)(v v':AV)(h:Ah args v)(h':Ah args v'):v=v':=by
 obtain⟨S,rfl,_,rfl⟩:=h;obtain⟨S',e,_,rfl⟩:=h';injection e with e _
 injection e with e
 rw[Pf e]
def Hk:FuncId×KE:=(12,.val<|aK Ah)
theorem CZ{S:cr}(h:¬zd S):Io S=4:=if_neg h
theorem Zx{S:cr}(h:zd S):Io S=0:=if_pos h
theorem uw{n l:Int}(k:l<=n/\n<=h):jZ n l h=true:=decide_eq_true k
theorem un{n l:Int}(k:¬(l<=n/\n<=h)):jZ n l h=false:=decide_eq_false k
theorem adS(hP:bY pg)(h:aY L):aY<|Hk::L:=by
 refine gu hP h (aid hP<|WW hP dj) Tryd.func12 fun args v e=>?_;obtain⟨S,rfl,hd,rfl⟩:=fQ e;refine⟨aI.1 aV,fun B mc=>?_⟩;rw[←gX];show mG B (i6<|Io S) _ _;by_cases q0:1<=(S.init.length:Int)/\(S.init.length:Int)<=32
 ·by_cases q1:1<=S.st/\S.st<=(S.init.length:Int)
  ·by_cases q2:0<=S.cl/\S.cl<=1099511627776
   ·by_cases q3:1<=S.tr/\S.tr<=1000
    ·by_cases q4:S.aX.length>6
     ·rw[CZ fun h=>by have:=h.1.2;omega];exact c4 mc (uw q0) (uw q1) (uw q2) (uw q3) q4
     ·exact c5 mc (uw q0) (uw q1) (uw q2) (uw q3) q4 (AU mc hd ae (fun no=>by rw[CZ fun h=>no h.2]) (fun ok=>by rw[Zx ⟨⟨⟨⟨by omega,q1⟩,q2,q3⟩,by omega⟩,ok⟩]) _ 0 rfl fun j h=>by omega)
    ·rw[CZ fun h=>q3 h.1.1.2.2];exact c3 mc (uw q0) (uw q1) (uw q2)<|un q3
   ·rw[CZ fun h=>q2 h.1.1.2.1];exact c2 mc (uw q0) (uw q1)<|un q2
  ·rw[CZ fun h=>q1 h.1.1.1.2];exact c1 mc (uw q0)<|un q1
 ·rw[CZ fun h=>q0 (by have:=h.1.1.1.1;omega)];exact c0 mc<|un q0
end Im
namespace Mz
open cj cY oJ iL sR ve xf CX Ay Im Ik
theorem qK{α:Type}{l:List α}{i:Nat}{c:α}(h:l[i]? =some c):(i:Int)<(l.length:Int):=by have:=(TZ.1 h).1;omega
abbrev du(B:aE)(v:AV)(fr:AF)(s:AS):Prop:=Sm B Tryd.f6 v fr s
abbrev mW(mem out:List Int):AV:=.tuple [ar encI out,ar encI mem,i6 0]
abbrev jy(e:Int):AV:=.tuple [nl,nl,i6 e]
theorem aj2{l:List Int}(h:l.length<=100000):bc (aK yA) [ar encI l]=some (ar encI l):=eV (eQ yA.bJ ⟨_,0,l,rfl,dP.ar eI l,h,rfl⟩) (by rw[TS,Gc];rfl) Gc
abbrev Jb:=List<|Int×Int
def iz(v:AV)(S:cr)(bg:Jb)(i:Nat)(mem:List Int):List<|Nat×AV:=[(2,.ptr<|some (270,0)),(4,v),(5,ar encI mem),(8,.slice (some (271,0)) S.aX.length<|.known S.aX.length),(25,ar aO bg),(26,.int .i64 (bg.length:Int)),(27,.int .i64 (i:Int))]
def DK(v:AV)(S:cr)(bg:Jb)(i:Nat)(mem:List Int):List<|Nat×AV:=(10,.ptr<|some (400,0))::(11,.ptr<|some (401,0))::(12,i6 0)::iz v S bg i mem
def KH:List Item:=[.code<|aL pg 6 [1,1,1,1,0,1,0,0],.inLoop<|aL pg 6 [1,1,1,1,0,1,0,0],.inBlock 0,.code<|aL pg 6 [1,1,1,1,1]]
def KB:List Item:=[.code<|aL pg 6 [1,1,1,1,0,1,0,0,1,1,0,0,1,1,1,0,0,0],.code<|aL pg 6 [1,1,1,1,0,1,0,0,1,1,0,0,1,1,1,0,0,1],.inBlock 3,.code<|aL pg 6 [1,1,1,1,0,1,0,0,1,1,0,0,1,1,1,1],.inBlock 1,.code<|aL pg 6 [1,1,1,1,0,1,0,0,1,1,1],.inLoop<|aL pg 6 [1,1,1,1,0,1,0,0],.inBlock 0,.code<|aL pg 6 [1,1,1,1,1]]
def KR:List Item:=(dh 6 [1,1,1,1,1,1])
def ep(S:cr)(bg:Jb)(i:Nat)(mem out:List Int):AF:=⟨6,aA<|iz (eG 273 out) S bg i mem,(max Tryd.f6.ntmps 2),KH,[],none⟩
def Bw(S:cr)(bg:Jb)(i:Nat)(mem out:List Int):AF:=⟨6,aA<|DK (eG 273 out) S bg i mem,(max Tryd.f6.ntmps 2),KB,[],none⟩
def Tl(mem out:List Int):List<|Nat×AV:=[(4,ar encI out),(5,ar encI mem),(6,i6 0)]
def Tm(mem out:List Int):AF:=⟨6,aA<|Tl mem out,(max Tryd.f6.ntmps 2),KR,[],none⟩
abbrev bx(g k:Nat)(y:Int)(b:Bool)(ra wa:Jb)(mm:List Int)(st:Int):List<|Nat×Option ah:=[(400,some<|bt [i6 (g:Int),i6 (k:Int)]),(401,some<|bt [i6 y,.bool b,ar aO ra,ar aO wa,ar encI mm,i6 st])]
abbrev zF(S:cr)(out:List Int)(rs:gz):List<|Nat×Option ah:=Mc S S.aX.length rs out
abbrev cw(S:cr)(out:List Int)(rs:gz):AS:=aj (zF S out rs) 400
abbrev DL(S:cr)(out:List Int)(rs:gz)(g:Nat)(p:List Int):AS:=aj (Mo S S.aX.length rs g p out) 400
abbrev mB(S:cr)(out:List Int)(rs:gz)(g:Nat)(p:List Int)(k:Nat)(y:Int)(b:Bool)(ra wa:Jb)(mm:List Int)(st:Int):List<|Nat×Option ah:=Mo S S.aX.length rs g p out++bx g k y b ra wa mm st
variable {r:Nat->Nat} {fz:jl} {B:aE} {v v':AV} {S:cr} {bg ra wa:Jb} {i g k aP:Nat} {mem out mm p p' ib:List Int} {rs:gz} {t x y st z w:Int} {b:Bool} {o0:List<|Nat×Option ah}
theorem zG(h0:r 270=270)(h1:r 271=271)(ht:∀k,top<=k->r k=k)(h:gE [] r v v'):VZ r (iz v S bg i mem)<|iz v' S bg i mem:=kh (aZ.ptr h0).z<|kh h<|kh (pa ht)<|kh (aZ.slice h1).z<|kh (pa ht)<|kh vi<|kh vi trivial
abbrev vT(aP:Nat)(v:AV)(o0:List<|Nat×Option ah)(S:cr)(bg:Jb)(i:Nat)(mem out:List Int)(rs:gz):Prop:=xR 270 aP 400 (iz v S bg i mem) o0 (iz (eG 273 out) S bg i mem) (zF S out rs) (ep S bg i mem out)<|cw S out rs
theorem DM(S:cr)(bg:Jb)(i:Nat)(mem:List Int)(rs:gz)(g:Nat)(p out:List Int)(y:Int)(hp:p.length<=100000)(ho:out.length<=100000)(hb:Bd rs)(hG:S.aX.length<=6)(hg:g<6):
 vT 406 (sN 403<|out++[y]) (oP S S.aX.length rs g p (p++[y]) (out++[y]) 405 403) S bg i mem (out++[y]) (cX rs g<|p++[y]):=
 tP (YH (by simp) Mg Mg hb hG hg ae ae fun r hr ht=>zG (rk hr) (rk hr) ht (by rw[Xf<|by simp];exact(aZ.slice<|rc hr).z))
abbrev LfX(S:cr)(bg:Jb)(i:Nat)(mem out:List Int)(rs:gz)(g:Nat)(p:List Int):Prop:=xR 270 400 400 (iz (eG 273 out) S bg i mem) (zF S out rs) (iz (eG 273 out) S bg i mem) (Mo S S.aX.length rs g p out) (ep S bg i mem out)<|DL S out rs g p
abbrev Tn(S:cr)(bg:Jb)(i:Nat)(mem out:List Int)(rs:gz)(g:Nat)(p:List Int)(k:Nat)(y:Int)(b:Bool)(ra wa:Jb)(mm:List Int)(st:Int):Prop:=xR 270 402 402 (DK (eG 273 out) S bg i mem) (mB S out rs g p k y b ra wa mm st) (DK (eG 273 out) S bg i mem) (mB S out rs g p k y b ra wa mm st) (Bw S bg i mem out)<|aj (mB S out rs g p k y b ra wa mm st) 402
theorem lfB(S:cr)(bg:Jb)(i:Nat)(mem out:List Int)(rs:gz)(g:Nat)(p:List Int)(k:Nat)(y:Int)(b:Bool)(ra wa:Jb)(mm:List Int)(st:Int)(hp:p.length<=100000)(ho:out.length<=100000)(hb:Bd rs)(hG:S.aX.length<=6):Tn S bg i mem out rs g p k y b ra wa mm st:=
 tP (wkI ae ae hb ae hG (fun f hf ht=>kh (aZ.ptr<|hf _ ae).z<|kh (aZ.ptr<|hf _ ae).z<|kh vi<|zG (hf _ ae) (hf _ ae) ht<|Cm fun _=>hf _ ae) fun f ht q hq=>by
  simp only[Ty,TV,or_false] at hq;rcases hq with rfl|rfl
  ·exact⟨by show 400<402;omega,fun y e=>by cases e;exact⟨rfl,dT.cells (l:=[i6 (g:Int),i6 (k:Int)]) (by show 2<=top;unfold top;omega) ⟨vi,vi,trivial⟩ rfl⟩⟩
  ·exact⟨by show 401<402;omega,fun y e=>by cases e;exact⟨rfl,dT.cells (l:=[i6 _,.bool b,ar aO ra,ar aO wa,ar encI mm,i6 st]) (by show 6<=top;unfold top;omega) ⟨vi,(aZ.bool _).z,pa ht,pa ht,pa ht,vi,trivial⟩ rfl⟩⟩)
variable (mc:Mt [Hk,zZ,tS] B)
include mc
theorem a0(hc:bc (aK Ah) [.agg<|dH S]=some (i6 4)):du B (jy 4) (sF 6 Tryd.f6 [.agg<|dH S,ar aO bg])<|aj aq 270:=wS mc (R:=fun r0 _=>r0=jy 4) (.st 4<|.rg<|.go 1<|.kn (i6 4)<|.go 1<|.en<|.rt 7<|.no)<|ai (hc)<|rX<|jy 4
theorem a1(hc:bc (aK Ah) [.agg<|dH S]=some (i6 0))(hG:S.aX.length<=6)(hi:S.init.length<=100000)(H:du B v (ep S bg 0 S.init [])<|cw S [] ng):du B v (sF 6 Tryd.f6 [.agg<|dH S,ar aO bg])<|aj aq 270:=vC mc H (.st 4<|.rg<|.go 1<|.kn (i6 0)<|.go 1<|.en<|.st 5<|.rg<|.go 2<|.kn (ar encI S.init)<|.go 1<|.en<|.st 1<|.rg<|.go 3<|.ml (.slice (some (271,0)) S.aX.length<|.known S.aX.length) (Tk S.aX.length) mrQ<|.go 1<|.en<|.st 5<|.rn (iz nl S bg 0 S.init) (aq++([(270,some<|bt<|dH S),(271,some<|Mx S.aX.length)]++pT fun _=>none)) (iz (eG 273 []) S bg 0 S.init) (zF S [] ng) 272 400 .no)<|ai (hc)<|ai (aj2 hi)<|ai (agJ (n:=S.aX.length) ae)<|ai (show(271:Nat)=271 from rfl) (show vT 272 nl (aq++([(270,some<|bt<|dH S),(271,some<|Mx S.aX.length)]++pT fun _=>none)) S bg 0 S.init [] ng from tP<|Zw (fun r=>(aic ae).z) fun r hr ht=>zG (ra hr) (rk hr) ht (aZ.rZ).z)
theorem r1(hl:bg.length<=1000)(hx:bg[i]? =some (t,x))(h:t<0):du B (jy 5) (ep S bg i mem out)<|cw S out rs:=wS mc (R:=fun r0 _=>r0=jy 5) (.st 1<|.rg<|.fk (.en<|.st 6<|.rg<|.cm<|.cn (aO (t,x))<|.go 2<|.en<|.st 3<|.rg<|.go 2<|.fk (.go 26<|.en<|.rt 5<|.no) .no) .no)<|tY ((i:Int)<(bg.length:Int)) (jW hx<|tY (t<0)<|rX<|jy 5)<|qK hx
theorem r2(hl:bg.length<=1000)(hx:bg[i]? =some (t,x))(h0:¬t<0)(h:t>=(S.aX.length:Int)):du B (jy 5) (ep S bg i mem out)<|cw S out rs:=wS mc (R:=fun r0 _=>r0=jy 5) (.st 1<|.rg<|.fk (.en<|.st 6<|.rg<|.cm<|.cn (aO (t,x))<|.go 2<|.en<|.st 3<|.rg<|.go 2<|.fk .no<|.go 6<|.fk (.go 19<|.en<|.rt 5<|.no) .no) .no)<|tY ((i:Int)<(bg.length:Int)) (jW hx<|tN (t<0)<|tY (t>=(S.aX.length:Int))<|rX<|jy 5)<|qK hx
theorem r3(hl:bg.length<=1000)(hx:bg[i]? =some (t,x))(h0:¬t<0)(h1:¬t>=(S.aX.length:Int))(h:x<0):du B (jy 5) (ep S bg i mem out)<|cw S out rs:=wS mc (R:=fun r0 _=>r0=jy 5) (.st 1<|.rg<|.fk (.en<|.st 6<|.rg<|.cm<|.cn (aO (t,x))<|.go 2<|.en<|.st 3<|.rg<|.go 2<|.fk .no<|.go 6<|.fk .no<|.go 4<|.fk (.go 14<|.en<|.rt 5<|.no) .no) .no)<|tY ((i:Int)<(bg.length:Int)) (jW hx<|tN (t<0)<|tN (t>=(S.aX.length:Int))<|tY (x<0)<|rX<|jy 5)<|qK hx
theorem r4(hl:bg.length<=1000)(hx:bg[i]? =some ((g:Int),x))(hG:S.aX.length<=6)(hg:g<S.aX.length)(h0:¬x<0)(h:x>=((bF S g).length:Int)):du B (jy 5) (ep S bg i mem out)<|cw S out rs:=wS mc (R:=fun r0 _=>r0=jy 5) (.st 1<|.rg<|.fk (.en<|.st 6<|.rg<|.cm<|.cn (aO ((g:Int),x))<|.go 2<|.en<|.st 3<|.rg<|.go 2<|.fk .no<|.go 6<|.fk .no<|.go 4<|.fk .no<|.go 8<|.cm<|.cn ([ar iI<|bF S g])<|.go 1<|.fk (.go 2<|.en<|.rt 5<|.no) .no) .no)<|tY ((i:Int)<(bg.length:Int)) (jW hx<|tN ((g:Int)<0)<|tN ((g:Int)>=(S.aX.length:Int))<|tN (x<0)<|lJ S g<|tY (x>=((bF S g).length:Int))<|rX<|jy 5)<|qK hx
theorem o1(hp:rs g=p)(hb:Bd rs)(ho:out.length<=1000000)(hg:g<6)(hG:S.aX.length<=6)(H:du B v (ep S bg i mem out)<|DL S out rs g p):du B v (ep S bg i mem out)<|cw S out rs:=vC mc H (.rn (iz (eG 273 out) S bg i mem) (zF S out rs) (iz (eG 273 out) S bg i mem) (Mo S S.aX.length rs g p out) 400 400 .no) (show LfX S bg i mem out rs g p from tP<|X5 hp hb ho hG hg ae ae fun r hr ht=>zG (rk hr) (rk hr) ht<|Cm fun _=>rk hr)
theorem x0(hl:bg.length<=1000)(hx:bg[i]? =some ((g:Int),(k:Int)))(hG:S.aX.length<=6)(hg:g<S.aX.length)(hk:k<(bF S g).length)(h:k≠([]:List Int).length):du B (jy 7) (ep S bg i mem out)<|DL S out rs g<|[]:=wS mc (R:=fun r0 _=>r0=jy 7) (.st 1<|.rg<|.fk (.en<|.st 6<|.rg<|.cm<|.cn (aO ((g:Int),(k:Int)))<|.go 2<|.en<|.st 3<|.rg<|.go 2<|.fk .no<|.go 6<|.fk .no<|.go 4<|.fk .no<|.go 8<|.cm<|.cn ([ar iI<|bF S g])<|.go 1<|.fk .no<|.go 2<|.en<|.st 2<|.rg<|.go 5<|.ix<|.ld [eG 272<|[]]<|.go 1<|.fk (.go 1<|.en<|.rt 5<|.no) .no) .no)<|tY ((i:Int)<(bg.length:Int)) (jW hx<|tN ((g:Int)<0)<|tN ((g:Int)>=(S.aX.length:Int))<|tN ((k:Int)<0)<|lJ S g<|tN ((k:Int)>=((bF S g).length:Int))<|cW S.aX.length rs g ([])<|tY ((k:Int)≠((([]:List Int).length:Nat):Int))<|rX<|jy 7)<|qK hx
theorem d0(hl:bg.length<=1000)(hx:bg[i]? =some ((g:Int),(k:Int)))(hG:S.aX.length<=6)(hg:g<S.aX.length)(hk:k<(bF S g).length)(he:k=([]:List Int).length)(hD:aK o6 [ar aM<|fF S g k,ar encI mem,nl]=some (mC y b ra wa mm st))(mH:([]:List Int).length<=100000)(ho:out.length<=100000)(hb:Bd rs)(H:du B v (Bw S bg i mem out)<|aj (mB S out rs g ([]) k y b ra wa mm st) 402):du B v (ep S bg i mem out)<|DL S out rs g<|[]:=vC mc H (.st 1<|.rg<|.fk (.en<|.st 6<|.rg<|.cm<|.cn (aO ((g:Int),(k:Int)))<|.go 2<|.en<|.st 3<|.rg<|.go 2<|.fk .no<|.go 6<|.fk .no<|.go 4<|.fk .no<|.go 8<|.cm<|.cn ([ar iI<|bF S g])<|.go 1<|.fk .no<|.go 2<|.en<|.st 2<|.rg<|.go 5<|.ix<|.ld [eG 272<|[]]<|.go 1<|.fk .no<|.go 1<|.en<|.st 4<|.rg<|.go 4<|.cm<|.cn ([ar iI<|bF S g])<|.go 2<|.cm<|.cn ([ar aM<|fF S g k])<|.go 4<|.ix<|.ld [eG 272<|[]]<|.cg (mC y b ra wa mm st) dG dQ<|.go 6<|.en<|.st 3<|.rn (DK (eG 273 out) S bg i mem) (mB S out rs g ([]) k y b ra wa mm st) (DK (eG 273 out) S bg i mem) (mB S out rs g ([]) k y b ra wa mm st) 402 402 .no) .no)<|tY ((i:Int)<(bg.length:Int)) (jW hx<|tN ((g:Int)<0)<|tN ((g:Int)>=(S.aX.length:Int))<|tN ((k:Int)<0)<|lJ S g<|tN ((k:Int)>=((bF S g).length:Int))<|cW S.aX.length rs g ([])<|tN ((k:Int)≠((([]:List Int).length:Nat):Int))<|lJ S g<|zC S g k<|cW S.aX.length rs g ([])<|doN (L:=[Hk,zZ,tS]) cf hD (show Tn S bg i mem out rs g ([]) k y b ra wa mm st from lfB S bg i mem out rs g ([]) k y b ra wa mm st mH ho hb hG))<|qK hx
theorem z00(hl:bg.length<=1000)(hi:i<bg.length)(hG:S.aX.length<=6)(hg:g<S.aX.length)(mH:([]:List Int).length<=100000)(ho:([]:List Int).length<=100000)(hb:Bd rs)(H:du B v (ep S bg (i+1) mm<|([])++[y])<|cw S (([])++[y])<|cX rs g<|([])++[y]):du B v (Bw S bg i mem<|[])<|aj (mB S ([]) rs g ([]) k y false ra wa mm st) 402:=vC mc H (.st 11<|.rg<|.go 6<|.ix<|.ld [eG 272<|[]]<|.go 4<|.ix<|.oU (iC S.aX.length rs g ([])<|sN 405<|([])++[y])<|.en<|.st 1<|.rg<|.vl (i6 ((i+1:Nat):Int))<|.go 1<|.en<|.st 1<|.rn (iz (sN 403<|([])++[y]) S bg (i+1) mm) (oP S S.aX.length rs g ([]) (([])++[y]) (([])++[y]) 405 403) (iz (eG 273<|([])++[y]) S bg (i+1) mm) (zF S (([])++[y])<|cX rs g<|([])++[y]) 406 400 .no)<|cW S.aX.length rs g ([])<|sW S.aX.length rs g ([]) 405 (([])++[y])<|ai (wN ((i:Int)+1)<|i+1) (show vT 406 (sN 403<|([])++[y]) (oP S S.aX.length rs g ([]) (([])++[y]) (([])++[y]) 405 403) S bg (i+1) mm (([])++[y]) (cX rs g<|([])++[y]) from DM S bg (i+1) mm rs g ([]) ([]) y mH ho hb hG ae)
theorem z01(hl:bg.length<=1000)(hi:i<bg.length)(hG:S.aX.length<=6)(hg:g<S.aX.length)(mH:([]:List Int).length<=100000)(ho:(z::ib:List Int).length<=100000)(hb:Bd rs)(H:du B v (ep S bg (i+1) mm<|(z::ib)++[y])<|cw S ((z::ib)++[y])<|cX rs g<|([])++[y]):du B v (Bw S bg i mem<|z::ib)<|aj (mB S (z::ib) rs g ([]) k y false ra wa mm st) 402:=vC mc H (.st 10<|.rg<|.go 4<|.ap Int encI (z::ib) y<|.go 1<|.en<|.rg<|.go 6<|.ix<|.ld [eG 272<|[]]<|.go 4<|.ix<|.oU (iC S.aX.length rs g ([])<|sN 405<|([])++[y])<|.en<|.st 1<|.rg<|.vl (i6 ((i+1:Nat):Int))<|.go 1<|.en<|.st 1<|.rn (iz (sN 403<|(z::ib)++[y]) S bg (i+1) mm) (oP S S.aX.length rs g ([]) (([])++[y]) ((z::ib)++[y]) 405 403) (iz (eG 273<|(z::ib)++[y]) S bg (i+1) mm) (zF S ((z::ib)++[y])<|cX rs g<|([])++[y]) 406 400 .no)<|aW y ho<|cW S.aX.length rs g ([])<|sW S.aX.length rs g ([]) 405 (([])++[y])<|ai (wN ((i:Int)+1)<|i+1) (show vT 406 (sN 403<|(z::ib)++[y]) (oP S S.aX.length rs g ([]) (([])++[y]) ((z::ib)++[y]) 405 403) S bg (i+1) mm ((z::ib)++[y]) (cX rs g<|([])++[y]) from DM S bg (i+1) mm rs g ([]) (z::ib) y mH ho hb hG ae)
theorem x1(hl:bg.length<=1000)(hx:bg[i]? =some ((g:Int),(k:Int)))(hG:S.aX.length<=6)(hg:g<S.aX.length)(hk:k<(bF S g).length)(h:k≠(w::p':List Int).length):du B (jy 7) (ep S bg i mem out)<|DL S out rs g<|w::p':=wS mc (R:=fun r0 _=>r0=jy 7) (.st 1<|.rg<|.fk (.en<|.st 6<|.rg<|.cm<|.cn (aO ((g:Int),(k:Int)))<|.go 2<|.en<|.st 3<|.rg<|.go 2<|.fk .no<|.go 6<|.fk .no<|.go 4<|.fk .no<|.go 8<|.cm<|.cn ([ar iI<|bF S g])<|.go 1<|.fk .no<|.go 2<|.en<|.st 2<|.rg<|.go 5<|.ix<|.ld [eG 272<|w::p']<|.go 1<|.fk (.go 1<|.en<|.rt 5<|.no) .no) .no)<|tY ((i:Int)<(bg.length:Int)) (jW hx<|tN ((g:Int)<0)<|tN ((g:Int)>=(S.aX.length:Int))<|tN ((k:Int)<0)<|lJ S g<|tN ((k:Int)>=((bF S g).length:Int))<|cW S.aX.length rs g (w::p')<|tY ((k:Int)≠(((w::p':List Int).length:Nat):Int))<|rX<|jy 7)<|qK hx
theorem d1(hl:bg.length<=1000)(hx:bg[i]? =some ((g:Int),(k:Int)))(hG:S.aX.length<=6)(hg:g<S.aX.length)(hk:k<(bF S g).length)(he:k=(w::p':List Int).length)(hD:aK o6 [ar aM<|fF S g k,ar encI mem,.ab (am ((w::p':List Int).map encI).flatten) 0 (w::p':List Int).length]=some (mC y b ra wa mm st))(mH:(w::p':List Int).length<=100000)(ho:out.length<=100000)(hb:Bd rs)(H:du B v (Bw S bg i mem out)<|aj (mB S out rs g (w::p') k y b ra wa mm st) 402):du B v (ep S bg i mem out)<|DL S out rs g<|w::p':=vC mc H (.st 1<|.rg<|.fk (.en<|.st 6<|.rg<|.cm<|.cn (aO ((g:Int),(k:Int)))<|.go 2<|.en<|.st 3<|.rg<|.go 2<|.fk .no<|.go 6<|.fk .no<|.go 4<|.fk .no<|.go 8<|.cm<|.cn ([ar iI<|bF S g])<|.go 1<|.fk .no<|.go 2<|.en<|.st 2<|.rg<|.go 5<|.ix<|.ld [eG 272<|w::p']<|.go 1<|.fk .no<|.go 1<|.en<|.st 4<|.rg<|.go 4<|.cm<|.cn ([ar iI<|bF S g])<|.go 2<|.cm<|.cn ([ar aM<|fF S g k])<|.go 4<|.ix<|.ld [eG 272<|w::p']<|.cg (mC y b ra wa mm st) oG (oQ<|w::p')<|.go 6<|.en<|.st 3<|.rn (DK (eG 273 out) S bg i mem) (mB S out rs g (w::p') k y b ra wa mm st) (DK (eG 273 out) S bg i mem) (mB S out rs g (w::p') k y b ra wa mm st) 402 402 .no) .no)<|tY ((i:Int)<(bg.length:Int)) (jW hx<|tN ((g:Int)<0)<|tN ((g:Int)>=(S.aX.length:Int))<|tN ((k:Int)<0)<|lJ S g<|tN ((k:Int)>=((bF S g).length:Int))<|cW S.aX.length rs g (w::p')<|tN ((k:Int)≠(((w::p':List Int).length:Nat):Int))<|lJ S g<|zC S g k<|cW S.aX.length rs g (w::p')<|doO (L:=[Hk,zZ,tS]) cf hD mH (show Tn S bg i mem out rs g (w::p') k y b ra wa mm st from lfB S bg i mem out rs g (w::p') k y b ra wa mm st mH ho hb hG))<|qK hx
theorem z10(hl:bg.length<=1000)(hi:i<bg.length)(hG:S.aX.length<=6)(hg:g<S.aX.length)(mH:(w::p':List Int).length<=100000)(ho:([]:List Int).length<=100000)(hb:Bd rs)(H:du B v (ep S bg (i+1) mm<|([])++[y])<|cw S (([])++[y])<|cX rs g<|(w::p')++[y]):du B v (Bw S bg i mem<|[])<|aj (mB S ([]) rs g (w::p') k y false ra wa mm st) 402:=vC mc H (.st 11<|.rg<|.go 6<|.ix<|.ld [eG 272<|w::p']<|.go 3<|.ap Int encI (w::p') y<|.ix<|.oU (iC S.aX.length rs g (w::p')<|sN 405<|(w::p')++[y])<|.en<|.st 1<|.rg<|.vl (i6 ((i+1:Nat):Int))<|.go 1<|.en<|.st 1<|.rn (iz (sN 403<|([])++[y]) S bg (i+1) mm) (oP S S.aX.length rs g (w::p') ((w::p')++[y]) (([])++[y]) 405 403) (iz (eG 273<|([])++[y]) S bg (i+1) mm) (zF S (([])++[y])<|cX rs g<|(w::p')++[y]) 406 400 .no)<|cW S.aX.length rs g (w::p')<|aW y mH<|sW S.aX.length rs g (w::p') 405 ((w::p')++[y])<|ai (wN ((i:Int)+1)<|i+1) (show vT 406 (sN 403<|([])++[y]) (oP S S.aX.length rs g (w::p') ((w::p')++[y]) (([])++[y]) 405 403) S bg (i+1) mm (([])++[y]) (cX rs g<|(w::p')++[y]) from DM S bg (i+1) mm rs g (w::p') ([]) y mH ho hb hG ae)
theorem z11(hl:bg.length<=1000)(hi:i<bg.length)(hG:S.aX.length<=6)(hg:g<S.aX.length)(mH:(w::p':List Int).length<=100000)(ho:(z::ib:List Int).length<=100000)(hb:Bd rs)(H:du B v (ep S bg (i+1) mm<|(z::ib)++[y])<|cw S ((z::ib)++[y])<|cX rs g<|(w::p')++[y]):du B v (Bw S bg i mem<|z::ib)<|aj (mB S (z::ib) rs g (w::p') k y false ra wa mm st) 402:=vC mc H (.st 10<|.rg<|.go 4<|.ap Int encI (z::ib) y<|.go 1<|.en<|.rg<|.go 6<|.ix<|.ld [eG 272<|w::p']<|.go 3<|.ap Int encI (w::p') y<|.ix<|.oU (iC S.aX.length rs g (w::p')<|sN 405<|(w::p')++[y])<|.en<|.st 1<|.rg<|.vl (i6 ((i+1:Nat):Int))<|.go 1<|.en<|.st 1<|.rn (iz (sN 403<|(z::ib)++[y]) S bg (i+1) mm) (oP S S.aX.length rs g (w::p') ((w::p')++[y]) ((z::ib)++[y]) 405 403) (iz (eG 273<|(z::ib)++[y]) S bg (i+1) mm) (zF S ((z::ib)++[y])<|cX rs g<|(w::p')++[y]) 406 400 .no)<|aW y ho<|cW S.aX.length rs g (w::p')<|aW y mH<|sW S.aX.length rs g (w::p') 405 ((w::p')++[y])<|ai (wN ((i:Int)+1)<|i+1) (show vT 406 (sN 403<|(z::ib)++[y]) (oP S S.aX.length rs g (w::p') ((w::p')++[y]) ((z::ib)++[y]) 405 403) S bg (i+1) mm ((z::ib)++[y]) (cX rs g<|(w::p')++[y]) from DM S bg (i+1) mm rs g (w::p') (z::ib) y mH ho hb hG ae)
theorem q:du B (jy 7) (Bw S bg i mem out)<|aj (mB S out rs g p k y true ra wa mm st) 402:=wS mc (R:=fun r0 _=>r0=jy 7) (.rt 9<|.no)<|rX<|jy 7
theorem e1(ho:out.length<=1000000)(hi:bg.length<=i)(H:du B v (Tm mem out)<|aj (aq++[]) 270):du B v (ep S bg i mem out)<|cw S out rs:=vC mc H (.st 1<|.rg<|.fk .no<|.en<|.st 5<|.rn [(4,eG 273 out),(5,ar encI mem),(6,i6 0)] (aq++[(273,sU out)]) (Tl mem out) (aq++[]) 400 270 .no)<|tN ((i:Int)<(bg.length:Int)) (show xR 270 400 270 [(4,eG 273 out),(5,ar encI mem),(6,i6 0)] (aq++[(273,sU out)]) (Tl mem out) (aq++[]) (Tm mem out) (aj (aq++[]) 270) from tP<|ajZ ae ho ae dV fun fz f ht=>kh (pa ht)<|kh (aZ.int _ _).z trivial)
theorem e2:du B (mW mem out) (Tm mem out)<|aj (aq++[]) 270:=wS mc (R:=fun r0 _=>r0=mW mem out) (.rt 2<|.no)<|rX<|mW mem out
end Mz
namespace MA
open gJ cj cY oJ sR wU sS Mw ve xf CX Ay Im Ik Mz
variable {S:cr} {rs:gz} {p:List Int} {g:Nat}
def n9(S:cr):List (Int×Int)->List Int->List Int->gz->Int×List Int×List Int
  |[],mem,out,_=>(0,mem,out)
  | j ::l,mem,out,rs=>if j.1<0\/j.1>=(S.aX.length:Int)\/j.2<0\/j.2>=((bF S j.1.toNat).length:Int) then(5,[],[])
    else if j.2≠((rs j.1.toNat).length:Int) then(7,[],[])
    else match zE (fF S j.1.toNat j.2.toNat) mem (rs j.1.toNat) with
      |none=>(1,[],[])
      |some d=>if d.re=true then(7,[],[]) else n9 S l (oZ mem<|nf d) (out++[d.x]) (cX rs j.1.toNat<|rs j.1.toNat++[d.x])
def vJ(q:Int×List Int×List Int):AV:=if q.1=0 then mW q.2.1 q.2.2 else .tuple [nl,nl,i6 q.1]
theorem RP{e:Int}(h:e≠0):vJ (e,[],[])= .tuple [nl,nl,i6 e]:=if_neg h
structure Zy (S:cr) (mem out:List Int) (rs:gz) (i:Nat):Prop where
 m:mem.length=S.init.length
 o:out.length=i
 r:∀j,(rs j).length<=i
theorem YL(hd:vg S)(hc:zd S){mem:List Int}{k:Nat}(hm:mem.length=S.init.length)(hg:g<S.aX.length)(hk:k<(bF S g).length)(hp:k=p.length):
 ∃d,zE (fF S g k) mem p=some d/\∀G,Ij G p->aK o6 [ar aM<|fF S g k,ar encI mem,G]=some (Bv mem d):=by
 have hf:=hc.1.1.1;obtain⟨h6,fH⟩:=hc.2 g _<|Cn hg;have hk6:k<6:=by omega
 obtain⟨d1,d2,hb⟩:=hd _ (TY<|Cn hg) _<|TY<|Co hk;obtain⟨b,hb,hw⟩:=hb k;have sO:=fH k _<|Co hk;obtain rfl:b=true:=ani hb sO;obtain⟨gc,wf⟩:=hw rfl;have Ds:1<=mem.length/\mem.length<=32:=by omega
 subst hp;obtain⟨st,bb,d,e1,_,_,e2,_⟩:=Xp Ds (show p.length<=1000 by omega) sO wf;refine⟨d,e2,fun G hG=>eQ o6.bJ ⟨_,mem,p,_,0,G,rfl,dP.ar eI mem,hG,by omega,Ds,d1,d2,sO,gc,wf,?_⟩⟩;unfold DJ;rw[e2]
theorem Xt{i:Nat}(h:∀j,(rs j).length<=i)(hp:rs g=p)(y:Int):∀j,(cX rs g (p++[y]) j).length<=i+1:=fun j=>by
 by_cases q:j=g
 ·subst q;rw[sg,TM, ←hp];have:=h j;show _+1<=_;omega
 ·rw[si q];have:=h j;omega
theorem Zz{B:aE}{S:cr}{bg:List<|Int×Int}(mc:Mt [Hk,zZ,tS] B)(hd:vg S)(hc:zd S)(hl:bg.length<=60):∀(r:List<|Int×Int) (i:Nat) (mem out:List Int) (rs:gz),bg.drop i=r->i<=bg.length->Zy S mem out rs i->
 du B (vJ<|n9 S r mem out rs) (ep S bg i mem out) (cw S out rs)
 |[],i,mem,out,rs,h,hi,kp=>by
  have hi:bg.length<=i:=by have:=congrArg List.length h;rw[Vo] at this;have this:bg.length - i=0:=this;omega
  refine e1 mc (by have:=kp.o;omega) hi ?_;rw[show vJ (n9 S [] mem out rs)=mW mem out from if_pos rfl];exact e2 mc
 |(t,x)::r,i,mem,out,rs,h,hi,kp=>by
  have hG:=hc.1.2;have hi:i<bg.length:=by have:=congrArg List.length h;rw[Vo,TL] at this;omega
  have hj:bg[i]? =some (t,x):=by have:=congrArg (fun l=>l[0]?) h;rw[Ue] at this;exact this
  have h':bg.drop (i+1)=r:=by have:=congrArg (UH 1) h;rw[Up] at this;exact this
  have ko:=kp.o;have kr:=kp.r;by_cases q1:t<0\/t>=(S.aX.length:Int)\/x<0\/x>=((bF S t.toNat).length:Int)
  ·rw[show n9 S ((t,x)::r) mem out rs=(5,[],[]) from if_pos q1,RP ae];by_cases a:t<0
   ·exact r1 mc ae hj a
   ·by_cases b:t>=(S.aX.length:Int)
    ·exact r2 mc ae hj a b
    ·by_cases c:x<0
     ·exact r3 mc ae hj a b c
     ·have q:x>=((bF S t.toNat).length:Int):=((q1.resolve_left a).resolve_left b).resolve_left c;obtain⟨g,rfl⟩:∃g:Nat,t=(g:Int):=⟨t.toNat,by omega⟩;rw[Uy] at q;exact r4 mc ae hj hG ae c q
  ·obtain⟨g,rfl⟩:∃g:Nat,t=(g:Int):=⟨t.toNat,by omega⟩;obtain⟨k,rfl⟩:∃k:Nat,x=(k:Int):=⟨x.toNat,by omega⟩;have hg:g<S.aX.length:=by omega
   have hk:k<(bF S g).length:=by rw[Uy] at q1;omega
   have hb:Bd rs:=fun j=>by have:=kr j;omega
   have op:∀{v:AV} {p:List Int},rs g=p->du B v (ep S bg i mem out) (DL S out rs g p)->du B v (ep S bg i mem out) (cw S out rs):=fun e H=>o1 mc e hb ae ae hG H;have e0:n9 S (((g:Int),(k:Int))::r) mem out rs=if(k:Int)≠((rs g).length:Int) then(7,[],[]) else match zE (fF S g k) mem (rs g) with
    |none=>(1,[],[])
    |some d=>if d.re=true then(7,[],[]) else n9 S r (oZ mem<|nf d) (out++[d.x]) (cX rs g<|rs g++[d.x]):=(if_neg q1).trans (by rw[Uy,Uy])
   rw[e0];by_cases q2:(k:Int)≠((rs g).length:Int)
   ·rw[if_pos q2,RP ae];cases e:rs g with
    |nil=>rw[e] at q2;exact op e<|x0 mc ae hj hG hg hk (by intro h;exact q2<|by rw[h])
    |cons w p=>rw[e] at q2;exact op e<|x1 mc ae hj hG hg hk (by intro h;exact q2<|by rw[h])
   ·have q2:k=(rs g).length:=by omega
    rw[if_neg ae];obtain⟨d,e1,hD⟩:=YL hd hc kp.m hg hk q2;rw[e1];show du B (vJ (if d.re=true then(7,[],[]) else n9 S r (oZ mem<|nf d) (out++[d.x]) (cX rs g<|rs g++[d.x]))) _ _;have next:=Zz mc hd hc hl r (i+1) (oZ mem<|nf d) (out++[d.x]) (cX rs g<|rs g++[d.x]) h' hi ⟨by rw[Ko];exact kp.m,by rw[TM];show _+1=_;omega,Xt kr rfl d.x⟩
    have hs:Bv mem d=mC d.x d.re d.rs (nf d) (oZ mem<|nf d) d.m.steps:=rfl;have hl:=kr g;cases e:rs g with
    |nil=>
     have hD:=(hD nl<|.inl ⟨rfl,e⟩).trans<|congrArg some hs;rw[e] at q2 next
     refine op e<|d0 mc ae hj hG hg hk q2 hD (TN _) ae hb ?_;cases q3:d.re with
     |true=>exact q mc
     |false=>cases out with
      |nil=>exact z00 mc ae hi hG hg (TN _) (TN _) hb next
      |cons z o=>exact z01 mc ae hi hG hg (TN _) ae hb next
    |cons w p=>
     have hD:=(hD _<|.inr ⟨_,0,rfl,RH _⟩).trans<|congrArg some hs;rw[e] at q2 hD next hl
     refine op e<|d1 mc ae hj hG hg hk q2 hD ae ae hb ?_;cases q3:d.re with
     |true=>exact q mc
     |false=>cases out with
      |nil=>exact z10 mc ae hi hG hg ae (TN _) hb next
      |cons z o=>exact z11 mc ae hi hG hg ae ae hb next
open Classical in
def rB(S:cr)(bg:List<|Int×Int):Int×List Int×List Int:=if zd S then n9 S bg S.init [] ng else(4,[],[])
def AW(args:List AV)(v:AV):Prop:=∃(S:cr) (bg:List<|Int×Int),args=[.agg<|dH S,ar aO bg]/\vg S/\(bg.length<=60/\S.init.length<=100000)/\v=vJ (rB S bg)
theorem AW.bJ(args:List AV)(v v':AV)(h:AW args v)(h':AW args v'):v=v':=by
 obtain⟨S,l,rfl,_,_,rfl⟩:=h;obtain⟨S',l',e,_,_,rfl⟩:=h';injection e with e1 e
 injection e with e2 _
 injection e1 with e1
 obtain rfl:=Pf e1;obtain rfl:=amy e2;rfl
def AY:FuncId×KE:=(6,.val<|aK AW)
theorem aj3(hd:vg S):bc (aK Ah) [.agg<|dH S]=some (i6<|Io S):=eV (eQ Ah.bJ ⟨S,rfl,hd,rfl⟩) (by rw[TS,PX];rfl) rfl
theorem agK(hP:bY pg)(hs:Cl pg 60 61){L:bV}(h:aY L):aY<|AY::L:=by
 refine gu hP h (adS hP<|ajm hP<|Ye hP hs dj) Tryd.func6 fun args v e=>?_;obtain⟨S,bg,rfl,hd,hl,rfl⟩:=fQ e;refine⟨aI.1 aV,fun B mc=>?_⟩;rw[←gX];have hk:=aj3 hd;unfold rB;by_cases q:zd S
 ·rw[if_pos q];rw[Zx q] at hk;exact a1 mc hk q.1.2 hl.2<|Zz mc hd q hl.1 bg 0 S.init [] ng rfl (TN _) ⟨rfl,rfl,fun j=>TN _⟩
 ·rw[if_neg q,RP ae];rw[CZ q] at hk;exact a0 mc hk
theorem Pn{t x:Int}{r:List<|Int×Int}{mem out m v:List Int}(h:n9 S ((t,x)::r) mem out rs=(0,m,v)):∃(g k:Nat) (d:DI),t=(g:Int)/\x=(k:Int)/\g<S.aX.length/\k<(bF S g).length/\k=(rs g).length/\
 zE (fF S g k) mem (rs g)=some d/\d.re=false/\n9 S r (oZ mem<|nf d) (out++[d.x]) (cX rs g<|rs g++[d.x])=(0,m,v):=by
 unfold n9 at h;split at h
 ·cases h
 ·rename_i q1;have q1:¬(t<0\/t>=(S.aX.length:Int)\/x<0\/x>=((bF S t.toNat).length:Int)):=q1;obtain⟨g,rfl⟩:∃g:Nat,t=(g:Int):=⟨t.toNat,by omega⟩;obtain⟨k,rfl⟩:∃k:Nat,x=(k:Int):=⟨x.toNat,by omega⟩;rw[Uy] at q1 h;rw[Uy] at h;split at h
  ·cases h
  ·rename_i q2;have q2:¬(k:Int)≠((rs g).length:Int):=q2;cases e:zE (fF S g k) mem (rs g) with
   |none=>rw[e] at h;cases h
   |some d=>
    rw[e] at h;cases q3:d.re with
    |true=>have h:(if d.re=true then((7:Int),([]:List Int),([]:List Int)) else _)=(0,m,v):=h;rw[if_pos q3] at h;cases h
    |false=>have h:(if d.re=true then((7:Int),([]:List Int),([]:List Int)) else n9 S r (oZ mem<|nf d) (out++[d.x]) (cX rs g<|rs g++[d.x]))=(0,m,v):=h;rw[if_neg (by rw[q3];intro z;cases z)] at h;exact⟨g,k,d,rfl,rfl,by omega,by omega,by omega,e,q3,h⟩
theorem P0{S:cr}:∀(r:List<|Int×Int) (mem out:List Int) (rs:gz) {m v:List Int},n9 S r mem out rs=(0,m,v)->∃w,v=out++w/\w.length=r.length
 |[],mem,out,rs,m,v,h=>by cases h;exact⟨[],(U8 _).symm,rfl⟩
 |(t,x)::r,mem,out,rs,m,v,h=>by obtain⟨_,_,d,_,_,_,_,_,_,_,h⟩:=Pn h;obtain⟨w,e,hl⟩:=P0 r _ _ _ h;exact⟨d.x::w,by rw[e,Um];rfl,by rw[TL,hl];rfl⟩
end MA
namespace MB
open cj
def yD(args:List AV)(v:AV):Prop:=args=[]/\v= .bool true
theorem yD.bJ(args:List AV)(v v':AV)(h:yD args v)(h':yD args v'):v=v':=by rw[h.2,h'.2]
def Ai:FuncId×KE:=(5,.val<|aK yD)
def isT(r:R AV):Bool:=match r with| .ok (.bool true) _=>true|_=>false
def kH(f:FuncId):Nat:= @Bool.rec (fun _=>Nat) (@Bool.rec (fun _=>Nat) 0 1<|Tx f 59) 1<|Tx f 42
theorem agL:isT (AG pg kH 60 (.fn 5) [] ⟨dk,270,0,[],[]⟩)=true:=by as_aux_lemma=>kernel_rfl
theorem adT(hP:bY pg){L:bV}(h:aY L):aY<|Ai::L:=by
 refine acK (kH:=kH) (fun _=>trivial) hP gW qR jT jb h Tryd.func5 (body:=aL pg 5 []) aV aV fun args v e=>?_;obtain⟨rfl,rfl⟩:=fQ e;have q:=agL;revert q;cases e:AG pg kH 60 (.fn 5) [] ⟨dk,270,0,[],[]⟩ with
 |bad=>intro q;cases q
 |ok x s1=>
  intro q;refine⟨60,s1,e.trans ?_⟩;cases x with
  |bool b=>cases b with
   |true=>rfl
   |false=>cases q
  |_=>cases q
end MB
namespace MC
open cj ve xf
def KI:List Item:=[.code<|aL pg 8 [1,1,0,1,0,0],.inLoop<|aL pg 8 [1,1,0,1,0,0],.inBlock 0,.code<|aL pg 8 [1,1,1]]
def pR(l:List Int)(i:Nat):List<|Nat×AV:=[(0,ar encI l),(1,ar encI l),(5,.int .i64 (i:Int))]
def vI(l:List Int)(i:Nat):AF:=⟨8,aA<|pR l i,max Tryd.f8.ntmps 2,KI,[],none⟩
abbrev Ge(B:aE)(fr:AF):Prop:=Sm B Tryd.f8 (.bool true) fr<|aj aq 270
section
variable {B:aE} {l:List Int} {i:Nat} {x:Int} (mc:Mt [] B)
include mc
theorem s0(H:Ge B<|vI l 0):Ge B<|sF 8 Tryd.f8 [ar encI l,ar encI l]:=vC mc H (.st 4<|.rg<|.go 4<|.fk .no<|.en<|.st 7<|.ls (pR l 0) aq 270 .no)<|tN ((l.length:Int)≠(l.length:Int)) (show tO (pR l 0) aq (vI l 0) (aj aq 270) from vN)
theorem stp(hl:l.length<=1000000)(hi:i<l.length)(hx:l[i]? =some x)(H:Ge B<|vI l<|i+1):Ge B<|vI l i:=vC mc H (.st 2<|.rg<|.go 3<|.fk (.en<|.st 5<|.rg<|.go 2<|.cm<|.cn (encI x)<|.go 2<|.cm<|.cn (encI x)<|.fk .no<|.en<|.st 3<|.rg<|.go 1<|.vl (i6 ((i+1:Nat):Int))<|.go 1<|.en<|.st 1<|.ls (pR l<|i+1) aq 270 .no) .no)<|tY ((i:Int)<(l.length:Int))<|nW hx<|nW hx<|tN (x≠x)<|ai (wN ((i:Int)+1)<|i+1) (show tO (pR l<|i+1) aq (vI l<|i+1) (aj aq 270) from vN)
theorem sE(hi:l.length<=i):Ge B<|vI l i:=wS mc (R:=fun y _=>y= .bool true) (.st 2<|.rg<|.go 3<|.fk .no<|.en<|.rt 5 .no)<|tN ((i:Int)<(l.length:Int)) uV
theorem goI(hl:l.length<=1000000):∀(n i:Nat),l.length - i=n->Ge B (vI l i)
 |0,i,h=>sE mc ae
 |n+1,i,h=>stp mc hl ae (TE (show i<l.length by omega))<|goI hl n (i+1) ae
end
def CC(args:List AV)(v:AV):Prop:=∃l:List Int,args=[ar encI l,ar encI l]/\l.length<=1000000/\v= .bool true
theorem CC.bJ(args:List AV)(v v':AV)(h:CC args v)(h':CC args v'):v=v':=by obtain⟨_,_,_,rfl⟩:=h;obtain⟨_,_,_,rfl⟩:=h';rfl
def AA:FuncId×KE:=(8,.val<|aK CC)
theorem ae8(hP:bY pg){L:bV}(h:aY L):aY<|AA::L:=by refine gu hP h dj Tryd.func8 fun args v e=>?_;obtain⟨l,rfl,hl,rfl⟩:=fQ e;refine⟨aI.1 aV,fun B mc=>?_⟩;rw[←gX];exact s0 mc<|goI mc hl _ 0 rfl
end MC
namespace RQ
open cj cY fD oJ iL ve xf CX Ay My MB MC Ik MA
open Mz (Jb mW jy qK)
variable {A:Prop}
abbrev iR(B:aE)(fr:AF)(s:AS):Prop:=Sm B Tryd.f3 (.bool true) fr s
theorem aj4{r:Nat->Nat}:dT [] r (mZ 6<|mY ng)<|mZ 6<|mY ng:=Kq (fun j hj=>(aZ.rZ).z) (fun j hj=>rfl) ae
theorem zI{α:Type}{l:List α}{i:Nat}{c:α}(h:l[i]? =some c)(hl:l.length<=60):i+1<=1000000000:=by have:=(TZ.1 h).1;omega
theorem Gf(rs:gz)(g:Nat)(p:List Int)(x:A)(h:g<6:=by omega):(0:Int)<=(g:Int)/\(g:Int)<(6:Int)/\cellsOf (some<|mZ 6<|cX (mY rs) g<|eG 272 p) (0+(g:Int).toNat*1) 1=some [eG 272 p]/\A:=by rw[T6];exact cW 6 rs g p x
theorem sW0(rs:gz)(g:Nat)(p:List Int)(n:Nat)(l:List Int)(x:A)(h:g<6:=by omega):(0:Int)<=(g:Int)/\(g:Int)<(6:Int)/\qf (some<|mZ 6<|cX (mY rs) g<|eG 272 p) (0+(g:Int).toNat*1) [sN n l]=some (iC 6 rs g p<|sN n l)/\A:=by rw[T6];exact sW 6 rs g p n l x
theorem wkJ{l0 l1:List<|Nat×AV}{S:cr}{r:List<|Int×Int}{n aP:Nat}(hr:r.length<=1000)(h:272<=n/\n<aP/\aP<1000)(hl:∀f:Nat->Nat,f 270=270->f 271=n->(∀k,top<=k->f k=k)->VZ f l0 l1):
 fy FU 270 aP l0 (aq++[(270,some<|bt<|dH S),(n,some<|az aO r)]) l1 (aq++[(270,some<|bt<|dH S),(271,some<|az aO r)]) 272:=by
 have ht:1000<top:=by unfold top;omega
 let f:Nat->Nat:=fun k=>if k=271 then n else if k<271\/top<=k then k else max k aP
 have f1:f 271=n:=if_pos rfl;have fl:∀k,k<271->f k=k:=fun k hk=>by show(if _ then _ else if _ then _ else _)=_;rw[if_neg ae,if_pos<|.inl hk]
 have ft:∀k,top<=k->f k=k:=fun k hk=>by show(if _ then _ else if _ then _ else _)=_;rw[if_neg ae,if_pos<|.inr hk]
 have obj:∀p∈aq++[(270,some<|bt<|dH S),(271,some<|az aO r)],p.1<272/\∀y,p.2=some y->y.iA=true/\∃x,(f p.1,some x)∈aq++[(270,some<|bt<|dH S),(n,some<|az aO r)]/\fc x y/\dT [] f x y:=fun p hp=>by
  rcases TP.1 hp with hp|hp
  ·obtain⟨a,b⟩:=yN (fz:=[]) (fun k hk=>fl k ae) p hp;refine⟨by omega,fun y hy=>?_⟩;obtain⟨c,d⟩:=b y hy;exact⟨c,y,by rw[fl _ ae];exact T7 _ HY,fc.refl _,d⟩
  ·simp only[Ty,TV,or_false] at hp;rcases hp with rfl|rfl
   ·exact⟨by show 270<272;omega,lI (TU _<|mi 0) (fl _ ae) lM (CA ft) rfl⟩
   ·exact⟨by show 271<272;omega,lI (TU _<|mi 1) f1 lM (lh.az (fun x=>⟨rfl,rfl⟩) (by rw[sS.vd.length];unfold top;omega)).z rfl⟩
 refine⟨[],f,fun k hk=>fl k ae,fun k h1 h2=>?_,ft,by omega,(hl f (fl _ ae) f1 ft).at,fun p hp=>?_,fun p hp q hq _ _ e=>?_,fun p hp=>mz,fun p hp=>mz⟩
 ·show aP<=(if _ then _ else if _ then _ else _)/\(if _ then _ else if _ then _ else _)<top;rw[if_neg ae,if_neg ae];omega
 ·obtain⟨a,b⟩:=obj p hp;refine⟨by omega,fun y hy=>?_⟩;refine⟨?_,b y hy⟩;show(if _ then _ else if _ then _ else _)<top;split
  ·omega
  ·rw[if_pos<|.inl ae];omega
 ·have a:=(obj p hp).1;have b:=(obj q hq).1;have e:(if p.1=271 then n else if p.1<271\/top<=p.1 then p.1 else max p.1 aP)=(if q.1=271 then n else if q.1<271\/top<=q.1 then q.1 else max q.1 aP):=e;split at e<;>split at e<;>(try split at e)<;>(try split at e)<;>omega
def zJ(v:AV)(l:Jb)(i:Nat):List<|Nat×AV:=[(1,ar aO l),(2,.ptr<|some (270,0)),(5,v),(6,.int .i64 (i:Int))]
def zK(v:AV)(l:Jb):List<|Nat×AV:=[(1,ar aO l),(2,.ptr<|some (270,0)),(5,v)]
def Bx(w:AV)(l:Jb)(v m:List Int):List<|Nat×AV:=[(1,ar aO l),(2,.ptr<|some (270,0)),(7,ar encI v),(8,ar encI m),(10,w)]
def jM(l:Jb)(v m mem:List Int)(i:Nat):List<|Nat×AV:=(11,.ptr<|some (271,0))::(12,.int .i64 (i:Int))::Bx (ar encI mem) l v m
def KN:List Item:=[.code<|aL pg 3 [1,1,1,0,1,0,0],.inLoop<|aL pg 3 [1,1,1,0,1,0,0],.inBlock 0,.code<|aL pg 3 [1,1,1,1]]
def KP:List Item:=[.code<|aL pg 3 [1,1,1,1,0],.code<|aL pg 3 [1,1,1,1,1]]
def KQ:List Item:=[.code<|aL pg 3 [1,1,1,1,1,1,1,1,0],.code<|aL pg 3 [1,1,1,1,1,1,1,1,1]]
def KH:List Item:=[.code<|aL pg 3 [1,1,1,1,1,1,1,1,1,0,1,0,0],.inLoop<|aL pg 3 [1,1,1,1,1,1,1,1,1,0,1,0,0],.inBlock 2,.code<|aL pg 3 [1,1,1,1,1,1,1,1,1,1]]
def eD(v:AV)(l:Jb)(i:Nat):AF:=⟨3,aA<|zJ v l i,(max Tryd.f3.ntmps 2),KN,[],none⟩
def DN(l r:Jb):AF:=⟨3,aA<|zK (ar aO r) l,(max Tryd.f3.ntmps 2),KP,[],none⟩
def To(l:Jb)(v m mem:List Int):AF:=⟨3,aA<|Bx (ar encI mem) l v m,(max Tryd.f3.ntmps 2),KQ,[],none⟩
def ep(l:Jb)(v m mem:List Int)(i:Nat):AF:=⟨3,aA<|jM l v m mem i,(max Tryd.f3.ntmps 2),KH,[],none⟩
abbrev mJ(S:cr)(n:Nat)(r:Jb):List<|Nat×Option ah:=aq++[(270,some<|bt<|dH S),(n,some<|az aO r)]
abbrev pN(n:Nat)(r:Jb):AV:=.slice (some (n,0)) r.length<|.au r.length 2
abbrev Gg(S:cr)(r:Jb):AS:=aj (mJ S 271 r) 272
abbrev sB(S:cr):AS:=aj (mb S) 271
abbrev sH(S:cr)(rs:gz):AS:=aj (Mc S 6 rs []) 400
abbrev sX(S:cr)(rs:gz)(g:Nat)(p:List Int):AS:=aj (Mo S 6 rs g p []) 400
variable {f:Nat->Nat} {fz:jl} {B:aE} {S:cr} {l r ra wa:Jb} {i g k:Nat} {mem mm m v p p':List Int} {rs:gz} {t x y st w e:Int} {c:Int×Int} {a b:AV}
theorem zP(h0:f 270=270)(ht:∀k,top<=k->f k=k)(h:gE fz f a b):VF fz f (zK a l)<|zK b l:=kh (pa ht)<|kh (aZ.ptr h0).z<|kh h trivial
theorem zQ(h0:f 270=270)(ht:∀k,top<=k->f k=k)(h:gE fz f a b):VF fz f (Bx a l v m)<|Bx b l v m:=kh (pa ht)<|kh (aZ.ptr h0).z<|kh (pa ht)<|kh (pa ht)<|kh h trivial
theorem zH(h0:f 270=270)(h1:f 271=271)(ht:∀k,top<=k->f k=k):VZ f (jM l v m mem i)<|jM l v m mem i:=kh (aZ.ptr h1).z<|kh vi<|zQ h0 ht<|pa ht
abbrev Tp(S:cr)(l r:Jb)(i n aP:Nat):Prop:=xR 270 aP 272 (zJ (pN n r) l i) (mJ S n r) (zJ (pN 271 r) l i) (mJ S 271 r) (eD (pN 271 r) l i)<|Gg S r
theorem lfJ(S:cr)(l r:Jb)(i n aP:Nat)(hr:r.length<=100)(h:272<=n/\n<aP/\aP<1000:=by omega):Tp S l r i n aP:=tP<|wkJ ae h fun f f0 f1 ht=>kh (pa ht)<|kh (aZ.ptr f0).z<|kh (aZ.slice f1).z<|kh vi trivial
abbrev LfP(S:cr)(l r:Jb)(a:AV)(o:List<|Nat×Option ah)(aP:Nat):Prop:=xR 270 aP 271 (zK a l) o (zK (ar aO r) l) (mb S) (DN l r)<|sB S
abbrev vT(S:cr)(l:Jb)(v m mem:List Int)(i:Nat)(rs:gz)(o:List<|Nat×Option ah)(aP:Nat):Prop:=xR 270 aP 400 (jM l v m mem i) o (jM l v m mem i) (Mc S 6 rs []) (ep l v m mem i)<|sH S rs
theorem DM(S:cr)(l:Jb)(v m mem:List Int)(i:Nat)(rs:gz)(g:Nat)(p:List Int)(y:Int)(hp:p.length<=100000)(hb:Bd rs)(hg:g<6):vT S l v m mem i (cX rs g<|p++[y]) (oP S 6 rs g p (p++[y]) [] 403 273) 404:=tP<|YH (by simp) Mg (TN _) hb ae hg ae ae fun r hr ht=>zH (rk hr) (rk hr) ht
variable (mc:Mt [Az,Ai,AY,tS,AA] B)
include mc
theorem w1(hA:bc (aK yD) []=some (.bool true))(hW:bc (aK yO) [.agg<|dH S]=some (.bool true)):iR B (sF 3 Tryd.f3 [.agg<|dH S,ar aO l])<|aj aq 270:=wS mc (R:=fun r0 _=>r0= .bool true) (.st 4<|.rg<|.go 1<|.kn (.bool true)<|.go 9<|.en<|.st 2<|.rg<|.kn (.bool true)<|.go 1<|.en<|.rt 2<|.no)<|ai (hW)<|ai (hA) uV
theorem w2(hA:bc (aK yD) []=some (.bool true))(hW:bc (aK yO) [.agg<|dH S]=some (.bool false))(h:l.length>60):iR B (sF 3 Tryd.f3 [.agg<|dH S,ar aO l])<|aj aq 270:=wS mc (R:=fun r0 _=>r0= .bool true) (.st 4<|.rg<|.go 1<|.kn (.bool false)<|.go 3<|.fk (.go 5<|.en<|.st 2<|.rg<|.kn (.bool true)<|.go 1<|.en<|.rt 2<|.no) .no)<|ai (hW)<|tY ((l.length:Int)>60)<|ai (hA) uV
theorem w3(hA:bc (aK yD) []=some (.bool true))(hW:bc (aK yO) [.agg<|dH S]=some (.bool false))(h:¬l.length>60)(H:iR B (eD nl l 0)<|sB S):iR B (sF 3 Tryd.f3 [.agg<|dH S,ar aO l])<|aj aq 270:=vC mc H (.st 4<|.rg<|.go 1<|.kn (.bool false)<|.go 3<|.fk .no<|.go 2<|.kn (.bool true)<|.go 2<|.en<|.st 9<|.ls (zJ nl l 0) (mb S) 271 .no)<|ai (hW)<|tN ((l.length:Int)>60)<|ai (hA) (show tO (zJ nl l 0) (mb S) (eD nl l 0) (sB S) from vN)
theorem n1(hl:l.length<=60)(hx:l[i]? =some c)(H:iR B (eD (pN 271<|[c]) l<|i+1)<|Gg S<|[c]):iR B (eD nl l i)<|sB S:=vC mc H (.st 2<|.rg<|.go 3<|.fk (.en<|.st 4<|.rg<|.go 3<|.cm<|.cn (aO c)<|.go 3<|.en<|.st 1<|.rg<|.go 1<|.vl (i6 ((i+1:Nat):Int))<|.go 1<|.en<|.st 1<|.rn (zJ (pN 272<|[c]) l<|i+1) (mJ S 272<|[c]) (zJ (pN 271<|[c]) l<|i+1) (mJ S 271<|[c]) 273 272 .no) .no)<|tY ((i:Int)<(l.length:Int)) (jW hx<|ai (wN ((i:Int)+1) (i+1) rfl<|zI hx hl) (show Tp S l ([c]) (i+1) 272 273 from lfJ S l ([c]) (i+1) 272 273<|Nat.le_of_ble_eq_true rfl))<|qK hx
theorem j1(hl:l.length<=60)(hx:l[i]? =some c)(hr:r.length<=60)(H:iR B (eD (pN 271<|r++[c]) l<|i+1)<|Gg S<|r++[c]):iR B (eD (pN 271 r) l i)<|Gg S r:=vC mc H (.st 2<|.rg<|.go 3<|.fk (.en<|.st 4<|.rg<|.go 3<|.cm<|.cn (aO c)<|.go 1<|.ap (Int×Int) aO r c<|.go 1<|.en<|.st 1<|.rg<|.go 1<|.vl (i6 ((i+1:Nat):Int))<|.go 1<|.en<|.st 1<|.rn (zJ (pN 273<|r++[c]) l<|i+1) (mJ S 273<|r++[c]) (zJ (pN 271<|r++[c]) l<|i+1) (mJ S 271<|r++[c]) 274 272 .no) .no)<|tY ((i:Int)<(l.length:Int)) (jW hx<|ap1 aO r c (K:=2) (ln:=16) (fun x=>⟨rfl,rfl⟩) (by unfold room;omega) dV<|ai (wN ((i:Int)+1) (i+1) rfl<|zI hx hl) (show Tp S l (r++[c]) (i+1) 273 274 from lfJ S l (r++[c]) (i+1) 273 274 Mg))<|qK hx
theorem n2(hi:l.length<=i)(H:iR B (DN l [])<|sB S):iR B (eD nl l i)<|sB S:=vC mc H (.st 2<|.rg<|.go 3<|.fk .no<|.en<|.st 3<|.rn (zK nl l) (mb S) (zK (ar aO []) l) (mb S) 271 271 .no)<|tN ((i:Int)<(l.length:Int)) (show LfP S l [] nl (mb S) 271 from tP<|alv dV fun f f0 ht=>zP (f0 _ ae) ht B0)
theorem j2(hi:l.length<=i)(hr:r.length<=60)(H:iR B (DN l r)<|sB S):iR B (eD (pN 271 r) l i)<|Gg S r:=vC mc H (.st 2<|.rg<|.go 3<|.fk .no<|.en<|.st 3<|.rn (zK (pN 271 r) l) (mJ S 271 r) (zK (ar aO r) l) (mb S) 272 271 .no)<|tN ((i:Int)<(l.length:Int)) (show LfP S l r (pN 271 r) (mJ S 271 r) 272 from tP<|wkF sS.vd dV dV fun f f0 ht=>zP (f0 _ ae) ht<|BZ (TC.2 rfl) ht rfl)
theorem p1(he:e≠0)(hV:bc (aK AW) [.agg<|dH S,ar aO r]=some (jy e)):iR B (DN l r)<|sB S:=wS mc (R:=fun r0 _=>r0= .bool true) (.rg<|.go 2<|.kn (jy e)<|.go 7<|.en<|.st 2<|.rg<|.go 1<|.fk (.en<|.rt 5<|.no) .no)<|ai (hV)<|tY (e≠0) uV
theorem p2(hS:S.init.length<=32)(hv:v.length=l.length)(hf:top<=nm (S.init.map encI).flatten/\cZ FU (nm (S.init.map encI).flatten) 0 (S.init.length*1)=some (S.init.map encI).flatten/\S.init.length=S.init.length)(hV:bc (aK AW) [.agg<|dH S,ar aO r]=some (mW m v))(H:iR B (To l v m<|[]++S.init)<|sB S):iR B (DN l r)<|sB S:=vC mc H (.rg<|.go 2<|.kn (mW m v)<|.go 7<|.en<|.st 7<|.rg<|.go 4<|.fk .no<|.en<|.st 3<|.rg<|.go 3<|.al Int encI [] S.init<|.go 1<|.en<|.st 1<|.rn (Bx (sN 272<|[]++S.init) l v m) (aq++[(270,some<|bt<|dH S),(272,some<|az encI<|[]++S.init)]) (Bx (ar encI<|[]++S.init) l v m) (mb S) 273 271 .no)<|ai (hV)<|tN ((v.length:Int)≠(l.length:Int))<|IP encI [] S.init (K:=1) (ln:=8) hf (fun x=>⟨rfl,rfl⟩) (by simp only[Ub];unfold room;omega) (by simp only[Ub];unfold top;omega) (show xR 270 273 271 (Bx (sN 272<|[]++S.init) l v m) (aq++[(270,some<|bt<|dH S),(272,some<|az encI<|[]++S.init)]) (Bx (ar encI<|[]++S.init) l v m) (mb S) (To l v m<|[]++S.init) (sB S) from tP<|wkF eI dV (by rw[UB];unfold top;omega) fun f f0 ht=>zQ (f0 _ ae) ht<|BZ (TC.2 rfl) ht rfl)
theorem q1(H:iR B (ep l v m mem 0)<|sH S ng):iR B (To l v m mem)<|sB S:=vC mc H (.st 6<|.rn (jM l v m mem 0) (aq++([(270,some<|bt<|dH S),(271,some<|mZ 6<|mY ng)]++pT fun _=>none)) (jM l v m mem 0) (Mc S 6 ng []) 272 400 .no) (show vT S l v m mem 0 ng (aq++([(270,some<|bt<|dH S),(271,some<|mZ 6<|mY ng)]++pT fun _=>none)) 272 from tP<|Zw (fun r=>aj4) fun r hr ht=>zH (ra hr) (rk hr) ht)
theorem o1(hp:rs g=p)(hb:Bd rs)(hg:g<6)(H:iR B (ep l v m mem i)<|sX S rs g p):iR B (ep l v m mem i)<|sH S rs:=vC mc H (.rn (jM l v m mem i) (Mc S 6 rs []) (jM l v m mem i) (Mo S 6 rs g p []) 400 400 .no) (show xR 270 400 400 (jM l v m mem i) (Mc S 6 rs []) (jM l v m mem i) (Mo S 6 rs g p []) (ep l v m mem i) (sX S rs g p) from tP<|X5 hp hb (TN _) ae hg ae ae fun r hr ht=>zH (rk hr) (rk hr) ht)
theorem t0(hl:l.length<=60)(hx:l[i]? =some ((g:Int),(k:Int)))(hg:g<S.aX.length)(Tq:g<6)(hk:k<(bF S g).length)(hb:Bd rs)(hv:v[i]? =some y)(he:k=([]:List Int).length)(mH:([]:List Int).length<=100000)(hD:aK o6 [ar aM<|fF S g k,ar encI mem,nl]=some (mC y false ra wa mm st))(H:iR B (ep l v m mm<|i+1)<|sH S<|cX rs g<|([])++[y]):iR B (ep l v m mem i)<|sX S rs g<|[]:=vC mc H (.st 2<|.rg<|.go 3<|.fk (.en<|.st 5<|.rg<|.go 2<|.cm<|.cn (aO ((g:Int),(k:Int)))<|.go 2<|.en<|.st 2<|.rg<|.go 2<|.fk .no<|.go 6<|.fk .no<|.go 4<|.fk .no<|.go 4<|.fk .no<|.go 8<|.cm<|.cn ([ar iI<|bF S g])<|.go 1<|.fk .no<|.go 6<|.tw<|.ld [eG 272<|[]]<|.go 1<|.fk .no<|.go 1<|.en<|.st 3<|.rg<|.go 4<|.cm<|.cn ([ar iI<|bF S g])<|.go 2<|.cm<|.cn ([ar aM<|fF S g k])<|.go 3<|.tw<|.ld [eG 272<|[]]<|.cg (mC y false ra wa mm st) dG dQ<|.go 6<|.en<|.st 2<|.rg<|.go 11<|.cm<|.cn (encI y)<|.fk .no<|.go 1<|.en<|.st 4<|.rg<|.go 4<|.tw<|.ld [eG 272<|[]]<|.go 4<|.tw<|.oU (iC 6 rs g ([])<|sN 403<|([])++[y])<|.en<|.st 1<|.rg<|.go 1<|.vl (i6 ((i+1:Nat):Int))<|.go 1<|.en<|.st 1<|.rn (jM l v m mm<|i+1) (oP S 6 rs g ([]) (([])++[y]) [] 403 273) (jM l v m mm<|i+1) (Mc S 6 (cX rs g<|([])++[y]) []) 404 400 .no) .no)<|tY ((i:Int)<(l.length:Int)) (jW hx<|tN ((g:Int)<0)<|tN ((g:Int)>=(S.aX.length:Int))<|tN ((g:Int)>5)<|tN ((k:Int)<0)<|lJ S g<|tN ((k:Int)>=((bF S g).length:Int))<|Gf rs g ([])<|tN ((k:Int)≠((([]:List Int).length:Nat):Int))<|lJ S g<|zC S g k<|Gf rs g ([])<|doN (L:=[Az,Ai,AY,tS,AA]) cf hD<|nW hv<|tN (y≠y)<|Gf rs g ([])<|sW0 rs g ([]) 403 (([])++[y])<|ai (wN ((i:Int)+1) (i+1) rfl<|zI hx hl) (show vT S l v m mm (i+1) (cX rs g<|([])++[y]) (oP S 6 rs g ([]) (([])++[y]) [] 403 273) 404 from DM S l v m mm (i+1) rs g ([]) y mH hb Tq))<|qK hx
theorem t1(hl:l.length<=60)(hx:l[i]? =some ((g:Int),(k:Int)))(hg:g<S.aX.length)(Tq:g<6)(hk:k<(bF S g).length)(hb:Bd rs)(hv:v[i]? =some y)(he:k=(w::p':List Int).length)(mH:(w::p':List Int).length<=100000)(hD:aK o6 [ar aM<|fF S g k,ar encI mem,.ab (am ((w::p':List Int).map encI).flatten) 0 (w::p':List Int).length]=some (mC y false ra wa mm st))(H:iR B (ep l v m mm<|i+1)<|sH S<|cX rs g<|(w::p')++[y]):iR B (ep l v m mem i)<|sX S rs g<|w::p':=vC mc H (.st 2<|.rg<|.go 3<|.fk (.en<|.st 5<|.rg<|.go 2<|.cm<|.cn (aO ((g:Int),(k:Int)))<|.go 2<|.en<|.st 2<|.rg<|.go 2<|.fk .no<|.go 6<|.fk .no<|.go 4<|.fk .no<|.go 4<|.fk .no<|.go 8<|.cm<|.cn ([ar iI<|bF S g])<|.go 1<|.fk .no<|.go 6<|.tw<|.ld [eG 272<|w::p']<|.go 1<|.fk .no<|.go 1<|.en<|.st 3<|.rg<|.go 4<|.cm<|.cn ([ar iI<|bF S g])<|.go 2<|.cm<|.cn ([ar aM<|fF S g k])<|.go 3<|.tw<|.ld [eG 272<|w::p']<|.cg (mC y false ra wa mm st) oG (oQ<|w::p')<|.go 6<|.en<|.st 2<|.rg<|.go 11<|.cm<|.cn (encI y)<|.fk .no<|.go 1<|.en<|.st 4<|.rg<|.go 4<|.tw<|.ld [eG 272<|w::p']<|.go 3<|.ap Int encI (w::p') y<|.tw<|.oU (iC 6 rs g (w::p')<|sN 403<|(w::p')++[y])<|.en<|.st 1<|.rg<|.go 1<|.vl (i6 ((i+1:Nat):Int))<|.go 1<|.en<|.st 1<|.rn (jM l v m mm<|i+1) (oP S 6 rs g (w::p') ((w::p')++[y]) [] 403 273) (jM l v m mm<|i+1) (Mc S 6 (cX rs g<|(w::p')++[y]) []) 404 400 .no) .no)<|tY ((i:Int)<(l.length:Int)) (jW hx<|tN ((g:Int)<0)<|tN ((g:Int)>=(S.aX.length:Int))<|tN ((g:Int)>5)<|tN ((k:Int)<0)<|lJ S g<|tN ((k:Int)>=((bF S g).length:Int))<|Gf rs g (w::p')<|tN ((k:Int)≠(((w::p':List Int).length:Nat):Int))<|lJ S g<|zC S g k<|Gf rs g (w::p')<|doO (L:=[Az,Ai,AY,tS,AA]) cf hD mH<|nW hv<|tN (y≠y)<|Gf rs g (w::p')<|aW y mH<|sW0 rs g (w::p') 403 ((w::p')++[y])<|ai (wN ((i:Int)+1) (i+1) rfl<|zI hx hl) (show vT S l v m mm (i+1) (cX rs g<|(w::p')++[y]) (oP S 6 rs g (w::p') ((w::p')++[y]) [] 403 273) 404 from DM S l v m mm (i+1) rs g (w::p') y mH hb Tq))<|qK hx
theorem z1(hi:l.length<=i)(hI:bc (aK CC) [ar encI mem,ar encI m]=some (.bool true)):iR B (ep l v m mem i)<|sH S rs:=wS mc (R:=fun r0 _=>r0= .bool true) (.st 2<|.rg<|.go 3<|.fk .no<|.en<|.st 3<|.rg<|.go 2<|.kn (.bool true)<|.go 1<|.en<|.rt 2<|.no)<|tN ((i:Int)<(l.length:Int))<|ai (hI) uV
end RQ
namespace ZA
open gJ cj oJ sS Mw uL LQ ve xf CX Ay My Im Ik MA MB MC RQ
open Mz (Jb mW jy qK)
variable {S:cr}
def LR(S:cr):Prop:=∀t∈S.aX,∀u∈t,sD 60 u
theorem aie(hw:CB S=false)(hk:LR S):vg S:=fun t ht u hu=>by obtain⟨_,_,h⟩:=Xs hw;have hm:=(h t ht).2 u hu;obtain⟨d1,d2⟩:=D0 22 60 u ae hm;exact⟨d2,d1,fun n=>ae2 hm<|hk t ht u hu⟩
theorem aj5(q:Int×List Int×List Int):(vJ q).hi=true:=by
 unfold vJ;split
 ·show((ar encI q.2.2).hi&&((ar encI q.2.1).hi&&true))=true;rw[show(ar encI q.2.2).hi=true from aI.2<|cR _,show(ar encI q.2.1).hi=true from aI.2<|cR _];rfl
 ·rfl
theorem aif{l:List<|Int×Int}(hd:vg S)(hl:l.length<=60)(hi:S.init.length<=100000):bc (aK AW) [.agg<|dH S,ar aO l]=some (vJ<|rB S l):=eV (eQ AW.bJ ⟨S,l,rfl,hd,⟨hl,hi⟩,rfl⟩) (by rw[TS,PX,TS,show(ar aO l).hi=true from aI.2<|cR _];rfl)<|aj5 _
theorem aih{l:List Int}(h:l.length<=1000000):bc (aK CC) [ar encI l,ar encI l]=some (.bool true):=eV (eQ CC.bJ ⟨l,rfl,h,rfl⟩) (by rw[TS,show(ar encI l).hi=true from aI.2<|cR _,TS,show(ar encI l).hi=true from aI.2<|cR _];rfl) rfl
theorem QD:bc (aK yD) []=some (.bool true):=eV (eQ yD.bJ ⟨rfl,rfl⟩) rfl rfl
theorem agM(S:cr):bc (aK yO) [.agg<|dH S]=some (.bool<|CB S):=eV (eQ yO.bJ ⟨S,rfl,rfl⟩) (by rw[TS,PX];rfl) rfl
theorem Xu{B:aE}{S:cr}{l:List<|Int×Int}(mc:Mt [Az,Ai,AY,tS,AA] B)(hl:l.length<=60)(H:iR B (DN l l)<|sB S):
 ∀(n i:Nat),l.length - i=n->i<=l.length->iR B (eD (pN 271<|l.take i) l i) (Gg S<|l.take i)
 |0,i,h,hi=>by refine j2 mc ae (by rw[T4];omega) ?_;rw[UG ae];exact H
 |n+1,i,h,hi=>by
  have hi:i<l.length:=by omega
  obtain⟨c,hc⟩:∃c,l[i]? =some c:=⟨_,TE hi⟩;have:=Xu mc hl H n (i+1) ae ae;rw[VW,hc] at this;exact j1 mc hl hc (by rw[T4];omega) this
theorem alw{out w:List Int}{y:Int}:(out++[y]++w)[out.length]? =some y:=by rw[Um,UJ<|Tz _,Nat.sub_self];rfl
theorem AU{B:aE}{S:cr}{l:List<|Int×Int}{m v:List Int}(mc:Mt [Az,Ai,AY,tS,AA] B)(hd:vg S)(hc:zd S)(hl:l.length<=60)(hm:m.length<=1000000):∀(r:List<|Int×Int) (i:Nat) (mem out:List Int) (rs:gz),l.drop i=r->Zy S mem out rs i->n9 S r mem out rs=(0,m,v)->
 i<=l.length->iR B (ep l v m mem i) (sH S rs)
 |[],i,mem,out,rs,h,kp,e,hi=>by
  have:l.length - i=0:=by rw[←Vo,h];rfl
  cases e;exact z1 mc ae<|aih hm
 |(t,x)::r,i,mem,out,rs,h,kp,e,hi=>by
  have hi:i<l.length:=by
   have:l.length - i=r.length+1:=by rw[←Vo,h];rfl
   omega
  have hj:l[i]? =some (t,x):=by have:=congrArg (fun l=>l[0]?) h;rw[Ue] at this;exact this
  have h':l.drop (i+1)=r:=by have:=congrArg (UH 1) h;rw[Up] at this;exact this
  have ko:=kp.o;have kr:=kp.r;obtain⟨g,k,d,rfl,rfl,hg,hk,hp,e1,e2,e3⟩:=Pn e;obtain⟨d',e1',hD⟩:=YL hd hc kp.m hg hk hp;rw[e1] at e1';cases e1';have hb:Bd rs:=fun j=>by have:=kr j;omega
  have hG:=hc.1.2;obtain⟨w,ew,hw⟩:=P0 _ _ _ _ e3;have hv:v[i]? =some d.x:=by rw[ew, ←ko];exact alw
  have next:=AU mc hd hc hl hm r (i+1) (oZ mem<|nf d) (out++[d.x]) (cX rs g<|rs g++[d.x]) h' ⟨by rw[Ko];exact kp.m,by rw[TM];show _+1=_;omega,Xt kr rfl d.x⟩ e3 hi
  have hs:Bv mem d=mC d.x false d.rs (nf d) (oZ mem<|nf d) d.m.steps:=by rw[←e2]
  have op:∀{p:List Int},rs g=p->iR B (ep l v m mem i) (sX S rs g p)->iR B (ep l v m mem i) (sH S rs):=fun e H=>o1 mc e hb ae H;cases e:rs g with
  |nil=>
   have hD:=(hD nl<|.inl ⟨rfl,e⟩).trans<|congrArg some hs;rw[e] at hp next
   exact op e<|t0 mc hl hj hg ae hk hb hv hp (TN _) hD next
  |cons w p=>
   have hD:=(hD _<|.inr ⟨_,0,rfl,RH _⟩).trans<|congrArg some hs;have kQ:=kr g;rw[e] at hp next hD kQ
   exact op e<|t1 mc hl hj hg ae hk hb hv hp ae hD next
theorem Xv{S:cr}:∀(r:List<|Int×Int) (mem out:List Int) (rs:gz) {m v:List Int},n9 S r mem out rs=(0,m,v)->m.length=mem.length
 |[],mem,out,rs,m,v,h=>by cases h;rfl
 |(t,x)::r,mem,out,rs,m,v,h=>by obtain⟨_,_,d,_,_,_,_,_,_,_,h⟩:=Pn h;rw[Xv r _ _ _ h,Ko]
theorem ae9{B:aE}{l:List<|Int×Int}(mc:Mt [Az,Ai,AY,tS,AA] B)(hk:LR S):iR B (sF 3 Tryd.f3 [.agg<|dH S,ar aO l])<|aj aq 270:=by
 have hW:=agM S;cases q:CB S with
 |true=>rw[q] at hW;exact w1 mc QD hW
 |false=>
  rw[q] at hW;by_cases q2:l.length>60
  ·exact w2 mc QD hW q2
  ·have hl:l.length<=60:=by omega
   have hd:=aie q hk;have hi:=(Xs q).1;have hV:=aif hd hl (by omega:S.init.length<=100000);have P:iR B (DN l l)<|sB S:=by
    by_cases e:(rB S l).1=0
    ·have hc:zd S:=Ut fun z=>by unfold rB at e;rw[if_neg z] at e;have e:(4:Int)=0:=e;omega
     have eg:rB S l=n9 S l S.init [] ng:=if_pos hc;have eg:n9 S l S.init [] ng=(0,(rB S l).2.1,(rB S l).2.2):=by rw[←eg, ←e]
     rw[show vJ (rB S l)=mW (rB S l).2.1 (rB S l).2.2 from if_pos e] at hV;obtain⟨w,ew,hw⟩:=P0 _ _ _ _ eg;have hm:=Xv _ _ _ _ eg;have h1:=hc.1.1.1.1;have hf:cZ FU (nm (S.init.map encI).flatten) 0 (S.init.length*1)=some (S.init.map encI).flatten:=by
      rcases GS (enc:=encI) (K:=1) (fun _=>rfl) (dP.ar eI S.init) with h|h
      ·exact h
      ·rw[h] at h1;exact absurd h1.1 (by decide)
     refine p2 mc h1.2 (by rw[ew];exact hw) ⟨cR _,hf,rfl⟩ hV<|q1 mc ?_;rw[UB];exact AU mc hd hc hl ae l 0 S.init [] ng rfl ⟨rfl,rfl,fun j=>TN _⟩ eg<|TN _
    ·rw[show vJ (rB S l)= .tuple [nl,nl,i6 (rB S l).1] from if_neg e] at hV;exact p1 mc e hV
   refine w3 mc QD hW q2 ?_;cases l with
   |nil=>exact n2 mc (TN _) P
   |cons c r=>exact n1 mc hl rfl<|Xu mc hl P _ 1 rfl (by show 1<=r.length+1;omega)
end ZA
