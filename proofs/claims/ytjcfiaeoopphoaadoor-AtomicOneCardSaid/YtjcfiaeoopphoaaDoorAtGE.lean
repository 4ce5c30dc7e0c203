import Derived.Test.YtjcfiaeoopphoaaDoorAtGD
import Derived.Test.YtjcfiaeoopphoaaDoorRnGC
set_option maxRecDepth 100000
set_option maxHeartbeats 8000000
set_option linter.unusedSimpArgs false
set_option linter.unusedVariables false
open Bool renaming eq_false_iff → UP
open Classical renaming byContradiction → Ut
open Int renaming le_refl → Vd, le_trans → VY, tmod → Uh, toNat_natCast → Uy
open List renaming Perm.refl → UL, all_cons → TS, all_eq_true → TG, append_assoc → Um, append_inj → Vq, append_nil → U8, cons.injEq → TQ, cons_append → Vf, drop → UH, drop_drop → Up, drop_eq_getElem_cons → U6, drop_eq_nil_iff → UO, drop_of_length_le → Vc, drop_zero → T8, eq_nil_of_length_eq_zero → UY, ext_getElem? → U2, flatten_cons → T5, foldl_cons → Un, getD_eq_getElem?_getD → T9, getElem?_cons_zero → UA, getElem?_drop → Ue, getElem?_eq_getElem → TE, getElem?_eq_none → Uf, getElem?_eq_some_iff → TZ, getElem?_map → Uc, getElem?_range → Vt, getElem?_take_of_lt → U4, getElem_mem → VD, length_append → TM, length_cons → TL, length_dropLast → Wu, length_map → T3, length_nil → Ub, length_pos_iff → V4, length_range → Ws, length_reverse → Vr, length_set → T2, length_take → T4, map_append → Vm, map_cons → T0, map_nil → U5, mem_append → TP, mem_append_left → T7, mem_append_right → TU, mem_cons → Ty, mem_cons_of_mem → TB, mem_cons_self → TA, mem_flatten → Vb, mem_map → TI, mem_of_getElem? → TY, mem_of_mem_drop → Wt, mem_range → Uz, mem_reverse → Wy, mem_singleton → TC, nil_append → UB, nodup_nil → UD, not_mem_nil → TV, range → Ui, reverse_append → Ww, reverse_cons → Wx, reverse_nil → VB, reverse_reverse → UC, take_add_one → VW, take_append → Wl, take_append_drop → VP, take_left → VX, take_length → UM, take_of_length_le → UG, take_succ_cons → Vs, take_zero → Vp
open Nat renaming add_mul → Uo, add_zero → Ul, beq → Tx, ble → Tw, blt → Tv, le_add_right → Ve, le_refl → Tz, le_trans → TO, lt_or_ge → UX, mul_le_mul_right → UW, mul_one → Va, one_mul → UN, zero_add → T6, zero_le → TN, zero_mul → UE
open Go Go.Rn Go.RowKit Go.Proofs
noncomputable section
namespace jV
open cj fq gJ jd cO ia
variable {fs:List Fr}
def pb:Nat->Nat->List Fr->bp->Option (Nat×List Fr×bp)
  |0,_,_,_=>none
  | k +1,n,fs,b=>if n=0 then some (n,fs,b) else
    let f:=aD fs<|(n:Int) - 1
    if f.aw<(f.block.length:Int) then some (n,fs,b)
    else if 0<f.turns then
      let di:=fs.set ((n:Int) - 1).toNat {f with aw:=0,turns:=f.turns - 1}
      if 0<(f.block.length:Int) then some (n,di,b) else pb k n di b
    else if f.cq=true then(if 2<=b.length then pb k ((n:Int) - 1).toNat fs (gA b) else none)
    else pb k ((n:Int) - 1).toNat fs b
def iM(fs:List Fr):Prop:=∀f∈fs,(0<=f.turns/\f.turns<=1000000)/\f.kept.length=8
theorem iM.at(h:iM fs)(z:Int):0<=(aD fs z).turns/\(aD fs z).turns<=1000000:=by
 unfold aD;by_cases q:z.toNat<fs.length
 ·rw[T9,TE q];exact(h _<|VD q).1
 ·rw[T9,Uf ae];show(0:Int)<=0/\(0:Int)<=1000000;omega
theorem iM.kept(h:iM fs){z:Int}(h0:0<=z)(hz:z<(fs.length:Int)):(aD fs z).kept.length=8:=(h _<|TY<|qY h0 hz).2
theorem iM.set(h:iM fs){i:Nat}{f:Fr}(hf:(0<=f.turns/\f.turns<=1000000)/\f.kept.length=8):iM<|fs.set i f:=fun g hg=>by
 rcases List.mem_or_eq_of_mem_set hg with q|q
 ·exact h g q
 ·rw[q];exact hf
theorem N5{b:bp}(h:dz b)(h2:2<=b.length):iZ (ir bZ Kf) (bZ b) []=some ((.int .i64 0:AV),bZ<|gA b):=by
 unfold iZ;rw[B1 ua];show(match ([]:List AV).all AV.hi with
  |true=>((if 2<=List.length b then some ((AV.int .i64 0:AV),gA b) else none).map (fun p:AV×bp=>((p.1,bZ p.2):AV×AV))).bind fun p:AV×AV=>match p.1.hi with
   |true=>some p
   |false=>none
  |false=>none)=_
 rw[if_pos h2];rfl
theorem Jm{B:aE}(mc:Mt [Eo] B){a:MN}{c:Nat}{n':Nat}{di:List Fr}{b':bp}:∀(k n:Nat) (fs:List Fr) (b:bp),pb k n fs b=some (n',di,b')->dz b->iM fs->n<=fs.length->n<=c->fs.length<=1000000->
 av pg B 273 (iE 270 3 pg (aC Tryd.f40) (.tuple [])<|stS a n' c (bZ b') di) frS (aj (aq++bf (dW 270 3<|stS a n c (bZ b) fs)) 273)
 |0,n,fs,b,h,_,_,_,_,_=>by cases h
 |k+1,n,fs,b,h,hb,hf,hn,hc,hl=>by
  unfold pb at h;have ay:=hf.at<|(n:Int) - 1;have HG:n≠0->∀f:Fr,f={aD fs ((n:Int) - 1) with aw:=0,turns:=(aD fs<|(n:Int) - 1).turns - 1}->0<(aD fs<|(n:Int) - 1).turns->iM (fs.set ((n:Int) - 1).toNat f):=fun pH f e h0=>hf.set (by subst e;refine⟨?_,hf.kept (z:=(n:Int) - 1) ae ae⟩;show 0<=(aD fs<|(n:Int) - 1).turns - 1/\(aD fs<|(n:Int) - 1).turns - 1<=1000000;omega);by_cases n0:n=0
  ·rw[if_pos n0] at h;injection h with h;injection h with e1 h;injection h with e2 e3
   subst e1;subst e2;subst e3;exact E7 (u':=.tuple []) mc hn hc hl (by have:top=549755813888:=rfl;omega) ay (fun q=>absurd q.1 ae) (fun _=>rfl) (fun _ _=>rfl) (fun q _ _ _=>absurd q ae) (fun q=>absurd q.1 ae) (fun q=>absurd q.1 ae) fun q=>absurd q.1 ae
  ·rw[if_neg n0] at h;simp only at h;have hz:((n:Int) - 1).toNat<=n:=by omega
   have hr:fs.length*13<=top:=by have:top=549755813888:=rfl;omega
   by_cases a1:(aD fs<|(n:Int) - 1).aw<(((aD fs<|(n:Int) - 1).block.length:Nat):Int)
   ·rw[if_pos a1] at h;injection h with h;injection h with e1 h;injection h with e2 e3
    subst e1;subst e2;subst e3;exact E7 (u':=.tuple []) mc hn hc hl hr ay (fun q=>absurd a1 q.2.1) (fun _=>rfl) (fun _ _=>rfl) (fun _ q _ _=>absurd a1 q) (fun q=>absurd a1 q.2.1) (fun q=>absurd a1 q.2.1) fun q=>absurd a1 q.2.1
   ·rw[if_neg a1] at h;by_cases a2:0<(aD fs<|(n:Int) - 1).turns
    ·rw[if_pos a2] at h;by_cases a3:0<(((aD fs<|(n:Int) - 1).block.length:Nat):Int)
     ·rw[if_pos a3] at h;injection h with h;injection h with e1 h;injection h with e2 e3
      subst e1;subst e2;subst e3;exact E7 (u':=.tuple []) mc hn hc hl hr ay (fun q=>absurd a2 q.2.2.1) (fun q=>absurd q ae) (fun _ q=>absurd q a1) (fun _ _ _ _=>rfl) (fun q=>absurd a3 q.2.2.2) (fun q=>absurd a2 q.2.2.1) fun q=>absurd a2 q.2.2.1
     ·rw[if_neg a3] at h;have ih:=Jm (c:=c) (a:=a) mc k n _ b h hb (HG n0 _ rfl a2) (by rw[T2];exact hn) hc (by rw[T2];exact hl);exact E7 (u':=.tuple []) mc hn hc hl hr ay (fun q=>absurd a2 q.2.2.1) (fun q=>absurd q ae) (fun _ q=>absurd q a1) (fun _ _ _ q=>absurd q a3) (fun _=>ih) (fun q=>absurd a2 q.2.2.1) fun q=>absurd a2 q.2.2.1
    ·rw[if_neg a2] at h;by_cases a4:(aD fs<|(n:Int) - 1).cq=true
     ·rw[if_pos a4] at h;by_cases a5:2<=b.length
      ·rw[if_pos a5] at h;have ih:=Jm (c:=c) (a:=a) mc k _ fs _ h (JV hb a5) hf ae ae hl;exact E7 (u':=bZ<|gA b) mc hn hc hl hr ay (fun _=>N5 hb a5) (fun q=>absurd q ae) (fun _ q=>absurd q a1) (fun _ _ q _=>absurd q a2) (fun q=>absurd q.2.2.1 a2) (fun _=>ih) (fun q=>by rw[a4] at q;cases q.2.2.2)
      ·rw[if_neg a5] at h;cases h
     ·rw[if_neg a4] at h;have ih:=Jm (c:=c) (a:=a) mc k _ fs b h hb hf ae ae hl;exact E7 (u':=.tuple []) mc hn hc hl hr ay (fun q=>absurd q.2.2.2 a4) (fun q=>absurd q ae) (fun _ q=>absurd q a1) (fun _ _ q _=>absurd q a2) (fun q=>absurd q.2.2.1 a2) (fun q=>absurd q.2.2.2 a4) fun _=>ih
theorem ND:∀(k m n:Nat) (fs:List Fr) (b:bp) (r:Nat×List Fr×bp),pb k n fs b=some r->k<=m->pb m n fs b=some r
 |0,_,_,_,_,_,h,_=>by cases h
 |k+1,0,_,_,_,_,_,hm=>by omega
 |k+1,m+1,n,fs,b,r,h,hm=>by
  have ih:=fun n fs b h=>ND k m n fs b r h ae;unfold pb at h ⊢;simp only at h ⊢;split at h
  ·rename_i q;rw[if_pos q];exact h
  ·rename_i q;rw[if_neg q];split at h
   ·rename_i q;rw[if_pos q];exact h
   ·rename_i q;rw[if_neg q];split at h
    ·rename_i q;rw[if_pos q];split at h
     ·rename_i q;rw[if_pos q];exact h
     ·rename_i q;rw[if_neg q];exact ih _ _ _ h
    ·rename_i q;rw[if_neg q];split at h
     ·rename_i q;rw[if_pos q];split at h
      ·rename_i q;rw[if_pos q];exact ih _ _ _ h
      ·cases h
     ·rename_i q;rw[if_neg q];exact ih _ _ _ h
theorem K5:∀l:List Int,l.length=8->l=[l.getD 0 0,l.getD 1 0,l.getD 2 0,l.getD 3 0,l.getD 4 0,l.getD 5 0,l.getD 6 0,l.getD 7 0]
 |[a,b,c,d,e,f,g,h],_=>rfl
theorem adA(f g:Fr)(hf:f.kept.length=8)(hg:g.kept.length=8)(h:aS f=aS g):f=g:=by
 obtain⟨a1,a2,a3,a4,a5,a6⟩:=f;obtain⟨b1,b2,b3,b4,b5,b6⟩:=g;simp only[aS,eight,Vf,UB,TQ,AV.int.injEq,AV.bool.injEq,true_and,_root_.and_true] at h;obtain⟨h1,rfl,rfl,rfl,c0,c1,c2,c3,c4,c5,c6,c7,h6⟩:=h;rw[JA h1,WM h6];have e:a5=b5:=by rw[K5 a5 hf,K5 b5 hg,c0,c1,c2,c3,c4,c5,c6,c7]
 rw[e]
theorem GO:∀(l m:List Fr),iM l->iM m->(l.map aS).flatten=(m.map aS).flatten->l=m
 |[],[],_,_,_=>rfl
 |[],y::m,_,_,h=>by have:=congrArg List.length h;simp only[U5,List.flatten_nil,Ub,T0,T5,TM,jO] at this;omega
 |x::l,[],_,_,h=>by have:=congrArg List.length h;simp only[U5,List.flatten_nil,Ub,T0,T5,TM,jO] at this;omega
 |x::l,y::m,hl,hm,h=>by rw[T0,T0,T5,T5] at h;obtain⟨e1,e2⟩:=Vq h (by rw[jO,jO]);rw[adA x y (hl x TA).2 (hm y TA).2 e1,GO l m (fun f hf=>hl f<|TB _ hf) (fun f hf=>hm f<|TB _ hf) e2]
def fK(st:VS)(rest:List AV)(p:AV×VS):Prop:=∃(a:MN) (n c k n':Nat) (fs di:List Fr) (b b':bp),tL st a/\rest=[]/\st.R.len=n/\st.R.cap= .au c 13/\st.u=bZ b/\st.row=(fs.map aS).flatten/\dz b/\iM fs/\n<=fs.length/\n<=c/\fs.length<=1000000/\pb k n fs b=some (n',di,b')/\p=(.tuple [],⟨⟨st.R.pre,n',.au c 13,st.R.post⟩,bZ b',(di.map aS).flatten⟩)
theorem fK.bJ(st:VS)(rest:List AV)(v v':AV×VS)(h:fK st rest v)(h':fK st rest v'):v=v':=by
 obtain⟨a,n,c,k,n',fs,di,b,b',_,_,e1,e2,e3,e4,_,f1,_,_,_,s1,rfl⟩:=h;obtain⟨a1,m,d,j,m',gs,gs',b1,MY,_,_,g1,g2,g3,g4,_,f2,_,_,_,s2,rfl⟩:=h';rw[e1] at g1;subst g1;rw[e2] at g2;injection g2 with g2
 subst g2;rw[e3] at g3;have e:=ua _ _ g3;subst e;rw[e4] at g4;have e:=GO _ _ f1 f2 g4;subst e;have q1:=ND k (max k j) _ _ _ _ s1<|Nat.le_max_left _ _;have q2:=ND j (max k j) _ _ _ _ s2<|Nat.le_max_right _ _;rw[q1] at q2;injection q2 with q2;injection q2 with q2 q3;injection q3 with q3 q4
 rw[q2,q3,q4]
def Er:FuncId×KE:=(40,.raw<|nN 10 3<|eJ fK)
theorem akW(hP:bY pg){L:bV}(h:aY L):aY<|Er::L:=by
 refine JX hP gW zb jT jb mU mA h (acD hP<|dj) Tryd.func40 (body:=aL pg 40 []) aV aV fun st rest y br e=>?_;obtain⟨a,n,c,k,n',fs,di,b,b',⟨h1,h2,h3⟩,rfl,e1,e2,e3,e4,hb,hf,hn,hc,hl,hs,hp⟩:=Kh e;injection hp with jx fI
 subst jx;subst fI;refine⟨aI.1 aV,fun B mc=>?_⟩;obtain⟨⟨pre,len,cap,post⟩,u,row⟩:=st;simp only at h1 h2 e1 e2 e3 e4;subst h1;subst h2;subst e1;subst e2;subst e3;subst e4;exact ahV (u':=.tuple []) mc<|Jm mc k _ fs b hs hb hf hn hc hl
end jV
namespace kM
open cj fq gJ cO jV u0
variable {j nt:Nat} {s:AS} {t:Tr AV} {T:Prop} {K:List Item}
def Nk:Code:=aL pg 29 [1,0,1,0,0]
def xN:Code:=aL pg 29 [1,0,1,0,1]
def pR:List<|Nat×AV:=[(2,(.ptr<|some (273,0))),(9,(.func (.func 73) [] [(.ptr<|some (274,0))]))]
def KI:List Item:=[.inBlock 0,.code<|aL pg 29 [1,1]]
def vH(st:LoopState)(p:Option Code):ah:=.loop st p 29 (aA pR) 15 [10,11] Nk xN 275
def oW(o0 o1 o2:ah)(r:Int)(sl:AV)(lo:ah)(js:List<|Nat×Option ah):List<|Nat×Option ah:=aq++([(270,some o0),(271,some o1),(272,some o2),(273,some<|.cells 1 (Tr.fill [.int .i64 r] 0 .nil) []),(274,some<|.cells 1 (Tr.fill [sl] 0 .nil) []),(275,some .defs),(276,some lo)]++js)
abbrev kX(L:bV):Env:=y8 pg 270 dK dk L 270 false
def Q7(P:Program)(Tu:aJ)(rs:List ResultVar)(k l:Nat)(fr:AF)(s:AS):Option<|AV×Option ah×Option ah×Option ah:=match H7 P Tu rs k l fr s with
 |some (v,s2)=>some (v,s2.h.get 270,s2.h.get 271,s2.h.get 272)
 |none=>none
theorem adB{P:Program}{Tu:aJ}{l:Nat}{B:aE}{U k:Nat}{rs:List ResultVar}{fr:AF}{v:AV}{R:AV->AS->Prop}{o0 o1 o2:ah}(bR:P.follows .mixedOrders=true)(hc:gk P B Tu)(hl:∀t a,Tt<|Tu t a)(h1:fr.round=none)(h2:fr.defers=[])(h:Q7 P Tu rs k l fr s=some (v,some o0,some o1,some o2))(hR:∀s2:AS,s2.h.get 270=some o0->s2.h.get 271=some o1->s2.h.get 272=some o2->R v s2):GD P Tu B U (Fin P rs R) l fr s:=by
 unfold Q7 at h;split at h
 ·rename_i v2 s2 e;injection h with h;injection h with h3 h;injection h with h4 h;injection h with h5 h6
  subst h3;exact O1 bR hc hl h1 h2 e<|hR _ h4 h5 h6
 ·cases h
abbrev bX(cs:List AV):Option ah:=some<|.cells 13 (Tr.fill cs 0 .nil) []
def SU:List AV:=[.slice none 0<|.known 0,.int .i64 0,.int .i64 0,.bool false,.int .i64 0,.int .i64 0,.int .i64 0,.int .i64 0,.int .i64 0,.int .i64 0,.int .i64 0,.int .i64 0,.slice none 0<|.known 0]
theorem Zg(f:Fr):qf (bX SU) 0 (aS f)=bX (aS f):=by have e:=Oz f;show(match (Tw (0+13) 13&&(Tw 13 top&&(aS f).all AV.bM)) with|true=>some (ah.cells 13 (Tr.fill (aS f) 0<|Tr.fill SU 0 .nil) [])|false=>none)=_;rw[e];kernel_rfl
def lf(fs:List Fr):Nat->Int
 |0=> -1
 |n+1=>if(aD fs (n:Int)).cq=true then(n:Int) else lf fs n
theorem ajG{l:List Fr}{z:Int}{b:Bool}(h:(aD l z).cq=b)(h0:0<=z)(h1:z<(l.length:Int)):l[z.toNat]? =some ({aD l z with cq:=b}:Fr):=by subst h;exact qY h0 h1
def RW(B:aE)(R:AV->AS->Prop)(v:AV)(s:AS):Prop:=v= .tuple []/\∃p s4,mj 276 s= .ok p s4/\av pg B 273 (Fin pg (aC Tryd.f29) R) ⟨29,aA pR,15,andThen p KI,[275],none⟩ s4
def jsL(b:Nat->Option ah)(j:Nat):List<|Nat×Option ah:=(Ui j).map fun k=>(277+k,b k)
def CV(b:Nat->Option ah)(j:Nat)(o:Option ah)(k:Nat):Option ah:=match Tx k j with
 |true=>o
 |false=>b k
def rI(t:Bool)(i:Int):Int:=match t with
 |true=>i
 |false=>0
def SV(t:Bool):ah:=match t with
 |true=>vH .done<|some .ret
 |false=>vH .ready none
abbrev sJ(o0 o1 o2:ah)(r:Int)(sl:AV)(lo:ah)(b:Nat->Option ah)(j:Nat):AS:=aj (oW o0 o1 o2 r sl lo<|jsL b j)<|277+j
abbrev F9(i:Int)(cs:List AV)(m:Nat):Tr AV:=aA [(2,(.ptr<|some (273,0))),(3,(i6 i)),(4,(.ptr<|some (m,0))),(9,(.func (.func 73) [] [(.ptr<|some (274,0))])),(10,(i6 i)),(11,(.agg cs))]
section
variable {o0 o1 o2:ah} {sl:AV} {f:Fr} {i:Int} {b:Nat->Option ah} {B:aE} {R:AV->AS->Prop} {fs:List Fr} {n c:Nat} {d:Nat->AV}
abbrev sA(o0 o1 o2:ah)(sl:AV)(b:Nat->Option ah)(j:Nat):AS:=sJ o0 o1 o2 0 sl (vH .ready none) b j
abbrev sE(o0 o1 o2:ah)(sl:AV)(f:Fr)(i:Int)(b:Nat->Option ah)(t:Bool)(j:Nat):AS:=sJ o0 o1 o2 (rI t i) sl (SV t) (CV b j<|bX<|aS {f with cq:=t})<|j+1
abbrev RJ(o0 o1 o2:ah)(sl:AV)(f:Fr)(i:Int)(b:Nat->Option ah)(t:Bool)(j:Nat):Prop:=ba pg (sp []) FU 5 (.round 276) [.int .i64 i,.agg<|aS {f with cq:=t}] (sA o0 o1 o2 sl b j)= .ok (.bool !t) (sE o0 o1 o2 sl f i b t j)
theorem RK(t:Bool)(j:Nat)(k1:getLoop 276 (sA o0 o1 o2 sl b j)= .ok (.loop .ready none 29 (aA pR) 15 [10,11] Nk xN 275) (sA o0 o1 o2 sl b j):=by as_aux_lemma=>kernel_rfl)(k2:((qf (bX SU) 0 (aS {f with cq:=t})=bX (aS {f with cq:=t}))/\((⟨29,F9 i (aS {f with cq:=t})<|277+j,15,[.beginRound,.code xN],[],none⟩:AF)=⟨29,F9 i (aS {f with cq:=t})<|277+j,15,[.beginRound,.code xN],[],none⟩/\sJ o0 o1 o2 0 sl (vH .ready none) (CV b j<|bX<|aS {f with cq:=t}) (j+1)=sJ o0 o1 o2 0 sl (vH .ready none) (CV b j<|bX<|aS {f with cq:=t}) (j+1)))=
 wp (kX []) 900 4 (.fr 29 15 [.code Nk,.beginRound,.code xN] (jN [10,11] [.int .i64 i,.agg<|aS {f with cq:=t}]<|aA pR)<|sA o0 o1 o2 sl b j) (.st 2<|.rg<|.go 1<|.oU (.cells 13 (Tr.fill (aS {f with cq:=t}) 0 .nil) [])<|.en<|.cut .no) [] (fun _ _ _=>False) (fun fr s1 _=>fr=⟨29,F9 i (aS {f with cq:=t})<|277+j,15,[.beginRound,.code xN],[],none⟩/\s1=sJ o0 o1 o2 0 sl (vH .ready none) (CV b j<|bX<|aS {f with cq:=t}) (j+1)):=by as_aux_lemma=>kernel_rfl)(k3:eL pg (ba pg (sp []) FU 4) 1 ⟨29,F9 i (aS {f with cq:=t})<|277+j,15,[.beginRound,.code xN],[],some 276⟩ (sJ o0 o1 o2 0 sl (vH .ready none) (CV b j<|bX<|aS {f with cq:=t})<|j+1)= .ok (.go ⟨29,F9 i (aS {f with cq:=t})<|277+j,15,[.code xN],[],some 276⟩) (sJ o0 o1 o2 0 sl (vH .busy none) (CV b j<|bX<|aS {f with cq:=t})<|j+1):=by as_aux_lemma=>kernel_rfl)(k4:((none:Option Nat)=none/\([]:List Nat)=[]/\(some (.bool !t,sE o0 o1 o2 sl f i b t j):Option<|AV×AS)=some (.bool !t,sE o0 o1 o2 sl f i b t j))=
 wp (kX []) 900 4 (.fr 29 15 [.code xN] (F9 i (aS {f with cq:=t})<|277+j)<|sJ o0 o1 o2 0 sl (vH .busy none) (CV b j<|bX<|aS {f with cq:=t})<|j+1) (.st 6<|.cut .no) [] (fun _ _ _=>False) (fun fr s1 _=>fr.round=none/\fr.defers=[]/\B3 pg (ba pg (sp []) FU 4) 276 fr s1=some (.bool !t,sE o0 o1 o2 sl f i b t j)):=by as_aux_lemma=>kernel_rfl):RJ o0 o1 o2 sl f i b t j:=
 Gk k1 rfl (Eb (E:=kX []) fw rfl (fun fr s p h=>by obtain⟨rfl,rfl⟩:=h;exact⟨rfl,rfl,Chunk.ev 1 _ _ _ _ k3<|Eb (E:=kX []) fw rfl (fun fr s p h=>Gj h.1 h.2.1 h.2.2) 900 _ (IL _ _) k4⟩) 900 _ ⟨Zg _,rfl,rfl⟩ k2)
theorem O7(t:Bool)(hj:j<6):RJ o0 o1 o2 sl f i b t j:=by rcases(by omega:j=0\/j=1\/j=2\/j=3\/j=4\/j=5) with rfl|rfl|rfl|rfl|rfl|rfl<;>cases t<;>exact RK _ _
def nD:Nat->Nat
 |0=>3
 |_=>15
abbrev fJ(j:Nat)(i:Int)(d:Nat->AV):AF:=⟨73,aA<|[(0,(.yield 276)),(1,(.ptr<|some (274,0))),(3,(.int .i64 i))]++(Ui<|nD j).map fun k=>(4+k,d k),19,[.code<|aL pg 73 [1,0,0],.inLoop<|aL pg 73 [1,0,0],.inBlock 0],[],none⟩
abbrev xO(B:aE)(R:AV->AS->Prop)(fr:AF)(s:AS):Prop:=tA (kX []) 5 (aC Tryd.f73) (RW B R) fr s
theorem wjC{B:aE}{R:AV->AS->Prop}{f:Nat}{FR:AF}{S1:AS}(H:xO B R FR S1)(p:Pl)(x:T)(h:T=wp (kX []) 900 5 (.fr f nt K t s) p (aC Tryd.f73) (fun v s _=>RW B R v s) (fun fr s1 _=>fr=FR/\s1=S1):=by as_aux_lemma=>kernel_rfl):xO B R ⟨f,t,nt,K,[],none⟩ s:=Hs (C:=fun fr s1 _=>fr=FR/\s1=S1) fw rfl (fun fr s1 p h=>by obtain⟨rfl,rfl⟩:=h;exact H) 900 p x h
theorem wjE{B:aE}{R:AV->AS->Prop}{f:Nat}(p:Pl)(x:T)(h:T=wp (kX []) 900 5 (.fr f nt K t s) p (aC Tryd.f73) (fun v s _=>RW B R v s) (fun _ _ _=>False):=by as_aux_lemma=>kernel_rfl):xO B R ⟨f,t,nt,K,[],none⟩ s:=Hs (C:=fun _ _ _=>False) fw rfl (fun _ _ _ h=>h.elim) 900 p x h
abbrev je(n c:Nat):AV:=.slice (some (272,0)) n<|.au c 13
theorem lfW(t:Bool)(mc:Mt [] B){v:Int}(hR:∀s2:AS,s2.h.get 270=some o0->s2.h.get 271=some o1->s2.h.get 272=some (az aS fs)->R (.int .i64 v) s2)(p:Option Code)(k1:mj 276 (sJ o0 o1 (az aS fs) (rI t i) (je n c) (SV t) b j)= .ok p (sJ o0 o1 (az aS fs) (rI t i) (je n c) (vH .exhausted p) b j):=by as_aux_lemma=>kernel_rfl)(k2:Q7 pg (ba pg (sp []) FU 6) (aC Tryd.f29) 8 275 ⟨29,aA pR,15,andThen p KI,[],none⟩ (sJ o0 o1 (az aS fs) (rI t i) (je n c) (vH .exhausted p) b j)=some (.int .i64 v,some o0,some o1,some<|az aS fs):=by as_aux_lemma=>kernel_rfl):RW B R (.tuple [])<|sJ o0 o1 (az aS fs) (rI t i) (je n c) (SV t) b j:=⟨rfl,p,_,k1,(adB (l:=275) (k:=8) (fr:=⟨29,aA pR,15,andThen p KI,[],none⟩) (v:=.int .i64 v) (o0:=o0) (o1:=o1) (o2:=az aS fs) bR mc.2.2.1 mc.2.2.2 rfl rfl k2 hR).2.2 (by show 273<=277+j;omega)⟩
theorem bkE(hi:i<0)(hL:RW B R (.tuple [])<|sA o0 o1 (az aS fs) (je n c) b j)(k:((i>=0->False)/\(¬i>=0->RW B R (.tuple []) (sA o0 o1 (az aS fs) (je n c) b j)))=wp (kX []) 900 5 (.fr 73 19 (fJ j i d).todo (fJ j i d).tmps<|sA o0 o1 (az aS fs) (je n c) b j) (.st 2<|.rg<|.go 1<|.fk (.no)<|.en<|.rt 3 .no) (aC Tryd.f73) (fun v s _=>RW B R v s) (fun _ _ _=>False):=by as_aux_lemma=>kernel_rfl):xO B R (fJ j i d)<|sA o0 o1 (az aS fs) (je n c) b j:=wjE _ ⟨fun h=>by omega,fun _=>hL⟩ k
abbrev SX(o0 o1:ah)(fs:List Fr)(n c:Nat)(i:Int)(b:Nat->Option ah)(t:Bool)(j:Nat)(P:Prop):Prop:=((i>=0->((0:Int)<=i/\i<(n:Int)/\(cellsOf (some<|az aS fs) (i.toNat*13+0) 13=some (((aS {(aD fs i) with cq:=t}).drop 0).take 13)/\(RJ o0 o1 (az aS fs) (je n c) (aD fs i) i b t j/\P))))/\(¬i>=0->False))
theorem ldI{t:Bool}{P:Prop}(hj:j<6)(hi:0<=i/\i<n/\n<=fs.length)(hR:fs.length*13<=top)(cV:(aD fs i).cq=t)(x:P):SX o0 o1 fs n c i b t j P:=⟨fun _=>⟨hi.1,hi.2.1,ur jO hR (ajG (l:=fs) (z:=i) cV hi.1 ae) 0 13 rfl,O7 t hj,x⟩,fun h=>h hi.1⟩
theorem bkT(hj:j<6)(hi:0<=i/\i<n/\n<=fs.length)(hR:fs.length*13<=top)(cV:(aD fs i).cq=true)(hL:RW B R (.tuple [])<|sE o0 o1 (az aS fs) (je n c) (aD fs i) i b true j)(k:SX o0 o1 fs n c i b true j (RW B R (.tuple [])<|sE o0 o1 (az aS fs) (je n c) (aD fs i) i b true j)=wp (kX []) 900 5 (.fr 73 19 (fJ j i d).todo (fJ j i d).tmps<|sA o0 o1 (az aS fs) (je n c) b j) (.st 2<|.rg<|.go 1<|.fk (.en<|.st 5<|.rg<|.go 4<|.ix<|.ld (aS {(aD fs i) with cq:=true})<|.cy (.bool false) (sE o0 o1 (az aS fs) (je n c) (aD fs i) i b true j)<|.go 1<|.en<|.rt 2 .no)<|.no) (aC Tryd.f73) (fun v s _=>RW B R v s) (fun _ _ _=>False):=by as_aux_lemma=>kernel_rfl):xO B R (fJ j i d)<|sA o0 o1 (az aS fs) (je n c) b j:=wjE _ (ldI hj hi hR cV hL) k
def dN(d:Nat->AV)(fs:List Fr)(n c:Nat)(i:Int)(k:Nat):AV:=[d 0,d 1,d 2,.int .i64 i,.bool true,.int .i64 i,.int .i64<|i - 1,.yield 276,.int .i64 i,je n c,.int .i64 i,.ptr<|some (272,i.toNat*13+0),.agg<|aS {(aD fs i) with cq:=false},.bool true,.bool false].getD k<|.bool false
theorem bkF(hj:j<6)(hi:0<=i/\i<n/\n<=fs.length)(hf:fs.length<=1000000)(hR:fs.length*13<=top)(cV:(aD fs i).cq=false)(H:xO B R (fJ (j+1) (i - 1)<|dN d fs n c i)<|sE o0 o1 (az aS fs) (je n c) (aD fs i) i b false j)(k:SX o0 o1 fs n c i b false j ((AV.int .i64 (IntKind.wrap .i64<|i - 1)= .int .i64 (i - 1))/\(fJ (j+1) (i - 1) (dN d fs n c i)=fJ (j+1) (i - 1) (dN d fs n c i)/\sE o0 o1 (az aS fs) (je n c) (aD fs i) i b false j=sE o0 o1 (az aS fs) (je n c) (aD fs i) i b false j))=wp (kX []) 900 5 (.fr 73 19 (fJ j i d).todo (fJ j i d).tmps<|sA o0 o1 (az aS fs) (je n c) b j) (.st 2<|.rg<|.go 1<|.fk (.en<|.st 5<|.rg<|.go 4<|.ix<|.ld (aS {(aD fs i) with cq:=false})<|.cy (.bool true) (sE o0 o1 (az aS fs) (je n c) (aD fs i) i b false j)<|.go 1<|.en<|.st 3<|.rg<|.go 1<|.vl (i6<|i - 1)<|.go 1<|.en<|.st 1<|.cut .no)<|.no) (aC Tryd.f73) (fun v s _=>RW B R v s) (fun fr s1 _=>fr=fJ (j+1) (i - 1) (dN d fs n c i)/\s1=sE o0 o1 (az aS fs) (je n c) (aD fs i) i b false j):=by as_aux_lemma=>kernel_rfl):xO B R (fJ j i d)<|sA o0 o1 (az aS fs) (je n c) b j:=wjC H _ (ldI hj hi hR cV ⟨wI _,rfl,rfl⟩) k
theorem W3(mc:Mt [] B)(hl:n<=fs.length)(hf:fs.length<=1000000):∀(m j:Nat) (b:Nat->Option ah) (d:Nat->AV),j+m<=6->m<=n->(∀s2:AS,s2.h.get 270=some o0->s2.h.get 271=some o1->s2.h.get 272=some (az aS fs)->R (i6<|lf fs m) s2)->xO B R (fJ j ((m:Int) - 1) d) (sA o0 o1 (az aS fs) (je n c) b j)
 |0,j,b,d,h6,_,hQ=>by rcases(by omega:j=0\/j=1\/j=2\/j=3\/j=4\/j=5\/j=6) with rfl|rfl|rfl|rfl|rfl|rfl|rfl<;>exact bkE ae<|lfW (i:=0) false mc hQ none
 |m+1,j,b,d,h6,hn,hQ=>by
  have hR:fs.length*13<=top:=by have:top=549755813888:=rfl;omega
  have e:(((m+1:Nat):Int) - 1)=(m:Int):=by omega
  rw[e];cases cV:(aD fs (m:Int)).cq with
  |true=>rw[show lf fs (m+1)=(m:Int) from if_pos cV] at hQ;rcases(by omega:j=0\/j=1\/j=2\/j=3\/j=4\/j=5) with rfl|rfl|rfl|rfl|rfl|rfl<;>exact bkT ae ⟨by omega,by omega,hl⟩ hR cV<|lfW true mc hQ<|some .ret
  |false=>rw[show lf fs (m+1)=lf fs m from if_neg (by rw[cV];intro q;cases q)] at hQ;have ih:=fun b d=>W3 mc hl hf m (j+1) b d ae ae hQ;rcases(by omega:j=0\/j=1\/j=2\/j=3\/j=4\/j=5) with rfl|rfl|rfl|rfl|rfl|rfl<;>exact bkF ae ⟨by omega,by omega,hl⟩ hf hR cV<|ih _ _
def d0(n c k:Nat):AV:=[je n c,.int .i64 (n:Int),.int .i64<|(n:Int) - 1].getD k<|.bool false
theorem ald(hn:n<=1000000)(H:xO B R (fJ 0 ((n:Int) - 1)<|d0 n c)<|sA o0 o1 (az aS fs) (je n c) b 0):xO B R (sF 73 Tryd.f73 [.yield 276,.ptr<|some (274,0)])<|sA o0 o1 (az aS fs) (je n c) b 0:=wjC H (.st 1<|.rg<|.go 2<|.vl (i6<|(n:Int) - 1)<|.go 1<|.en<|.st 2<|.cut .no)<|ai (wI<|(n:Int) - 1)<|ai (rX<|fJ 0 ((n:Int) - 1)<|d0 n c)<|rX<|sA o0 o1 (az aS fs) (je n c) b 0
end
theorem Ct:aL pg 29 [1,0,1,0]= .rangeFunc (.tmp 9) #[10,11] Nk xN:=by kernel_rfl
abbrev o0W(a:MN)(n c:Nat):ah:=.cells 13 (Tr.fill (a.row (.ptr<|some (271,0)) (je n c)<|i6 a.steps) 0 .nil) []
abbrev IX(a:MN)(n c:Nat)(u:AV)(fs:List Fr):List<|Nat×Option ah:=aq++[(270,some<|o0W a n c),(271,some<|.tok 3 u),(272,some<|az aS fs),(273,some<|.cells 1 (Tr.fill [.int .i64 0] 0 .nil) []),(274,some<|.cells 1 (Tr.fill [je n c] 0 .nil) [])]
abbrev vI:AF:=⟨29,aA pR,15,.code (aL pg 29 [1,0,1,0])::KI,[],none⟩
abbrev jL(a:MN)(n c:Nat)(u:AV)(fs:List Fr):VS:=⟨⟨a.pre,n,.au c 13,[.int .i64 a.steps]⟩,u,(fs.map aS).flatten⟩
theorem ahW{B:aE}{a:MN}{n c:Nat}{u:AV}{fs:List Fr}(mc:Mt [] B)(hn6:n<=6)(hl:n<=fs.length)(hf:fs.length<=1000000):av pg B 273 (iE 270 3 pg (aC Tryd.f29) (i6<|lf fs n)<|jL a n c u fs) (sF 29 Tryd.f29 [.ptr<|some (270,0)])<|aj (aq++bf (dW 270 3<|jL a n c u fs)) 273:=by refine wp_cut (E:=rO []) (C:=fun fr s1 _=>fr=vI/\s1=aj (IX a n c u fs) 275) fw rfl bR mc.2.2.1 mc.2.2.2 OG rfl mc.1 (fun fr s1 p hC=>?_) 900 (.st 4<|.rg<|.go 4<|.il<|.rt 5<|.en<|.st 1<|.ls pR (IX a n c u fs) 275 .no)<|ai (mS pR)<|ai (mO<|IX a n c u fs)<|ai (rX vI)<|rX<|aj (IX a n c u fs) 275;obtain⟨rfl,rfl⟩:=hC;unfold vI;rw[Ct];obtain⟨v,s2,h1,rfl,p,s4,h5,H⟩:=tA.call (E:=(kX [])) (n:=5) Tryd.func73 (GL Tryd.func73 cf)<|ald (b:=fun _=>none) (c:=c) ae<|W3 (o0:=o0W a n c) (o1:=.tok 3 u) (R:=fun(y1:AV) (s':AS)=>y1= .int .i64 (lf fs n)/\∀m o,(m,o)∈dW 270 3 (jL a n c u fs)->s'.h.get m=some o) mc hl hf n 0 _ _ ae (Tz n) fun s2 a b d=>nw rfl a b d;exact av.chunk bR mc.2.2.1 mc.2.2.2 (JR (gv:=.func (.func 73) [] [.ptr<|some (274,0)]) (s1:=aj (IX a n c u fs++[(275,some .defs)]) 276) cf cf cf h1 h5) (by show 273<=275;omega) H
def sc(st:VS)(rest:List AV)(v:AV):Prop:=∃(a:MN) (n c:Nat) (fs:List Fr),tL st a/\rest=[]/\st.R.len=n/\st.R.cap= .au c 13/\st.row=(fs.map aS).flatten/\iM fs/\n<=6/\n<=fs.length/\fs.length<=1000000/\v= .int .i64 (lf fs n)
theorem sc.bJ(st:VS)(rest:List AV)(v v':AV)(h:sc st rest v)(h':sc st rest v'):v=v':=by obtain⟨a,n,c,fs,_,_,rfl,_,e4,f1,_,_,_,rfl⟩:=h;obtain⟨a1,m,d,gs,_,_,rfl,_,g4,f2,_,_,_,rfl⟩:=h';rw[e4] at g4;rw[GO _ _ f1 f2 g4]
def mK:FuncId×KE:=(29,.raw<|nP 10 3<|vR sc)
theorem N6(hP:bY pg){L:bV}(h:aY L):aY<|mK::L:=by refine GA hP gW zb jT jb mU mA h dj Tryd.func29 (body:=aL pg 29 []) aV aV fun st rest y e _=>?_;obtain⟨a,n,c,fs,⟨h1,h2,h3⟩,rfl,e1,e2,e4,_,hn6,hl,hf,rfl⟩:=Hd e;refine⟨aI.1 aV,fun B mc=>?_⟩;obtain⟨⟨pre,len,cap,post⟩,u,row⟩:=st;simp only at h1 h2 e1 e2 e4;subst h1;subst h2;subst e1;subst e2;subst e4;exact ahW mc hn6 hl hf
end kM
namespace hZ
open cj fq cC cY gJ cO jV kM
variable {fs:List Fr} {u:AV} {to aT nn kind:Int} {c N4 N3 N2 N L4 L3 L2 L:Nat} {a:MN} {B:aE}
def E9(o:Option St):AV:=match o with
 |none=>.tuple [.agg [.int .u8 0,.int .i64 0,.int .u8 0,.int .i64 0,.slice none 0<|.known 0,.int .u8 0,.int .i64 0,.slice none 0<|.known 0,.slice none 0<|.known 0,.slice none 0<|.known 0],.bool false]
 |some s=>.tuple [.agg<|aM s,.bool true]
def AN(fs:List Fr)(n:Nat):Fr:=aD fs<|(n:Int) - 1
def su(fs:List Fr)(n:Nat)(o:Option St):Prop:=(n=0/\o=none)\/(1<=n/\0<=(AN fs n).aw/\∃s,(AN fs n).block[(AN fs n).aw.toNat]? =some s/\o=some s)
theorem su.bJ{n:Nat}{o o':Option St}(h:su fs n o)(h':su fs n o'):o=o':=by
 rcases h with⟨a,b⟩|⟨a,_,s,b,e⟩<;>rcases h' with⟨a',b'⟩|⟨a',_,s',b',e'⟩
 ·rw[b,b']
 ·omega
 ·omega
 ·rw[b] at b';injection b' with b';rw[e,e',b']
abbrev nI(kind to op nn:Int)(N L:Nat)(aT n2:Int)(N2 L2 N3 L3 N4 L4:Nat):List AV:=[(u8<|kind),(i6 to),(u8<|op),(i6 nn),(.ab N 0 L),(u8<|aT),(i6 n2),(.ab N2 0 L2),(.ab N3 0 L3),(.ab N4 0 L4)]
theorem ale{n:Nat}{op n2:Int}(mc:Mt [] B)(h1:1<=n)(hn:n<=fs.length)(hf:fs.length<=1000000)(hR:fs.length*13<=top)(ay:0<=(aD fs<|(n:Int) - 1).aw/\(aD fs<|(n:Int) - 1).aw<(((aD fs<|(n:Int) - 1).block.length:Nat):Int))(hx:cZ FU (nm ((aD fs<|(n:Int) - 1).block.map aM).flatten) (0+(aD fs<|(n:Int) - 1).aw.toNat*10+0) 10=some (nI kind to op nn N L aT n2 N2 L2 N3 L3 N4 L4)):av pg B 273 (iE 270 3 pg (aC Tryd.f27) (.tuple [.agg<|nI kind to op nn N L aT n2 N2 L2 N3 L3 N4 L4,.bool true])<|cO.dS a n c u fs) (sF 27 Tryd.f27 [.ptr<|some (270,0)])<|aj (aq++bf (dW 270 3<|cO.dS a n c u fs)) 273:=mM (E:=rO []) fw rfl bR mc.2.2.1 mc.2.2.2 900 (.st 4<|.rg<|.go 5<|.fk (.no)<|.en<|.st 3<|.rg<|.go 9<|.vl (i6<|(n:Int) - 1)<|.ix<|.ld (aS<|aD fs<|(n:Int) - 1)<|.go 1<|.oU (.cells 13 (Tr.fill (aS<|aD fs<|(n:Int) - 1) 0 .nil) [])<|.en<|.st 1<|.rg<|.go 4<|.cm<|.cn (nI kind to op nn N L aT n2 N2 L2 N3 L3 N4 L4)<|.go 2<|.en<|.rt 1 .no)<|bq ((n:Int)=0) iF fun _=>(ai (wI<|(n:Int) - 1)<|gq ((n:Int) - 1) (n:Int)<|ai (ur jO hR (qY (l:=fs) (z:=((n:Int) - 1)) ae ae) 0 13 rfl)<|ai (Zg<|aD fs<|(n:Int) - 1)<|gq ((aD fs<|(n:Int) - 1).aw) (((aD fs<|(n:Int) - 1).block.length:Nat):Int)<|ai (show top<=nm ((aD fs<|(n:Int) - 1).block.map aM).flatten from cR _)<|ai hx<|nw (st:=(cO.dS a n c u fs)) (s:=aj (aq++[(270,some<|.cells 13 (Tr.fill (a.row (.ptr<|some (271,0)) (.slice (some (272,0)) (n)<|.au c 13)<|i6 a.steps) 0 .nil) []),(271,(some<|.tok 3 u)),(272,(some<|az aS fs)),(273,some<|.cells 10 (Tr.fill (nI kind to op nn N L aT n2 N2 L2 N3 L3 N4 L4) 0 .nil) []),(274,some<|.cells 13 (Tr.fill (aS<|aD fs<|(n:Int) - 1) 0 .nil) [])]) 275) (show((.tuple [(.agg<|nI kind to op nn N L aT n2 N2 L2 N3 L3 N4 L4),(.bool true)]):AV)=(.tuple [.agg<|nI kind to op nn N L aT n2 N2 L2 N3 L3 N4 L4,.bool true]) from rfl) cQ cQ cQ)
abbrev XY:AV:=.tuple [.agg [.int .u8 0,.int .i64 0,.int .u8 0,.int .i64 0,.slice none 0<|.known 0,.int .u8 0,.int .i64 0,.slice none 0<|.known 0,.slice none 0<|.known 0,.slice none 0<|.known 0],.bool false]
theorem alf{n:Nat}{N L N2 L2 N3 L3 N4 L4:Nat}{kind to op nn aT n2:Int}(mc:Mt [] B)(h1:n=0):av pg B 273 (iE 270 3 pg (aC Tryd.f27) XY<|cO.dS a n c u fs) (sF 27 Tryd.f27 [.ptr<|some (270,0)])<|aj (aq++bf (dW 270 3<|cO.dS a n c u fs)) 273:=mM (E:=rO []) fw rfl bR mc.2.2.1 mc.2.2.2 900 (.st 4<|.rg<|.go 5<|.fk (.en<|.rt 4 .no)<|.no)<|bq ((n:Int)=0) (fun _=>(nw (st:=(cO.dS a n c u fs)) (s:=aj (aq++[(270,some<|.cells 13 (Tr.fill (a.row (.ptr<|some (271,0)) (.slice (some (272,0)) (n)<|.au c 13)<|i6 a.steps) 0 .nil) []),(271,(some<|.tok 3 u)),(272,(some<|az aS fs)),(273,some<|.cells 10 (Tr.fill [(u8<|.ofNat 0),i0,(u8<|.ofNat 0),i0,(.slice none 0<|.known 0),(u8<|.ofNat 0),i0,(.slice none 0<|.known 0),(.slice none 0<|.known 0),(.slice none 0<|.known 0)] 0 .nil) [])]) 274) (show((.tuple [(.agg [(u8<|.ofNat 0),i0,(u8<|.ofNat 0),i0,(.slice none 0<|.known 0),(u8<|.ofNat 0),i0,(.slice none 0<|.known 0),(.slice none 0<|.known 0),(.slice none 0<|.known 0)]),(.bool false)]):AV)=XY from rfl) cQ cQ cQ)) iF
def jC(st:VS)(rest:List AV)(v:AV):Prop:=∃(a:MN) (n c:Nat) (fs:List Fr) (o:Option St),tL st a/\rest=[]/\st.R.len=n/\st.R.cap= .au c 13/\st.row=(fs.map aS).flatten/\iM fs/\n<=fs.length/\fs.length<=1000000/\su fs n o/\v=E9 o
theorem jC.bJ(st:VS)(rest:List AV)(v v':AV)(h:jC st rest v)(h':jC st rest v'):v=v':=by obtain⟨a,n,c,fs,o,_,_,rfl,_,e4,f1,_,_,s1,rfl⟩:=h;obtain⟨a1,m,d,gs,o',_,_,rfl,_,g4,f2,_,_,s2,rfl⟩:=h';rw[e4] at g4;have e:=GO _ _ f1 f2 g4;subst e;rw[s1.bJ s2]
def mP:FuncId×KE:=(27,.raw<|nP 10 3<|vR jC)
theorem O8(hP:bY pg){L:bV}(h:aY L):aY<|mP::L:=by
 refine GA hP gW zb jT jb mU mA h dj Tryd.func27 (body:=aL pg 27 []) aV aV fun st rest y e _=>?_;obtain⟨a,n,c,fs,o,⟨h1,h2,h3⟩,rfl,e1,e2,e4,_,hl,hf,hS,rfl⟩:=Hd e;refine⟨aI.1 aV,fun B mc=>?_⟩;obtain⟨⟨pre,len,cap,post⟩,u,row⟩:=st;simp only at h1 h2 e1 e2 e4;subst h1;subst h2;subst e1;subst e2;subst e4;rcases hS with⟨q,rfl⟩|⟨q,q0,s,q1,rfl⟩
 ·exact alf (N:=0) (L:=0) (N2:=0) (L2:=0) (N3:=0) (L3:=0) (N4:=0) (L4:=0) (kind:=0) (to:=0) (op:=0) (nn:=0) (aT:=0) (n2:=0) mc q
 ·obtain⟨kind,to,⟨oa,na,la⟩,⟨ob,nb,lb⟩,bd,el⟩:=s;have ct:=(TZ.1 q1).1;have hx:=Ad lq q1 0 10<|Tz _;rw[show(AN fs len).aw.toNat*10+0=0+(AN fs len).aw.toNat*10+0 by omega,show((aM<|.mk kind to (.mk oa na la) (.mk ob nb lb) bd el).drop 0).take 10=aM (.mk kind to (.mk oa na la) (.mk ob nb lb) bd el) by rw[T8];exact UG (by rw[lq.len];omega)] at hx;rw[show E9 (some<|.mk kind to (.mk oa na la) (.mk ob nb lb) bd el)= .tuple [.agg<|aM<|.mk kind to (.mk oa na la) (.mk ob nb lb) bd el,.bool true] from rfl];rw[aM,aH,aH] at hx ⊢;exact ale mc q hl hf (by have:top=549755813888:=rfl;omega) ⟨q0,by unfold AN at ct q0;omega⟩ hx
end hZ
namespace lW
open cj fq gJ eT cO kM hZ ia
variable {wi v to aT nn kind gx:Int} {u Y:AV} {fs:List Fr} {c N4 N3 N2 N L4 L3 L2 L:Nat} {a:MN} {B:aE}
abbrev K6:List AV:=[(u8<|.ofNat 0),i0,(u8<|.ofNat 0),i0,(.slice none 0<|.known 0),(u8<|.ofNat 0),i0,(.slice none 0<|.known 0),(.slice none 0<|.known 0),(.slice none 0<|.known 0)]
abbrev KF(n c:Nat):AV:=.slice (some (272,0)) (n)<|.au c 13
theorem ajH{n:Nat}{N L N2 L2 N3 L3 N4 L4:Nat}{kind to op nn aT n2:Int}{z v wi gx:Int}(mc:Mt [mP,ja,jX,lC,mK] B)(hO:bT 10 (cO.dS a n c u fs)=true)(hs:vR jC (cO.dS a n c u fs) []=some (.tuple [(.agg K6),(.bool false)]))(E0:(.agg [.int .u8 3,.int .i64 0,.int .i64 0]:AV)=Y):av pg B 273 (iE 270 3 pg (aC Tryd.f15) Y<|cO.dS a n c u fs) (sF 15 Tryd.f15 [.ptr<|some (270,0)])<|aj (aq++bf (dW 270 3<|cO.dS a n c u fs)) 273:=mM (E:=rO [mP,ja,jX,lC,mK]) fw rfl bR mc.2.2.1 mc.2.2.2 900 (.st 8<|.rg<|.go 1<|.cg (.tuple [(.agg K6),(.bool false)]) (vG 272) (vQ 272<|cO.dS a n c u fs)<|.go 6<|.en<|.rt 8 .no)<|kS [mP,ja,jX,lC,mK] 27 272 (vR jC) [] (cO.dS a n c u fs) (.tuple [(.agg K6),(.bool false)]) hO hs rfl cQ<|nw (st:=(cO.dS a n c u fs)) (s:=aj (aq++[(270,some<|.cells 13 (Tr.fill (a.row (.ptr<|some (271,0)) (KF n c)<|i6 a.steps) 0 .nil) []),(271,(some<|.tok 3 u)),(272,(some<|az aS fs)),(273,some<|.cells 3 (Tr.fill [(u8<|.ofNat 3),i0,i0] 0 .nil) []),(274,some<|.cells 10 (Tr.fill K6 0 .nil) [])]) 275) (show(.agg [(u8<|.ofNat 3),i0,i0])=Y from E0) cQ cQ cQ
abbrev ahl(a:MN)(n c:Nat)(u:AV)(fs:List Fr)(kind to op nn:Int)(N L:Nat)(aT n2:Int)(N2 L2 N3 L3 N4 L4:Nat):List<|Nat×Option ah:=aq++[(270,some<|.cells 13 (Tr.fill (a.row (.ptr<|some (271,0)) (.slice (some (272,0)) (n)<|.au c 13)<|i6 a.steps) 0 .nil) []),(271,(some<|.tok 3 u)),(272,(some<|az aS fs)),(273,some<|.cells 3 (Tr.fill [(u8<|.ofNat 1),i0,i0] 0 .nil) []),(274,some<|.cells 10 (Tr.fill [(u8<|kind),(i6 to),(u8<|op),(i6 nn),(.ab N 0 L),(u8<|aT),(i6 n2),(.ab N2 0 L2),(.ab N3 0 L3),(.ab N4 0 L4)] 0 .nil) [])]
abbrev yu(op nn:Int)(N L:Nat):List AV:=[(.agg [(u8<|op),(i6 nn),(.ab N 0 L)])]
theorem ajI{n:Nat}{op n2:Int}{z:Int}(mc:Mt [mP,ja,jX,lC,mK] B)(hO:bT 10 (cO.dS a n c u fs)=true)(hs:vR jC (cO.dS a n c u fs) []=some (.tuple [(.agg<|hZ.nI kind to op nn N L aT n2 N2 L2 N3 L3 N4 L4),(.bool true)]))(hY:((.tuple [(.agg<|hZ.nI kind to op nn N L aT n2 N2 L2 N3 L3 N4 L4),(.bool true)]):AV).hi=true)(hA:((yu op nn N L):List AV).all AV.hi=true)(hz:vR jY (cO.dS a n c u fs) (yu op nn N L)=some (.int .i64 z))(hv:vR oz (cO.dS a n c u fs) (yu op nn N L)=some (.int .i64 v))(hw:vR sc (cO.dS a n c u fs) []=some (.int .i64 wi))(hg:iZ (ir bZ Cy) u [.int .i64 v]=some (.tuple [.int .i64 gx,.bool true],u))(E8:kind=8->(.agg [.int .u8 3,.int .i64 0,.int .i64 z]:AV)=Y)(E6:kind=6->wi<0->(.agg [.int .u8 4,.int .i64 0,.int .i64 0]:AV)=Y)(EI:kind≠8->(kind=6->0<=wi)->(kind=kind)->(.agg [.int .u8 1,.int .i64 0,.int .i64 0]:AV)=Y):av pg B 273 (iE 270 3 pg (aC Tryd.f15) Y<|cO.dS a n c u fs) (sF 15 Tryd.f15 [.ptr<|some (270,0)])<|aj (aq++bf (dW 270 3<|cO.dS a n c u fs)) 273:=mM (E:=rO [mP,ja,jX,lC,mK]) fw rfl bR mc.2.2.1 mc.2.2.2 900 (.st 8<|.rg<|.go 1<|.cg (.tuple [(.agg<|hZ.nI kind to op nn N L aT n2 N2 L2 N3 L3 N4 L4),(.bool true)]) (vG 272) (vQ 272<|cO.dS a n c u fs)<|.go 6<|.en<|.st 6<|.rg<|.go 2<|.fk (.go 1<|.en<|.st 2<|.rg<|.go 3<|.cg (i6 z) (vG 272) (vQ 272<|cO.dS a n c u fs)<|.go 2<|.en<|.rt 1 .no)<|.go 1<|.en<|.st 2<|.rg<|.go 2<|.fk (.go 2<|.cg (i6 wi) (vG 272) (vQ 272<|cO.dS a n c u fs)<|.fk (.go 2<|.en<|.rt 4 .no)<|.go 2<|.en<|.st 2<|.rg<|.go 2<|.fk (.go 1<|.en<|.st 2<|.rg<|.go 3<|.cg (i6 v) (vG 272) (vQ 272<|cO.dS a n c u fs)<|.go 1<|.en<|.st 1<|.rg<|.go 5<|.kt (.tuple [(i6 gx),(.bool true)]) u<|.go 5<|.en<|.rt 8 .no)<|.go 1<|.en<|.rt 6 .no)<|.go 6<|.en<|.st 2<|.rg<|.go 2<|.fk (.go 1<|.en<|.st 2<|.rg<|.go 3<|.cg (i6 v) (vG 272) (vQ 272<|cO.dS a n c u fs)<|.go 1<|.en<|.st 1<|.rg<|.go 5<|.kt (.tuple [(i6 gx),(.bool true)]) u<|.go 5<|.en<|.rt 8 .no)<|.go 1<|.en<|.rt 6 .no)<|kS [mP,ja,jX,lC,mK] 27 272 (vR jC) [] (cO.dS a n c u fs) (.tuple [(.agg<|hZ.nI kind to op nn N L aT n2 N2 L2 N3 L3 N4 L4),(.bool true)]) hO hs rfl hY<|bq (kind=8) YY fun _=>(bq (kind=6) (fun _=>(kS [mP,ja,jX,lC,mK] 29 272 (vR sc) [] (cO.dS a n c u fs) (i6 wi) hO hw rfl cQ<|bq (wi<0) Y1 Y3)) Y3)
theorem ajJ{n:Nat}{op n2:Int}{z:Int}(mc:Mt [mP,ja,jX,lC,mK] B)(hO:bT 10 (cO.dS a n c u fs)=true)(hs:vR jC (cO.dS a n c u fs) []=some (.tuple [(.agg<|hZ.nI kind to op nn N L aT n2 N2 L2 N3 L3 N4 L4),(.bool true)]))(hY:((.tuple [(.agg<|hZ.nI kind to op nn N L aT n2 N2 L2 N3 L3 N4 L4),(.bool true)]):AV).hi=true)(hA:((yu op nn N L):List AV).all AV.hi=true)(hz:vR jY (cO.dS a n c u fs) (yu op nn N L)=some (.int .i64 z))(hv:vR oz (cO.dS a n c u fs) (yu op nn N L)=some (.int .i64 v))(hw:vR sc (cO.dS a n c u fs) []=some (.int .i64 wi))(hg:iZ (ir bZ Cy) u [.int .i64 v]=some (.tuple [.int .i64 gx,.bool false],u))(E8:kind=8->(.agg [.int .u8 3,.int .i64 0,.int .i64 z]:AV)=Y)(E6:kind=6->wi<0->(.agg [.int .u8 4,.int .i64 0,.int .i64 0]:AV)=Y)(E2:kind=2->(.agg [.int .u8 2,.int .i64 v,.int .i64 0]:AV)=Y)(EI:kind≠8->(kind=6->0<=wi)->(kind≠2)->(.agg [.int .u8 1,.int .i64 0,.int .i64 0]:AV)=Y):av pg B 273 (iE 270 3 pg (aC Tryd.f15) Y<|cO.dS a n c u fs) (sF 15 Tryd.f15 [.ptr<|some (270,0)])<|aj (aq++bf (dW 270 3<|cO.dS a n c u fs)) 273:=mM (E:=rO [mP,ja,jX,lC,mK]) fw rfl bR mc.2.2.1 mc.2.2.2 900 (.st 8<|.rg<|.go 1<|.cg (.tuple [(.agg<|hZ.nI kind to op nn N L aT n2 N2 L2 N3 L3 N4 L4),(.bool true)]) (vG 272) (vQ 272<|cO.dS a n c u fs)<|.go 6<|.en<|.st 6<|.rg<|.go 2<|.fk (.go 1<|.en<|.st 2<|.rg<|.go 3<|.cg (i6 z) (vG 272) (vQ 272<|cO.dS a n c u fs)<|.go 2<|.en<|.rt 1 .no)<|.go 1<|.en<|.st 2<|.rg<|.go 2<|.fk (.go 2<|.cg (i6 wi) (vG 272) (vQ 272<|cO.dS a n c u fs)<|.fk (.go 2<|.en<|.rt 4 .no)<|.go 2<|.en<|.st 2<|.rg<|.go 2<|.fk (.go 1<|.en<|.st 2<|.rg<|.go 3<|.cg (i6 v) (vG 272) (vQ 272<|cO.dS a n c u fs)<|.go 1<|.en<|.st 1<|.rg<|.go 5<|.kt (.tuple [(i6 gx),(.bool false)]) u<|.go 5<|.en<|.rt 6 .no)<|.go 1<|.en<|.rt 6 .no)<|.go 6<|.en<|.st 2<|.rg<|.go 2<|.fk (.go 1<|.en<|.st 2<|.rg<|.go 3<|.cg (i6 v) (vG 272) (vQ 272<|cO.dS a n c u fs)<|.go 1<|.en<|.st 1<|.rg<|.go 5<|.kt (.tuple [(i6 gx),(.bool false)]) u<|.go 5<|.en<|.rt 6 .no)<|.go 1<|.en<|.rt 6 .no)<|kS [mP,ja,jX,lC,mK] 27 272 (vR jC) [] (cO.dS a n c u fs) (.tuple [(.agg<|hZ.nI kind to op nn N L aT n2 N2 L2 N3 L3 N4 L4),(.bool true)]) hO hs rfl hY<|bq (kind=8) YY fun _=>(bq (kind=6) (fun _=>(kS [mP,ja,jX,lC,mK] 29 272 (vR sc) [] (cO.dS a n c u fs) (i6 wi) hO hw rfl cQ<|bq (wi<0) Y1 fun _=>(bq (kind=2) YX fun _=>MZ))) fun _=>(bq (kind=2) YX fun _=>MZ))
end lW
namespace lk
open cj fq cC cY gI iD gJ eT jd jV kM hZ lW ia
variable {to kind i:Int} {el bd:List St} {eb ea:Ex} {o:Option St} {n':Nat} {di:List Fr} {b':bp}
abbrev dB(a:MN)(n c:Nat)(fs:List Fr)(b:bp):VS:=⟨⟨a.pre,n,.au c 13,[.int .i64 a.steps]⟩,bZ b,(fs.map aS).flatten⟩
structure eO (a:MN) (n c:Nat) (fs:List Fr) (b:bp):Prop where
 aN:dP encI 1 (.ab a.G a.q a.lg) a.aN
 buf:dz b
 oX:iM fs
 nX:n<=fs.length
 rP:n<=c
 len:fs.length<=1000000
 vars:1<=a.vars/\a.vars<=32
section
variable {a:MN} {n c:Nat} {fs:List Fr} {b:bp}
theorem eO.xP(h:eO a n c fs b):tL (dB a n c fs b) a:=⟨rfl,rfl,h.aN⟩
theorem XZ(fs:List Fr):(fs.map aS).flatten.length=fs.length*13:=by
 have:=vW (K:=13) (l:=fs.map aS) fun c hc=>by obtain⟨a,_,rfl⟩:=TI.1 hc;exact jO a
 rw[this,T3]
theorem W4(fs:List Fr):(fs.map aS).flatten.all AV.cN=true:=by rw[TG];intro c hc;obtain⟨y,hy,hc⟩:=Vb.1 hc;obtain⟨g,_,rfl⟩:=TI.1 hy;exact am2 g c hc
theorem eO.bT(h:eO a n c fs b):bT 10 (dB a n c fs b)=true:=by
 have ht:top=549755813888:=rfl;have e1:tK (dB a n c fs b).R=true:=by have g:=h.aN.cN;unfold tK;show((a.pre).all AV.cN&&([AV.int .i64 a.steps]).all AV.cN)=true;unfold MN.pre;simp only[TS,List.all_nil,g];rfl
 refine and_true.2 ⟨e1,and_true.2 ⟨W4 fs,and_true.2 ⟨aI.2 (by show 13<=top;omega),aI.2 ?_⟩⟩⟩;show(fs.map aS).flatten.length<=top;rw[XZ];have:=h.len;omega
theorem agh{a':MN}{c':Nat}(h:eO a n c fs b)(h':eO a' n' c' di b')(e:dB a n c fs b=dB a' n' c' di b'):a=a'/\n=n'/\c=c'/\fs=di/\b=b':=by
 have e1:=h.xP;rw[e] at e1;have ea:=e1.inj h'.xP;injection e with e2 e3 e4
 injection e2 with e5 e6 e7 e8
 injection e7 with e7
 exact⟨ea,e6,e7,GO _ _ h.oX h'.oX e4,ua _ _ e3⟩
def fO(a:MN)(e:Ex):Int:=(Ap e a.l a.aN).1
def jq(x m:Int):Int:=if m<1 then 0 else if Uh x m<0 then Uh x m+m else Uh x m
theorem ahX(x m:Int):uY x m= .tuple [.int .i64<|jq x m,.int .i64 (if m<1 then 1 else 0)]:=by
 unfold uY jq
 repeat' split
 all_goals first|rfl|omega
theorem W5{x m:Int}(h:1<=m):0<=jq x m/\jq x m<m:=by
 unfold jq;rw[if_neg ae];have h1:=Int.tmod_lt_of_pos x (show 0<m by omega);have h2: - m<Uh x m:=by have:=Int.lt_tmod_of_pos x (show 0<m by omega);omega
 split<;>omega
theorem K7(h:eO a n c fs b)(e:Ex):vR jY (dB a n c fs b) [.agg<|aH e]=some (i6<|fO a e):=E5 jY.bJ ⟨a,e,h.xP,rfl,rfl⟩
theorem Qn(h:eO a n c fs b)(e:Ex):vR oz (dB a n c fs b) [.agg<|aH e]=some (i6<|jq (fO a e) a.vars):=E5 oz.bJ ⟨a,e,_,_,h.xP,rfl,by have:=h.vars;omega,ahX _ _,rfl⟩
theorem amw(h:eO a n c fs b)(h6:n<=6):vR sc (dB a n c fs b) []=some (i6<|lf fs n):=E5 sc.bJ ⟨a,n,c,fs,h.xP,rfl,rfl,rfl,rfl,h.oX,h6,h.nX,h.len,rfl⟩
theorem W6(h:eO a n c fs b)(hs:su fs n o):vR jC (dB a n c fs b) []=some (E9 o):=E5 jC.bJ ⟨a,n,c,fs,o,h.xP,rfl,rfl,rfl,rfl,h.oX,h.nX,h.len,hs,rfl⟩
theorem W7{b:bp}(b6:b.length<=6)(v:Int):iZ (ir bZ Cy) (bZ b) [.int .i64 v]=some (.tuple [.int .i64 (lD b v).1,.bool (lD b v).2],bZ b):=by
 unfold iZ;rw[B1 ua];show(match ([.int .i64 v]:List AV).all AV.hi with
  |true=>((if b.length<=6 then some (AV.tuple [.int .i64 (lD b v).1,.bool (lD b v).2],b) else none).map (fun p:AV×bp=>((p.1,bZ p.2):AV×AV))).bind fun p:AV×AV=>match p.1.hi with
   |true=>some p
   |false=>none
  |false=>none)=_
 rw[if_pos b6];rfl
theorem agi{b:bp}(b6:b.length<=6)(v x:Int):iZ (ir bZ Hx) (bZ b) [.int .i64 v,.int .i64 x]=some ((.int .i64 0:AV),bZ<|lA b v x):=by
 unfold iZ;rw[B1 ua];show(match ([.int .i64 v,.int .i64 x]:List AV).all AV.hi with
  |true=>((if b.length<=6 then some ((AV.int .i64 0:AV),lA b v x) else none).map (fun p:AV×bp=>((p.1,bZ p.2):AV×AV))).bind fun p:AV×AV=>match p.1.hi with
   |true=>some p
   |false=>none
  |false=>none)=_
 rw[if_pos b6];rfl
theorem adC(h:eO a n c fs b){k:Nat}(hs:pb k n fs b=some (n',di,b')):eJ fK (dB a n c fs b) []=some (.tuple [],dB a n' c di b'):=K4 fK.bJ ⟨a,n,c,k,n',fs,di,b,b',h.xP,rfl,rfl,rfl,rfl,rfl,h.buf,h.oX,h.nX,h.rP,h.len,hs,rfl⟩
end
def MN.iJ(a:MN)(i z:Int):MN:=match i.toNat with
 |0=>{a with x0:=z}
 |1=>{a with x1:=z}
 |2=>{a with x2:=z}
 |3=>{a with x3:=z}
 |4=>{a with x4:=z}
 |5=>{a with x5:=z}
 |6=>{a with x6:=z}
 |7=>{a with x7:=z}
 |_=>a
variable {a:MN} {n c:Nat} {fs:List Fr} {b:bp}
theorem W8(h0:0<=i)(h8:i<8):i=0\/i=1\/i=2\/i=3\/i=4\/i=5\/i=6\/i=7:=by omega
theorem Qo{i z:Int}(h0:0<=i)(h8:i<8):wX (dB a n c fs b) i z=dB (MN.iJ a i z) n c fs b:=by rcases W8 h0 h8 with rfl|rfl|rfl|rfl|rfl|rfl|rfl|rfl<;>rfl
theorem adD{z:Int}:(MN.iJ a i z).vars=a.vars/\(MN.iJ a i z).G=a.G/\(MN.iJ a i z).q=a.q/\(MN.iJ a i z).lg=a.lg/\(MN.iJ a i z).aN=a.aN/\(MN.iJ a i z).steps=a.steps:=by unfold MN.iJ;split<;>exact⟨rfl,rfl,rfl,rfl,rfl,rfl⟩
theorem eO.iJ{z:Int}(h:eO a n c fs b):eO (MN.iJ a i z) n c fs b:=by
 obtain⟨e1,e2,e3,e4,e5,_⟩:=adD (a:=a) (i:=i) (z:=z);refine⟨?_,h.buf,h.oX,h.nX,h.rP,h.len,?_⟩
 ·rw[e2,e3,e4,e5];exact h.aN
 ·rw[e1];exact h.vars
theorem ahY(h:eO a n c fs b)(h0:0<=to)(h8:to<8):eJ AM (dB a n c fs b) [.agg<|aM<|.mk kind to ea eb bd el]=some (.tuple [],dB (MN.iJ a to<|fO a ea) n c fs b):=K4 AM.bJ ⟨a,kind,to,ea,eb,bd,el,fO a ea,h.bT,h.xP,rfl,h0,h8,K7 h ea,by rw[Qo h0 h8]⟩
theorem agj(h:eO a n c fs b)(b6:b.length<=6)(h0:0<=to)(h8:to<8):eJ Au (dB a n c fs b) [.agg<|aM<|.mk kind to ea eb bd el]=some (.tuple [],dB (MN.iJ a to (lD b<|jq (fO a ea) a.vars).1) n c fs b):=K4 Au.bJ ⟨a,kind,to,ea,eb,bd,el,jq (fO a ea) a.vars,(lD b<|jq (fO a ea) a.vars).1,(lD b<|jq (fO a ea) a.vars).2,h.bT,h.xP,rfl,h0,h8,Qn h ea,W7 b6 _,by rw[Qo h0 h8]⟩
theorem aeN(h:eO a n c fs b)(b6:b.length<=6):eJ Ag (dB a n c fs b) [.agg<|aM<|.mk kind to ea eb bd el]=some (.tuple [],dB a n c fs<|lA b (jq (fO a ea) a.vars)<|fO a eb):=K4 Ag.bJ ⟨a,kind,to,ea,eb,bd,el,jq (fO a ea) a.vars,fO a eb,bZ<|lA b (jq (fO a ea) a.vars)<|fO a eb,h.bT,h.xP,rfl,Qn h ea,K7 h eb,agi b6 _ _,rfl⟩
def xd(a:MN)(w:Int)(b:bp):Option St->Int×Int×Int
 |none=>(3,0,0)
 |some (.mk kind _ ea _ _ _)=>if kind=8 then(3,0,fO a ea) else if kind=6/\w<0 then(4,0,0) else if kind=2/\(lD b<|jq (fO a ea) a.vars).2=false then(2,jq (fO a ea) a.vars,0) else(1,0,0)
def AO(q:Int×Int×Int):AV:=.agg [.int .u8 q.1,.int .i64 q.2.1,.int .i64 q.2.2]
theorem GB{w:Int}:xd a w b (some<|.mk kind to ea eb bd el)=if kind=8 then(3,0,fO a ea) else if kind=6/\w<0 then(4,0,0) else if kind=2/\(lD b<|jq (fO a ea) a.vars).2=false then(2,jq (fO a ea) a.vars,0) else(1,0,0):=rfl
theorem W9{B:aE}(mc:Mt [mP,ja,jX,lC,mK] B)(h:eO a n c fs b)(h6:n<=6)(b6:b.length<=6)(hs:su fs n o):
 av pg B 273 (iE 270 3 pg (aC Tryd.f15) (AO<|xd a (lf fs n) b o)<|dB a n c fs b) (sF 15 Tryd.f15 [.ptr<|some (270,0)]) (aj (aq++bf (dW 270 3<|dB a n c fs b)) 273):=by
 have hn:=W6 h hs;cases o with
 |none=>exact ajH (N:=0) (L:=0) (N2:=0) (L2:=0) (N3:=0) (L3:=0) (N4:=0) (L4:=0) (kind:=0) (to:=0) (op:=0) (nn:=0) (aT:=0) (n2:=0) (z:=0) (v:=0) (wi:=0) (gx:=0) mc h.bT hn rfl
 |some s=>
  obtain⟨kind,to,ea,eb,bd,el⟩:=s;have hz:=K7 h ea;have hv:=Qn h ea;have hw:=amw h h6;have hg:=W7 b6<|jq (fO a ea) a.vars;have hA:=EG ea;have hY:(E9 (some<|.mk kind to ea eb bd el):AV).hi=true:=by show([AV.agg<|aM<|.mk kind to ea eb bd el,.bool true].all AV.tu)=true;have e:(AV.agg<|aM<|.mk kind to ea eb bd el).tu=true:=Yq _;rw[TS,e];rfl
  have k8:kind=8->xd a (lf fs n) b (some<|.mk kind to ea eb bd el)=(3,0,fO a ea):=fun q=>if_pos q;have k6:kind=6->lf fs n<0->xd a (lf fs n) b (some<|.mk kind to ea eb bd el)=(4,0,0):=fun q r=>by rw[GB,if_neg ae,if_pos ⟨q,r⟩]
  obtain⟨op,nn,la⟩:=ea;obtain⟨aT,n2,lb⟩:=eb;unfold E9 at hn hY;rw[aH] at hz hv hA;simp only[aM,aH] at hn hY;cases hb:(lD b<|jq (fO a<|.mk op nn la) a.vars).2 with
  |true=>
   rw[hb] at hg;refine ajI mc h.bT hn hY hA hz hv hw hg (fun q=>?_) (fun q r=>?_) fun q r _=>?_
   ·rw[k8 q];rfl
   ·rw[k6 q r];rfl
   ·rw[GB,if_neg q,if_neg (fun z=>by have:=r z.1;omega),if_neg (fun z=>by rw[hb] at z;cases z.2)];rfl
  |false=>
   rw[hb] at hg;refine ajJ mc h.bT hn hY hA hz hv hw hg (fun q=>?_) (fun q r=>?_) (fun q=>?_) fun q r z=>?_
   ·rw[k8 q];rfl
   ·rw[k6 q r];rfl
   ·rw[GB,if_neg ae,if_neg (fun z=>by omega),if_pos ⟨q,hb⟩];rfl
   ·rw[GB,if_neg q,if_neg (fun z=>by have:=r z.1;omega),if_neg fun y=>z y.1];rfl
def lX(st:VS)(rest:List AV)(v:AV):Prop:=∃(a:MN) (n c:Nat) (fs:List Fr) (b:bp) (o:Option St),st=dB a n c fs b/\eO a n c fs b/\rest=[]/\n<=6/\b.length<=6/\su fs n o/\v=AO (xd a (lf fs n) b o)
theorem lX.bJ(st:VS)(rest:List AV)(v v':AV)(h:lX st rest v)(h':lX st rest v'):v=v':=by obtain⟨a,n,c,fs,b,o,rfl,m1,_,_,_,s1,rfl⟩:=h;obtain⟨a',n',c',di,b',o',e,m2,_,_,_,s2,rfl⟩:=h';obtain⟨rfl,rfl,rfl,rfl,rfl⟩:=agh m1 m2 e;rw[s1.bJ s2]
def RL:FuncId×KE:=(15,.raw<|nP 10 3<|vR lX)
theorem agk(hP:bY pg){L:bV}(h:aY L):aY<|RL::L:=by refine GA hP gW zb jT jb mU mA h (O8 hP<|Ep hP<|GX hP<|JW hP<|N6 hP dj) Tryd.func15 (body:=aL pg 15 []) aV aV fun st rest y e _=>?_;obtain⟨a,n,c,fs,b,o,rfl,m1,rfl,h6,b6,s1,rfl⟩:=Hd e;exact⟨aI.1 aV,fun B mc=>W9 mc m1 h6 b6 s1⟩
theorem ahZ(h:eO a n c fs b)(h6:n<=6)(b6:b.length<=6)(hs:su fs n o):vR lX (dB a n c fs b) []=some (AO<|xd a (lf fs n) b o):=E5 lX.bJ ⟨a,n,c,fs,b,o,rfl,h,rfl,h6,b6,hs,rfl⟩
end lk
namespace oH
open fq
theorem aoE{fs:List Fr}{n:Nat}{f:Fr}{cs:List AV}{X:Prop}(hc:aS f=cs)(hn:n<=fs.length)(hl:fs.length<=1000000)(x:X):
 ((.known n:cx)= .known n/\1<=1/\some (az aS fs)=some (.cells (fs.map aS).flatten.length (Tr.fill (fs.map aS).flatten 0 .nil) [])/\some (ah.cells cs.length (Tr.fill cs 0 .nil) [])=some (.cells cs.length (Tr.fill cs 0 .nil) [])/\(fs.map aS).flatten.length<=top/\cs.length<=top/\n*13<=(fs.map aS).flatten.length/\1*13<=cs.length/\(fs.map aS).flatten.take (n*13)++cs.take (1*13)=((fs.take n++[f]).map aS).flatten/\((fs.take n++[f]).map aS).flatten.all AV.bM=true/\2*(n+1)*136+4096*136<=room/\((fs.take n++[f]).map aS).flatten.length<=top/\X):=by
 have ht:top=549755813888:=rfl;have e1:∀l:List Fr,(l.map aS).flatten.length=l.length*13:=fun l=>by
  have:=vW (K:=13) (l:=l.map aS) fun c hc=>by obtain⟨a,_,rfl⟩:=TI.1 hc;exact jO a
  rw[this,T3]
 have e2:cs.length=13:=by rw[←hc];exact jO f
 have e3:∀(l:List Fr) (k:Nat),(l.map aS).flatten.take (k*13)=((l.take k).map aS).flatten:=by
  intro l;induction l with
  |nil=>intro k;simp
  |cons x l ih=>
   intro k;cases k with
   |zero=>simp
   |succ k=>rw[T0,T5,Vs,T0,T5, ←ih k,Wl,jO,UG (by rw[jO];omega),show(k+1)*13 - 13=k*13 by omega]
 refine⟨rfl,Tz 1,rfl,rfl,by rw[e1];omega,by omega,by rw[e1];omega,by omega,?_,?_,?_,?_,x⟩
 ·rw[e3,Vm,List.flatten_append];congr 1;rw[UG (l:=cs) ae, ←hc];simp
 ·rw[TG];intro c hc;obtain⟨y,hy,hc⟩:=Vb.1 hc;obtain⟨g,_,rfl⟩:=TI.1 hy;exact TG.1 (Oz g) c hc
 ·unfold room;omega
 ·rw[e1,TM,T4];show(min n fs.length+1)*13<=top;omega
end oH
namespace pE
open fq
theorem DC{fs:List Fr}{n:Nat}{X:Prop}(h1:1<=n)(hn:n<=fs.length)(hl:fs.length<=1000000)(x:X):
 ((.known 0:cx)= .known 0/\1<=n/\some (ah.cells 0 (Tr.fill [] 0 .nil) [])=some (.cells ([]:List AV).length (Tr.fill [] 0 .nil) [])/\some (az aS fs)=some (.cells (fs.map aS).flatten.length (Tr.fill (fs.map aS).flatten 0 .nil) [])/\([]:List AV).length<=top/\(fs.map aS).flatten.length<=top/\0*13<=([]:List AV).length/\n*13<=(fs.map aS).flatten.length/\([]:List AV).take (0*13)++(fs.map aS).flatten.take (n*13)=((fs.take n).map aS).flatten/\((fs.take n).map aS).flatten.all AV.bM=true/\2*(0+n)*136+4096*136<=room/\((fs.take n).map aS).flatten.length<=top/\X):=by
 have ht:top=549755813888:=rfl;have e1:∀l:List Fr,(l.map aS).flatten.length=l.length*13:=fun l=>by
  have:=vW (K:=13) (l:=l.map aS) fun c hc=>by obtain⟨a,_,rfl⟩:=TI.1 hc;exact jO a
  rw[this,T3]
 have e3:∀(l:List Fr) (k:Nat),(l.map aS).flatten.take (k*13)=((l.take k).map aS).flatten:=by
  intro l;induction l with
  |nil=>intro k;simp
  |cons x l ih=>
   intro k;cases k with
   |zero=>simp
   |succ k=>rw[T0,T5,Vs,T0,T5, ←ih k,Wl,jO,UG (by rw[jO];omega),show(k+1)*13 - 13=k*13 by omega]
 refine⟨rfl,h1,rfl,rfl,TN _,by rw[e1];omega,by show 0*13<=0;omega,by rw[e1];omega,?_,?_,?_,?_,x⟩
 ·rw[e3];rfl
 ·rw[TG];intro c hc;obtain⟨y,hy,hc⟩:=Vb.1 hc;obtain⟨g,_,rfl⟩:=TI.1 hy;exact TG.1 (Oz g) c hc
 ·unfold room;omega
 ·rw[e1,T4];omega
end pE
namespace qw
open cj gw fq cY ia gJ eT jd cO jV kM hZ lk oH iL
variable {fs:List Fr} {B:aE} {u:AV} {r:Nat->Nat} {c:Nat} {a:MN} {T:Prop}
theorem Nl{n:Nat}{f:Fr}{cs:List AV}{X:Prop}(hc:aS f=cs)(h1:1<=n)(hn:n<=fs.length)(hl:fs.length<=1000000)(x:X):
 ((.known n:cx)= .known n/\1<=n/\1<=1/\some (az aS fs)=some (.cells (fs.map aS).flatten.length (Tr.fill (fs.map aS).flatten 0 .nil) [])/\some (ah.cells cs.length (Tr.fill cs 0 .nil) [])=some (.cells cs.length (Tr.fill cs 0 .nil) [])/\(fs.map aS).flatten.length<=top/\cs.length<=top/\n*13<=(fs.map aS).flatten.length/\1*13<=cs.length/\(fs.map aS).flatten.take (n*13)++cs.take (1*13)=((fs.take n++[f]).map aS).flatten/\((fs.take n++[f]).map aS).flatten.all AV.bM=true/\2*(n+1)*136+4096*136<=room/\((fs.take n++[f]).map aS).flatten.length<=top/\X):=
 have h:=aoE hc hn hl x
 ⟨h.1,h1,h.2⟩
theorem Xa{k:Nat}{v:AV}:dT [] r (.tok k v)<|.tok k v:=fun _ _ _ _ _ _=>trivial
theorem Ke(hr:∀k,top<=k->r k=k)(hl:fs.length<=1000000):dT [] r (az aS fs)<|az aS fs:=fun ρ fp N o m h=>by have ht:top=549755813888:=rfl;refine Hz (ρ:=ρ) (fun k x hk e=>?_) (by rw[XZ];omega) (W4 fs) h;show fp (r k)=some x;rw[hr k hk];exact m.1 _ _ e
abbrev LM:bV:=[RL,mP,ja,jX,lC,mK,Er,RI,Q5,Ql,Qh,Qi]
abbrev bj(p:List AV)(n:Nat)(cap:cx)(st:Int)(u:AV)(fs:List Fr):VS:=⟨⟨p,n,cap,[.int .i64 st]⟩,u,(fs.map aS).flatten⟩
abbrev nF(B:aE)(rs:List ResultVar)(st:VS)(fr:AF)(s:AS):Prop:=av pg B 271 (iE 270 3 pg rs (.int .i64 0) st) fr s
abbrev ma(f j nt:Nat)(K:List Item):AF:=⟨f,aA [(j,.int .i64 0)],nt,K,[],none⟩
def oE(A:MN)(n:Nat)(cap:cx)(u:AV)(fs:List Fr)(r:Nat):List<|Nat×Option ah:=[(270,some<|.cells 13 (Tr.fill (A.row (.ptr<|some (271,0)) (.slice (some (r,0)) n cap)<|.int .i64 A.steps) 0 .nil) []),(271,some<|.tok 3 u),(r,some<|az aS fs)]
abbrev pS(A:MN)(n:Nat)(cap:cx)(u:AV)(fs:List Fr):AS:=aj (aq++oE A n cap u fs 272) 273
abbrev DD(j:Nat)(A:MN)(n:Nat)(cap:cx)(u:AV)(fs:List Fr)(r aP:Nat):Pl:=.rn [(j,.int .i64 0)] (aq++oE A n cap u fs r) [(j,.int .i64 0)] (aq++oE A n cap u fs 272) aP 273 .no
theorem FX(f j nt:Nat)(K:List Item)(A:MN)(n:Nat)(cap:cx)(u:AV)(fs:List Fr)(r aP:Nat)(hlen:fs.length<=1000000)(pB:(AV.ab A.G A.q A.lg).cN=true)(hb:Bm [(271,271),(272,r)] 271 aP 273 [270,271,272]=true:=by as_aux_lemma=>kernel_rfl)(hi:Mq [(271,271),(272,r)]=true:=by as_aux_lemma=>kernel_rfl)(hj:j<1000:=by omega):
 ([(j,AV.int .i64 0)].map (fun q=>some q.2)=[(j,AV.int .i64 0)].map (fun q=>some q.2))/\((aq++oE A n cap u fs r).map (fun q=>q.2)=(aq++oE A n cap u fs r).map (fun q=>q.2))/\fy FU 271 aP [(j,.int .i64 0)] (aq++oE A n cap u fs r) [(j,.int .i64 0)] (aq++oE A n cap u fs 272) 273/\(ma f j nt K=ma f j nt K/\pS A n cap u fs=pS A n cap u fs):=by
 have ht:top=549755813888:=rfl;refine⟨rfl,rfl,LJ (ps:=[(271,271),(272,r)]) (lo:=271) (aP:=aP) ae hb hi (fun q hr ht=>⟨⟨by show j<top;omega,.int .i64 0,TA,(aZ.int _ _).z⟩,trivial⟩) fun q hr ht=>?_,rfl,rfl⟩;have e0:q 270=270:=by rw[hr];rfl
 have e1:q 271=271:=by rw[hr];rfl
 have e2:q 272=r:=by rw[hr];rfl
 refine⟨fun y hy=>?_,fun y hy=>?_,fun y hy=>?_,trivial⟩
 ·cases hy;refine⟨rfl,.cells 13 (Tr.fill (A.row (.ptr<|some (271,0)) (.slice (some (r,0)) n cap)<|.int .i64 A.steps) 0 .nil) [],?_,lM,?_⟩
  ·show(q 270,_)∈_;rw[e0];exact TA
  ·exact amt (l:=[.int .i64 A.vars,.ab A.G A.q A.lg,.int .i64 A.x0,.int .i64 A.x1,.int .i64 A.x2,.int .i64 A.x3,.int .i64 A.x4,.int .i64 A.x5,.int .i64 A.x6,.int .i64 A.x7,.ptr<|some (271,0),.slice (some (r,0)) n cap,.int .i64 A.steps]) (m:=[.int .i64 A.vars,.ab A.G A.q A.lg,.int .i64 A.x0,.int .i64 A.x1,.int .i64 A.x2,.int .i64 A.x3,.int .i64 A.x4,.int .i64 A.x5,.int .i64 A.x6,.int .i64 A.x7,.ptr<|some (271,0),.slice (some (272,0)) n cap,.int .i64 A.steps]) (rest:=[]) (by show 13<=top;omega) ⟨(aZ.int _ _).z,(Qe ht (show(AV.ab A.G A.q A.lg).hi=true from pB)).z,(aZ.int _ _).z,(aZ.int _ _).z,(aZ.int _ _).z,(aZ.int _ _).z,(aZ.int _ _).z,(aZ.int _ _).z,(aZ.int _ _).z,(aZ.int _ _).z,(aZ.ptr e1).z,(aZ.slice e2).z,(aZ.int _ _).z,trivial⟩ rfl
 ·cases hy;refine⟨rfl,.tok 3 u,?_,fc.refl _,Xa⟩;show(q 271,_)∈_;rw[e1];exact TB _ TA
 ·cases hy;refine⟨rfl,az aS fs,?_,fc.refl _,Ke ht hlen⟩;show(q 272,_)∈_;rw[e2];exact TB _<|TB _ TA
theorem DE(mc:Mt LM B){f nt:Nat}{t:Tr AV}{K:List Item}{s:AS}{rs:List ResultVar}{st:VS}{FR:AF}{S1:AS}(H:nF B rs st FR S1)(p:Pl)(x:T)(h:T=wp (pM LM) 900 6 (.fr f nt K t s) p rs (fun v s _=>v= .int .i64 0/\∀m o,(m,o)∈dW 270 3 st->s.h.get m=some o) (fun fr s1 _=>fr=FR/\s1=S1):=by as_aux_lemma=>kernel_rfl)(h0:Tw 271 s.nx=true:=by as_aux_lemma=>kernel_rfl):nF B rs st ⟨f,t,nt,K,[],none⟩ s:=Dt mc (C:=fun fr s1 _=>fr=FR/\s1=S1) (fun fr s1 p hC=>by obtain⟨rfl,rfl⟩:=hC;exact H) p x h h0
theorem Fa{n:Nat}(mc:Mt LM B):nF B (aC Tryd.f16) (bj a.pre n (.au c 13) a.steps u fs) (ma 16 2 38<|dh 16 [1,1,1,1,1,1,1,1,1])<|pS a n (.au c 13) u fs:=F1 mc (.rt 1 .no)<|nw (st:=(bj a.pre n (.au c 13) a.steps u fs)) (s:=pS a n (.au c 13) u fs) (show(i0:AV)= .int .i64 0 from rfl) cf cf cf
theorem ajK{n:Nat}(mc:Mt LM B):nF B (aC Tryd.f41) (bj a.pre n (.au c 13) a.steps u fs) (ma 41 4 38<|dh 41 [1,1,1,1,1,1,1,1])<|pS a n (.au c 13) u fs:=F1 mc (.rt 1 .no)<|nw (st:=(bj a.pre n (.au c 13) a.steps u fs)) (s:=pS a n (.au c 13) u fs) (show(i0:AV)= .int .i64 0 from rfl) cf cf cf
def DF(a:MN)(n c:Nat)(u:AV)(fs:List Fr)(ask row:AV)(k:Nat)(p:Pl):Pl:=(.st 8<|.rg<|.go 1<|.cg ask (vG 272) (vQ 272<|bj a.pre n (.au c 13) a.steps u fs)<|.go 3<|.en<|.st k<|.rg<|.go 1<|.cg row (vG 272) (vQ 272<|bj a.pre n (.au c 13) a.steps u fs)<|.go 6<|.en<|.st 1<|.rg<|.go 4<|.vl (i6<|a.steps+1)<|.go 3<|.en<|.st 1<|.rg<|.go 1<|.il<|.st 1<|.rg<|.go 4<|.il<|.st 8<|.rg<|.go 2<|.ao [] (((fs).map aS).flatten) ((((fs.take n)).map aS).flatten)<|.go 1<|.en<|.rt 1<|.go 1<|.en<|.st 1<|.rg<|.go 3<|.vl (i6<|(((0+n):Nat):Int) - 1)<|.ix<|.go 1<|.ld [(i6<|(aD (fs.take n)<|(((0+n):Nat):Int) - 1).aw)]<|.vl (i6<|(aD (fs.take n)<|(((0+n):Nat):Int) - 1).aw+1)<|.ix<|.go 1<|.oU (az aS<|(fs.take n).set ((((0+n):Nat):Int) - 1).toNat ({(aD (fs.take n)<|(((0+n):Nat):Int) - 1) with aw:=((aD (fs.take n)<|(((0+n):Nat):Int) - 1).aw+1),turns:=(aD (fs.take n)<|(((0+n):Nat):Int) - 1).turns}:Fr)) p)
abbrev zc(fs:List Fr)(n:Nat):Prop:=0<=(aD (fs.take n)<|((0+n:Nat):Int) - 1).aw/\(aD (fs.take n)<|((0+n:Nat):Int) - 1).aw<=1000000
theorem DG{n:Nat}(h1:1<=n)(hn:n<=fs.length)(hf:fs.length<=1000000)(ay:zc fs n)(t:T):AV.int .i64 (IntKind.wrap .i64<|(((0+n):Nat):Int) - 1)= .int .i64 ((((0+n):Nat):Int) - 1)/\(0:Int)<=((((0+n):Nat):Int) - 1)/\((((0+n):Nat):Int) - 1)<(((0+n):Nat):Int)/\cellsOf (some<|az aS<|fs.take n) (((((0+n):Nat):Int) - 1).toNat*13+1) 1=some (((aS<|aD (fs.take n)<|(((0+n):Nat):Int) - 1).drop 1).take 1)/\AV.int .i64 (IntKind.wrap .i64<|(aD (fs.take n)<|(((0+n):Nat):Int) - 1).aw+1)= .int .i64 ((aD (fs.take n)<|(((0+n):Nat):Int) - 1).aw+1)/\(0:Int)<=((((0+n):Nat):Int) - 1)/\((((0+n):Nat):Int) - 1)<(((0+n):Nat):Int)/\qf (some<|az aS<|fs.take n) (((((0+n):Nat):Int) - 1).toNat*13+1) [.int .i64<|(aD (fs.take n)<|(((0+n):Nat):Int) - 1).aw+1]=some (az aS<|(fs.take n).set ((((0+n):Nat):Int) - 1).toNat ({(aD (fs.take n)<|(((0+n):Nat):Int) - 1) with aw:=((aD (fs.take n)<|(((0+n):Nat):Int) - 1).aw+1),turns:=(aD (fs.take n)<|(((0+n):Nat):Int) - 1).turns}:Fr))/\T:=by have ht:top=549755813888:=rfl;exact(ai (wI<|(((0+n):Nat):Int) - 1)<|gq ((((0+n):Nat):Int) - 1) (((0+n):Nat):Int)<|ai (ur jO xA (qY (l:=(fs.take n)) (z:=((((0+n):Nat):Int) - 1)) ae xA) 1 1 rfl)<|ai (wI<|(aD (fs.take n)<|(((0+n):Nat):Int) - 1).aw+1)<|gq ((((0+n):Nat):Int) - 1) (((0+n):Nat):Int)<|ai (G6 jO xA (qY (l:=(fs.take n)) (z:=((((0+n):Nat):Int) - 1)) ae xA) (c':=({(aD (fs.take n)<|(((0+n):Nat):Int) - 1) with aw:=((aD (fs.take n)<|(((0+n):Nat):Int) - 1).aw+1),turns:=(aD (fs.take n)<|(((0+n):Nat):Int) - 1).turns}:Fr)) (r:=[(i6<|((aD (fs.take n)<|(((0+n):Nat):Int) - 1).aw+1))]) 1 rfl rfl rfl) t)
abbrev mL(fs:List Fr)(n:Nat):Fr:=({(aD (fs.take n)<|(((0+n):Nat):Int) - 1) with aw:=((aD (fs.take n)<|(((0+n):Nat):Int) - 1).aw+1),turns:=(aD (fs.take n)<|(((0+n):Nat):Int) - 1).turns}:Fr)
abbrev z6(to op nn:Int)(N L:Nat)(aT n2:Int)(N2 L2:Nat)(bd el:List St):AV:=.tuple [(.agg [(u8<|.ofNat 5),(i6 to),(u8<|op),(i6 nn),(.ab N 0 L),(u8<|aT),(i6 n2),(.ab N2 0 L2),(.ab (nm (bd.map aM).flatten) 0 bd.length),(.ab (nm (el.map aM).flatten) 0 el.length)]),(.bool true)]
abbrev uf(a:MN)(n:Nat)(u:AV)(fs:List Fr):VS:=bj a.pre (0+n) (.au (0+n) 13) (a.steps+1) u<|(fs.take n).set ((((0+n):Nat):Int) - 1).toNat ({(aD (fs.take n)<|(((0+n):Nat):Int) - 1) with aw:=((aD (fs.take n)<|(((0+n):Nat):Int) - 1).aw+1),turns:=(aD (fs.take n)<|(((0+n):Nat):Int) - 1).turns}:Fr)
end qw
namespace Zh
open cj fq cY gJ jd jV hZ lk pE qw
abbrev Cj(ka to op nn:Int)(N L:Nat)(aT n2:Int)(N2 L2:Nat)(bd el:List St):AV:=.agg [(.int .u8 ka),(i6 to),(u8<|op),(i6 nn),(.ab N 0 L),(u8<|aT),(i6 n2),(.ab N2 0 L2),(.ab (nm (bd.map aM).flatten) 0 bd.length),(.ab (nm (el.map aM).flatten) 0 el.length)]
theorem step1{ka:Int}{kb:VS->List AV->AV×VS->Prop}{kc:Nat}(hk:(ka=1/\kb=AM/\kc=32)\/(ka=2/\kb=Au/\kc=33)\/(ka=3/\kb=Ag/\kc=34)){B:aE}{a:MN}{n c:Nat}{u:AV}{fs:List Fr}{A1:MN}{m1 c1:Nat}{u1:AV}{bL:List Fr}{A2:MN}{m2 c2:Nat}{u2:AV}{bD:List Fr}{N L N2 L2:Nat}{to op nn aT n2 z wi t:Int}{bd el ol fb:List St}{fa ft y0 y1 y2 y3 y4 y5 y6 y7:Int}{fo:Bool}{ub:AV}(mc:Mt LM B)(h1:1<=n)(hn:n<=fs.length)(hc:n<=c)(hf:fs.length<=1000000)(hR:fs.length*13<=top)(ay:zc fs n)(dq:0<=a.steps/\a.steps<=1000000000000)(hlen:bD.length<=1000000)(pB:(AV.ab A2.G A2.q A2.lg).cN=true)(k0:bT 10 (bj a.pre n (.au c 13) a.steps u fs)=true)(k1:vR lX (bj a.pre n (.au c 13) a.steps u fs) []=some (.agg [(u8<|.ofNat 1),i0,i0]))(k2:((.tuple [(Cj ka to op nn N L aT n2 N2 L2 bd el),(.bool true)]):AV).hi=true)(k3:vR jC (bj a.pre n (.au c 13) a.steps u fs) []=some (.tuple [(Cj ka to op nn N L aT n2 N2 L2 bd el),(.bool true)]))(k4:([(Cj ka to op nn N L aT n2 N2 L2 bd el)]:List AV).all AV.hi=true)(k5:bT 10 (uf a n u fs)=true)(k6:eJ kb (uf a n u fs) [(Cj ka to op nn N L aT n2 N2 L2 bd el)]=some (.tuple [],(bj A1.pre m1 (.au c1 13) A1.steps u1 bL)))(k7:bT 10 (bj A1.pre m1 (.au c1 13) A1.steps u1 bL)=true)(k8:eJ fK (bj A1.pre m1 (.au c1 13) A1.steps u1 bL) []=some (.tuple [],(bj A2.pre m2 (.au c2 13) A2.steps u2 bD)))(k9:bT 10 (bj A2.pre m2 (.au c2 13) A2.steps u2 bD)=true)(H:nF B (aC Tryd.f16) (bj A2.pre m2 (.au c2 13) A2.steps u2 bD) (ma 16 2 38<|dh 16 [1,1,1,1,1,1,1,1,1])<|pS A2 m2 (.au c2 13) u2 bD):nF B (aC Tryd.f16) (bj A2.pre m2 (.au c2 13) A2.steps u2 bD) (sF 16 Tryd.f16 [(.ptr<|some (270,0))])<|aj (aq++bf (dW 270 3<|bj a.pre n (.au c 13) a.steps u fs)) 273:=by
 have ht:top=549755813888:=rfl;have vx:sp LM kc=some (nN 10 3 (eJ kb) 270 dK dk):=by rcases hk with⟨_,rfl,rfl⟩|⟨_,rfl,rfl⟩|⟨_,rfl,rfl⟩<;>kernel_rfl
 have TT:=(Bq LM 15 272 (vR lX) [] (bj a.pre n (.au c 13) a.steps u fs) (.agg [(u8<|.ofNat 1),i0,i0]) k0 k1<|kS LM 27 272 (vR jC) [] (bj a.pre n (.au c 13) a.steps u fs) (.tuple [(Cj ka to op nn N L aT n2 N2 L2 bd el),(.bool true)]) k0 k3 cf k2<|ai (wI<|a.steps+1)<|DC (fs:=fs) (n:=n) ae xA xA<|DG h1 hn hf ay<|vMx (h1:=vx) LM kc 276 (eJ kb) [(Cj ka to op nn N L aT n2 N2 L2 bd el)] (uf a n u fs) (bj A1.pre m1 (.au c1 13) A1.steps u1 bL) k5 k6 k7 k4<|xL LM 40 276 (eJ fK) [] (bj A1.pre m1 (.au c1 13) A1.steps u1 bL) (bj A2.pre m2 (.au c2 13) A2.steps u2 bD) k7 k8 k9<|FX 16 2 38 (dh 16 [1,1,1,1,1,1,1,1,1]) A2 m2 (.au c2 13) u2 bD 276 277 hlen pB);let P:Pl:=(DF a n c u fs (.agg [(u8<|.ofNat 1),i0,i0]) (.tuple [(Cj ka to op nn N L aT n2 N2 L2 bd el),(.bool true)]) 6<|.en<|.rt 2<|.en<|.st 1<|.rg<|.go 6<|.cg (.tuple []) (vF 276<|bj A1.pre m1 (.au c1 13) A1.steps u1 bL) (vQ 276<|uf a n u fs)<|.en<|.st 1<|.rg<|.go 1<|.cg (.tuple []) (vF 276<|bj A2.pre m2 (.au c2 13) A2.steps u2 bD) (vQ 276<|bj A1.pre m1 (.au c1 13) A1.steps u1 bL)<|.en<|.st 2<|(DD 2 A2 m2 (.au c2 13) u2 bD 276 277));rcases hk with⟨rfl,rfl,rfl⟩|⟨rfl,rfl,rfl⟩|⟨rfl,rfl,rfl⟩
 all_goals exact DE mc H P TT aV
end Zh
namespace Q8
open cj fq cY ia gJ jd jV hZ lk pE qw
def fkB(b:Bool)(p:Pl):Pl:=match b with
 |true=>.fk p .no
 |false=>.fk .no p
def zB(b:Bool)(z:Int):Prop:=match b with
 |true=>z≠0
 |false=>z=0
def xB(b:Bool)(x y:List St):List St:=match b with
 |true=>x
 |false=>y
theorem tfB{T:Prop}{z:Int}(b:Bool)(hz:zB b z)(t:T):(z≠0->(match b with|true=>T|false=>False))/\(¬z≠0->(match b with|true=>False|false=>T)):=by
 cases b with
 |true=>exact⟨fun _=>t,fun h=>h hz⟩
 |false=>exact⟨fun h=>h hz,fun _=>t⟩
abbrev Ki(a:MN)(n:Nat)(u:AV)(fs:List Fr)(X:List St):VS:=bj a.pre ((((0+n):Nat):Int).toNat+1) (.au ((((0+n):Nat):Int).toNat+1) 13) (a.steps+1) u<|((fs.take n).set ((((0+n):Nat):Int) - 1).toNat<|mL fs n).take (((0+n):Nat):Int).toNat++[(⟨X,0,0,false,[0,0,0,0,0,0,0,0],none⟩:Fr)]
abbrev Kj(to op nn:Int)(N L:Nat)(aT n2:Int)(N2 L2:Nat)(bd el:List St):AV:=.tuple [(.agg [(u8<|.ofNat 4),(i6 to),(u8<|op),(i6 nn),(.ab N 0 L),(u8<|aT),(i6 n2),(.ab N2 0 L2),(.ab (nm (bd.map aM).flatten) 0 bd.length),(.ab (nm (el.map aM).flatten) 0 el.length)]),(.bool true)]
abbrev Kk(a:MN)(n:Nat)(u:AV)(fs:List Fr):VS:=bj a.pre (0+n) (.au (0+n) 13) (a.steps+1) u<|(fs.take n).set ((((0+n):Nat):Int) - 1).toNat<|mL fs n
abbrev PS(X:List St):List AV:=[(.ab (nm (X.map aM).flatten) 0 X.length),i0,i0,(.bool false),i0,i0,i0,i0,i0,i0,i0,i0,(.slice none 0<|.known 0)]
theorem ah0{B:aE}{a:MN}{n c:Nat}{u:AV}{fs:List Fr}{A1:MN}{m1 c1:Nat}{u1:AV}{bL:List Fr}{A2:MN}{m2 c2:Nat}{u2:AV}{bD:List Fr}{N L N2 L2:Nat}{to op nn aT n2 z:Int}{bd el X:List St}{tk:Bool}(mc:Mt LM B)(h1:1<=n)(hn:n<=fs.length)(hc:n<=c)(hf:fs.length<=1000000)(hR:fs.length*13<=top)(ay:zc fs n)(dq:0<=a.steps/\a.steps<=1000000000000)(hlen:bD.length<=1000000)(pB:(AV.ab A2.G A2.q A2.lg).cN=true)(hz:zB tk z)(hX:X=xB tk bd el)(k0:bT 10 (bj a.pre n (.au c 13) a.steps u fs)=true)(k1:vR lX (bj a.pre n (.au c 13) a.steps u fs) []=some (.agg [(u8<|.ofNat 1),i0,i0]))(k2:((Kj to op nn N L aT n2 N2 L2 bd el):AV).hi=true)(k3:vR jC (bj a.pre n (.au c 13) a.steps u fs) []=some (Kj to op nn N L aT n2 N2 L2 bd el))(k4:([.agg [.int .u8 op,.int .i64 nn,.ab N 0 L]]:List AV).all AV.hi=true)(k5:bT 10 (Kk a n u fs)=true)(k6:vR jY (Kk a n u fs) [(.agg [(u8<|op),(i6 nn),(.ab N 0 L)])]=some (i6 z))(k7:bT 10 (Ki a n u fs X)=true)(k8:eJ fK (Ki a n u fs X) []=some (.tuple [],(bj A1.pre m1 (.au c1 13) A1.steps u1 bL)))(k9:bT 10 (bj A1.pre m1 (.au c1 13) A1.steps u1 bL)=true)(tz:eJ fK (bj A1.pre m1 (.au c1 13) A1.steps u1 bL) []=some (.tuple [],(bj A2.pre m2 (.au c2 13) A2.steps u2 bD)))(zm:bT 10 (bj A2.pre m2 (.au c2 13) A2.steps u2 bD)=true)(H:nF B (aC Tryd.f16) (bj A2.pre m2 (.au c2 13) A2.steps u2 bD) (ma 16 2 38<|dh 16 [1,1,1,1,1,1,1,1,1])<|pS A2 m2 (.au c2 13) u2 bD):nF B (aC Tryd.f16) (bj A2.pre m2 (.au c2 13) A2.steps u2 bD) (sF 16 Tryd.f16 [(.ptr<|some (270,0))])<|aj (aq++bf (dW 270 3<|bj a.pre n (.au c 13) a.steps u fs)) 273:=by
 have ht:top=549755813888:=rfl;have TT:=(Bq LM 15 272 (vR lX) [] (bj a.pre n (.au c 13) a.steps u fs) (.agg [(u8<|.ofNat 1),i0,i0]) k0 k1
  (kS LM 27 272 (vR jC) [] (bj a.pre n (.au c 13) a.steps u fs) (Kj to op nn N L aT n2 N2 L2 bd el) k0 k3 cf k2
  (ai (wI<|a.steps+1)
  (DC (fs:=fs) (n:=n) ae xA xA
  (DG h1 hn hf ay (kS LM 28 276 (vR jY) [(.agg [(u8<|op),(i6 nn),(.ab N 0 L)])] (Kk a n u fs) (i6 z) k5 k6 k4 cf
  (tfB tk hz<|ai (show 0<=(((0+n):Nat):Int) from ae)<|ai (show(((0+n):Nat):Int)<=(((0+n):Nat):Int) from ae) (ai (show(((0+n):Nat):Int)<=Int.ofNat (jR (0+n)<|.au (0+n) 13) from(show(((0+n):Nat):Int)<=(((0+n):Nat):Int) from by omega))
  (Nl (fs:=((fs.take n).set ((((0+n):Nat):Int) - 1).toNat<|mL fs n)) (n:=(((0+n):Nat):Int).toNat) (f:=(⟨X,0,0,false,[0,0,0,0,0,0,0,0],none⟩:Fr)) (cs:=(PS X)) (show aS (⟨X,0,0,false,[0,0,0,0,0,0,0,0],none⟩:Fr)=(PS X) from rfl) ae xA xA
  (xL LM 40 280 (eJ fK) [] (Ki a n u fs X) (bj A1.pre m1 (.au c1 13) A1.steps u1 bL) k7 k8 k9
  (xL LM 40 280 (eJ fK) [] (bj A1.pre m1 (.au c1 13) A1.steps u1 bL) (bj A2.pre m2 (.au c2 13) A2.steps u2 bD) k9 tz zm
  (FX 16 2 38 (dh 16 [1,1,1,1,1,1,1,1,1]) A2 m2 (.au c2 13) u2 bD 280 281 hlen pB))))))))))))
 let P:Pl:=(DF a n c u fs (.agg [(u8<|.ofNat 1),i0,i0]) (Kj to op nn N L aT n2 N2 L2 bd el) 6<|.en<|.rt 2<|.en<|.st 1<|.rg<|.go 6<|.il<|.st 4<|.rg<|.go 3<|.cg (i6 z) (vG 276) (vQ 276<|Kk a n u fs)<|fkB tk<|.en<|.st 2<|.rg<|.go 4<|.il<|.st 3<|.rg<|.go 15<|.s3<|.go 2<|.an (((((fs.take n).set ((((0+n):Nat):Int) - 1).toNat<|mL fs n)).map aS).flatten) (PS X) ((((((fs.take n).set ((((0+n):Nat):Int) - 1).toNat<|mL fs n).take (((0+n):Nat):Int).toNat++[(⟨X,0,0,false,[0,0,0,0,0,0,0,0],none⟩:Fr)])).map aS).flatten)<|.go 3<|.en<|.rg<|.go 1<|.cg (.tuple []) (vF 280<|bj A1.pre m1 (.au c1 13) A1.steps u1 bL) (vQ 280<|Ki a n u fs X)<|.en<|.rt 1<|.en<|.rt 1<|.en<|.st 1<|.rg<|.go 1<|.cg (.tuple []) (vF 280<|bj A2.pre m2 (.au c2 13) A2.steps u2 bD) (vQ 280<|bj A1.pre m1 (.au c1 13) A1.steps u1 bL)<|.en<|.st 2<|(DD 2 A2 m2 (.au c2 13) u2 bD 280 281));subst hX;cases tk
 all_goals exact DE mc H P TT aV
end Q8
namespace YC
open cj gi iU fq cY gJ jd jV hZ lk pE qw
abbrev Kl(a:MN)(n:Nat)(u:AV)(fs:List Fr)(bd:List St)(z:Int):VS:=bj a.pre ((((0+n):Nat):Int).toNat+1) (.au ((((0+n):Nat):Int).toNat+1) 13) (a.steps+1) u<|((fs.take n).set ((((0+n):Nat):Int) - 1).toNat<|mL fs n).take (((0+n):Nat):Int).toNat++[(⟨bd,0,((eM (cU z<|0)<|8) - 1),false,[0,0,0,0,0,0,0,0],none⟩:Fr)]
abbrev PT(bd:List St)(z:Int):List AV:=[(.ab (nm (bd.map aM).flatten) 0 bd.length),i0,(i6<|((eM (cU z (0:Int)) (8:Int)) - 1)),(.bool false),i0,i0,i0,i0,i0,i0,i0,i0,(.slice none 0<|.known 0)]
abbrev Km(a:MN)(n:Nat)(u:AV)(fs:List Fr):VS:=bj a.pre (0+n) (.au (0+n) 13) (a.steps+1) u<|(fs.take n).set ((((0+n):Nat):Int) - 1).toNat<|mL fs n
theorem ah1{B:aE}{a:MN}{n c:Nat}{u:AV}{fs:List Fr}{A1:MN}{m1 c1:Nat}{u1:AV}{bL:List Fr}{A2:MN}{m2 c2:Nat}{u2:AV}{bD:List Fr}{N L N2 L2:Nat}{to op nn aT n2 z:Int}{bd el:List St}(mc:Mt LM B)(h1:1<=n)(hn:n<=fs.length)(hc:n<=c)(hf:fs.length<=1000000)(hR:fs.length*13<=top)(ay:zc fs n)(dq:0<=a.steps/\a.steps<=1000000000000)(hlen:bD.length<=1000000)(pB:(AV.ab A2.G A2.q A2.lg).cN=true)(hz:0<(eM (cU z<|0)<|8)/\(eM (cU z<|0)<|8)<=8)(k0:bT 10 (bj a.pre n (.au c 13) a.steps u fs)=true)(k1:vR lX (bj a.pre n (.au c 13) a.steps u fs) []=some (.agg [(u8<|.ofNat 1),i0,i0]))(k2:((z6 to op nn N L aT n2 N2 L2 bd el):AV).hi=true)(k3:vR jC (bj a.pre n (.au c 13) a.steps u fs) []=some (z6 to op nn N L aT n2 N2 L2 bd el))(k4:([.agg [.int .u8 op,.int .i64 nn,.ab N 0 L]]:List AV).all AV.hi=true)(k5:bT 10 (Km a n u fs)=true)(k6:vR jY (Km a n u fs) [(.agg [(u8<|op),(i6 nn),(.ab N 0 L)])]=some (i6 z))(k7:bT 10 (Kl a n u fs bd z)=true)(k8:eJ fK (Kl a n u fs bd z) []=some (.tuple [],(bj A1.pre m1 (.au c1 13) A1.steps u1 bL)))(k9:bT 10 (bj A1.pre m1 (.au c1 13) A1.steps u1 bL)=true)(tz:eJ fK (bj A1.pre m1 (.au c1 13) A1.steps u1 bL) []=some (.tuple [],(bj A2.pre m2 (.au c2 13) A2.steps u2 bD)))(zm:bT 10 (bj A2.pre m2 (.au c2 13) A2.steps u2 bD)=true)(H:nF B (aC Tryd.f16) (bj A2.pre m2 (.au c2 13) A2.steps u2 bD) (ma 16 2 38<|dh 16 [1,1,1,1,1,1,1,1,1])<|pS A2 m2 (.au c2 13) u2 bD):nF B (aC Tryd.f16) (bj A2.pre m2 (.au c2 13) A2.steps u2 bD) (sF 16 Tryd.f16 [(.ptr<|some (270,0))])<|aj (aq++bf (dW 270 3<|bj a.pre n (.au c 13) a.steps u fs)) 273:=by have ht:top=549755813888:=rfl;exact DE mc H (DF a n c u fs (.agg [(u8<|.ofNat 1),i0,i0]) (z6 to op nn N L aT n2 N2 L2 bd el) 6<|.en<|.rt 2<|.en<|.st 1<|.rg<|.go 6<|.il<|.st 3<|.rg<|.go 3<|.cg (i6 z) (vG 276) (vQ 276<|Km a n u fs)<|.vl (i6<|(cU z (0:Int)))<|.vl (i6<|(eM (cU z (0:Int)) (8:Int)))<|.go 1<|.en<|.st 1<|.rg<|.go 1<|.fk (.en<|.st 1<|.rg<|.go 4<|.vl (i6<|(eM (cU z (0:Int)) (8:Int)) - 1)<|.go 1<|.il<|.st 3<|.rg<|.go 15<|.s3<|.go 2<|.an (((((fs.take n).set ((((0+n):Nat):Int) - 1).toNat<|mL fs n)).map aS).flatten) (PT bd z) ((((((fs.take n).set ((((0+n):Nat):Int) - 1).toNat<|mL fs n).take (((0+n):Nat):Int).toNat++[(⟨bd,0,((eM (cU z<|0)<|8) - 1),false,[0,0,0,0,0,0,0,0],none⟩:Fr)])).map aS).flatten)<|.go 3<|.en<|.rg<|.go 1<|.cg (.tuple []) (vF 280<|bj A1.pre m1 (.au c1 13) A1.steps u1 bL) (vQ 280<|Kl a n u fs bd z)<|.en<|.rt 1<|.en<|.rt 1<|.en<|.st 1<|.rg<|.go 1<|.cg (.tuple []) (vF 280<|bj A2.pre m2 (.au c2 13) A2.steps u2 bD) (vQ 280<|bj A1.pre m1 (.au c1 13) A1.steps u1 bL)<|.en<|.st 2<|(DD 2 A2 m2 (.au c2 13) u2 bD 280 281))<|.no)<|Bq LM 15 272 (vR lX) [] (bj a.pre n (.au c 13) a.steps u fs) (.agg [(u8<|.ofNat 1),i0,i0]) k0 k1<|kS LM 27 272 (vR jC) [] (bj a.pre n (.au c 13) a.steps u fs) (z6 to op nn N L aT n2 N2 L2 bd el) k0 k3 cQ k2<|ai (wI<|a.steps+1)<|DC (fs:=fs) (n:=n) ae nU nU<|DG h1 hn hf ay<|kS LM 28 276 (vR jY) [(.agg [(u8<|op),(i6 nn),(.ab N 0 L)])] (Km a n u fs) (i6 z) k5 k6 k4 cQ<|ai (congrArg (AV.int .i64) (show(match decide ((0:Int)>z) with|true=>(0:Int)|false=>z)=cU z (0:Int) from rfl))<|ai (congrArg (AV.int .i64) (show(match decide ((8:Int)<(cU z (0:Int))) with|true=>(8:Int)|false=>(cU z (0:Int)))=eM (cU z (0:Int)) (8:Int) from rfl))<|bq ((eM (cU z (0:Int)) (8:Int))>0) (fun _=>(ai (wI<|(eM (cU z (0:Int)) (8:Int)) - 1)<|ai (show 0<=(((0+n):Nat):Int) from ae)<|ai (show(((0+n):Nat):Int)<=(((0+n):Nat):Int) from ae)<|ai (show(((0+n):Nat):Int)<=Int.ofNat (jR (0+n)<|.au (0+n) 13) from(show(((0+n):Nat):Int)<=(((0+n):Nat):Int) from by omega))<|Nl (fs:=((fs.take n).set ((((0+n):Nat):Int) - 1).toNat<|mL fs n)) (n:=(((0+n):Nat):Int).toNat) (f:=(⟨bd,0,((eM (cU z<|0)<|8) - 1),false,[0,0,0,0,0,0,0,0],none⟩:Fr)) (cs:=(PT bd z)) (show aS (⟨bd,0,((eM (cU z<|0)<|8) - 1),false,[0,0,0,0,0,0,0,0],none⟩:Fr)=(PT bd z) from rfl) ae nU nU<|xL LM 40 280 (eJ fK) [] (Kl a n u fs bd z) (bj A1.pre m1 (.au c1 13) A1.steps u1 bL) k7 k8 k9<|xL LM 40 280 (eJ fK) [] (bj A1.pre m1 (.au c1 13) A1.steps u1 bL) (bj A2.pre m2 (.au c2 13) A2.steps u2 bD) k9 tz zm Y4)) iF
end YC
namespace YD
open cj gi iU fq cY gJ jd jV hZ lk pE qw
theorem ah2{B:aE}{a:MN}{n c:Nat}{u:AV}{fs:List Fr}{A1:MN}{m1 c1:Nat}{u1:AV}{bL:List Fr}{N L N2 L2:Nat}{to op nn aT n2 z:Int}{bd el:List St}(mc:Mt LM B)(h1:1<=n)(hn:n<=fs.length)(hc:n<=c)(hf:fs.length<=1000000)(hR:fs.length*13<=top)(ay:zc fs n)(dq:0<=a.steps/\a.steps<=1000000000000)(hlen:bL.length<=1000000)(pB:(AV.ab A1.G A1.q A1.lg).cN=true)(hz:(eM (cU z<|0)<|8)<=0)(k0:bT 10 (bj a.pre n (.au c 13) a.steps u fs)=true)(k1:vR lX (bj a.pre n (.au c 13) a.steps u fs) []=some (.agg [(u8<|.ofNat 1),i0,i0]))(k2:((z6 to op nn N L aT n2 N2 L2 bd el):AV).hi=true)(k3:vR jC (bj a.pre n (.au c 13) a.steps u fs) []=some (z6 to op nn N L aT n2 N2 L2 bd el))(k4:([.agg [.int .u8 op,.int .i64 nn,.ab N 0 L]]:List AV).all AV.hi=true)(k5:bT 10 (uf a n u fs)=true)(k6:vR jY (uf a n u fs) [(.agg [(u8<|op),(i6 nn),(.ab N 0 L)])]=some (i6 z))(k7:eJ fK (uf a n u fs) []=some (.tuple [],(bj A1.pre m1 (.au c1 13) A1.steps u1 bL)))(k8:bT 10 (bj A1.pre m1 (.au c1 13) A1.steps u1 bL)=true)(H:nF B (aC Tryd.f16) (bj A1.pre m1 (.au c1 13) A1.steps u1 bL) (ma 16 2 38<|dh 16 [1,1,1,1,1,1,1,1,1])<|pS A1 m1 (.au c1 13) u1 bL):nF B (aC Tryd.f16) (bj A1.pre m1 (.au c1 13) A1.steps u1 bL) (sF 16 Tryd.f16 [(.ptr<|some (270,0))])<|aj (aq++bf (dW 270 3<|bj a.pre n (.au c 13) a.steps u fs)) 273:=by have ht:top=549755813888:=rfl;exact DE mc H (DF a n c u fs (.agg [(u8<|.ofNat 1),i0,i0]) (z6 to op nn N L aT n2 N2 L2 bd el) 6<|.en<|.rt 2<|.en<|.st 1<|.rg<|.go 6<|.il<|.st 3<|.rg<|.go 3<|.cg (i6 z) (vG 276) (vQ 276<|uf a n u fs)<|.vl (i6<|(cU z (0:Int)))<|.vl (i6<|(eM (cU z (0:Int)) (8:Int)))<|.go 1<|.en<|.st 1<|.rg<|.go 1<|.fk (.no)<|.en<|.rt 3<|.en<|.st 1<|.rg<|.go 1<|.cg (.tuple []) (vF 276<|bj A1.pre m1 (.au c1 13) A1.steps u1 bL) (vQ 276<|uf a n u fs)<|.en<|.st 2<|(DD 2 A1 m1 (.au c1 13) u1 bL 276 278))<|Bq LM 15 272 (vR lX) [] (bj a.pre n (.au c 13) a.steps u fs) (.agg [(u8<|.ofNat 1),i0,i0]) k0 k1<|kS LM 27 272 (vR jC) [] (bj a.pre n (.au c 13) a.steps u fs) (z6 to op nn N L aT n2 N2 L2 bd el) k0 k3 cQ k2<|ai (wI<|a.steps+1)<|DC (fs:=fs) (n:=n) ae nU nU<|DG h1 hn hf ay<|kS LM 28 276 (vR jY) [(.agg [(u8<|op),(i6 nn),(.ab N 0 L)])] (uf a n u fs) (i6 z) k5 k6 k4 cQ<|ai (congrArg (AV.int .i64) (show(match decide ((0:Int)>z) with|true=>(0:Int)|false=>z)=cU z (0:Int) from rfl))<|ai (congrArg (AV.int .i64) (show(match decide ((8:Int)<(cU z (0:Int))) with|true=>(8:Int)|false=>(cU z (0:Int)))=eM (cU z (0:Int)) (8:Int) from rfl))<|bq ((eM (cU z (0:Int)) (8:Int))>0) iF fun _=>(xL LM 40 276 (eJ fK) [] (uf a n u fs) (bj A1.pre m1 (.au c1 13) A1.steps u1 bL) k5 k7 k8<|FX 16 2 38 (dh 16 [1,1,1,1,1,1,1,1,1]) A1 m1 (.au c1 13) u1 bL 276 278 hlen pB)
end YD
namespace Zi
open cj fq cY ia gJ jd cO jV hZ lk pE qw
abbrev K8(a:MN)(n:Nat)(ub:AV)(fs:List Fr)(bd el:List St):VS:=bj a.pre ((((0+n):Nat):Int).toNat+1) (.au ((((0+n):Nat):Int).toNat+1) 13) (a.steps+1) ub<|((fs.take n).set ((((0+n):Nat):Int) - 1).toNat ({(aD (fs.take n)<|(((0+n):Nat):Int) - 1) with aw:=((aD (fs.take n)<|(((0+n):Nat):Int) - 1).aw+1),turns:=(aD (fs.take n)<|(((0+n):Nat):Int) - 1).turns}:Fr)).take (((0+n):Nat):Int).toNat++[(⟨bd,0,0,true,[a.x0,a.x1,a.x2,a.x3,a.x4,a.x5,a.x6,a.x7],(some el)⟩:Fr)]
abbrev K9(to op nn:Int)(N L:Nat)(aT n2:Int)(N2 L2:Nat)(bd el:List St):AV:=.tuple [(.agg [(u8<|.ofNat 7),(i6 to),(u8<|op),(i6 nn),(.ab N 0 L),(u8<|aT),(i6 n2),(.ab N2 0 L2),(.ab (nm (bd.map aM).flatten) 0 bd.length),(.ab (nm (el.map aM).flatten) 0 el.length)]),(.bool true)]
abbrev Qp(bd:List St)(a:MN)(el:List St):List AV:=[(.ab (nm (bd.map aM).flatten) 0 bd.length),i0,i0,(.bool true),(i6 a.x0),(i6 a.x1),(i6 a.x2),(i6 a.x3),(i6 a.x4),(i6 a.x5),(i6 a.x6),(i6 a.x7),(.ab (nm (el.map aM).flatten) 0 el.length)]
theorem ajL{B:aE}{a:MN}{n c:Nat}{u:AV}{fs:List Fr}{A1:MN}{m1 c1:Nat}{u1:AV}{bL:List Fr}{A2:MN}{m2 c2:Nat}{u2:AV}{bD:List Fr}{N L N2 L2:Nat}{to op nn aT n2 z:Int}{bd el:List St}{ub:AV}(mc:Mt LM B)(h1:1<=n)(hn:n<=fs.length)(hc:n<=c)(hf:fs.length<=1000000)(hR:fs.length*13<=top)(ay:zc fs n)(dq:0<=a.steps/\a.steps<=1000000000000)(hlen:bD.length<=1000000)(pB:(AV.ab A2.G A2.q A2.lg).cN=true)(k0:bT 10 (bj a.pre n (.au c 13) a.steps u fs)=true)(k1:vR lX (bj a.pre n (.au c 13) a.steps u fs) []=some (.agg [(u8<|.ofNat 1),i0,i0]))(k2:((K9 to op nn N L aT n2 N2 L2 bd el):AV).hi=true)(k3:vR jC (bj a.pre n (.au c 13) a.steps u fs) []=some (K9 to op nn N L aT n2 N2 L2 bd el))(k4:iZ (ir bZ K2) u []=some ((.int .i64 0:AV),ub))(k5:bT 10 (K8 a n ub fs bd el)=true)(k6:eJ fK (K8 a n ub fs bd el) []=some (.tuple [],(bj A1.pre m1 (.au c1 13) A1.steps u1 bL)))(k7:bT 10 (bj A1.pre m1 (.au c1 13) A1.steps u1 bL)=true)(k8:eJ fK (bj A1.pre m1 (.au c1 13) A1.steps u1 bL) []=some (.tuple [],(bj A2.pre m2 (.au c2 13) A2.steps u2 bD)))(k9:bT 10 (bj A2.pre m2 (.au c2 13) A2.steps u2 bD)=true)(H:nF B (aC Tryd.f16) (bj A2.pre m2 (.au c2 13) A2.steps u2 bD) (ma 16 2 38<|dh 16 [1,1,1,1,1,1,1,1,1])<|pS A2 m2 (.au c2 13) u2 bD):nF B (aC Tryd.f16) (bj A2.pre m2 (.au c2 13) A2.steps u2 bD) (sF 16 Tryd.f16 [(.ptr<|some (270,0))])<|aj (aq++bf (dW 270 3<|bj a.pre n (.au c 13) a.steps u fs)) 273:=by have ht:top=549755813888:=rfl;exact DE mc H (DF a n c u fs (.agg [(u8<|.ofNat 1),i0,i0]) (K9 to op nn N L aT n2 N2 L2 bd el) 6<|.en<|.rt 2<|.en<|.st 1<|.rg<|.go 6<|.il<|.st 3<|.rg<|.go 4<|.kt i0 ub<|.en<|.rg<|.go 10<|.il<|.st 3<|.rg<|.go 15<|.s3<|.go 2<|.an (((((fs.take n).set ((((0+n):Nat):Int) - 1).toNat<|mL fs n)).map aS).flatten) (Qp bd a el) ((((((fs.take n).set ((((0+n):Nat):Int) - 1).toNat<|mL fs n).take (((0+n):Nat):Int).toNat++[(⟨bd,0,0,true,[a.x0,a.x1,a.x2,a.x3,a.x4,a.x5,a.x6,a.x7],(some el)⟩:Fr)])).map aS).flatten)<|.go 3<|.en<|.rg<|.go 1<|.cg (.tuple []) (vF 280<|bj A1.pre m1 (.au c1 13) A1.steps u1 bL) (vQ 280<|K8 a n ub fs bd el)<|.en<|.rt 1<|.en<|.rt 1<|.en<|.st 1<|.rg<|.go 1<|.cg (.tuple []) (vF 280<|bj A2.pre m2 (.au c2 13) A2.steps u2 bD) (vQ 280<|bj A1.pre m1 (.au c1 13) A1.steps u1 bL)<|.en<|.st 2<|(DD 2 A2 m2 (.au c2 13) u2 bD 280 281))<|Bq LM 15 272 (vR lX) [] (bj a.pre n (.au c 13) a.steps u fs) (.agg [(u8<|.ofNat 1),i0,i0]) k0 k1<|kS LM 27 272 (vR jC) [] (bj a.pre n (.au c 13) a.steps u fs) (K9 to op nn N L aT n2 N2 L2 bd el) k0 k3 cQ k2<|ai (wI<|a.steps+1)<|DC (fs:=fs) (n:=n) ae nU nU<|DG h1 hn hf ay<|ai k4<|ai (show 0<=(((0+n):Nat):Int) from ae)<|ai (show(((0+n):Nat):Int)<=(((0+n):Nat):Int) from ae)<|ai (show(((0+n):Nat):Int)<=Int.ofNat (jR (0+n)<|.au (0+n) 13) from(show(((0+n):Nat):Int)<=(((0+n):Nat):Int) from by omega))<|Nl (fs:=((fs.take n).set ((((0+n):Nat):Int) - 1).toNat<|mL fs n)) (n:=(((0+n):Nat):Int).toNat) (f:=(⟨bd,0,0,true,[a.x0,a.x1,a.x2,a.x3,a.x4,a.x5,a.x6,a.x7],(some el)⟩:Fr)) (cs:=(Qp bd a el)) (show aS (⟨bd,0,0,true,[a.x0,a.x1,a.x2,a.x3,a.x4,a.x5,a.x6,a.x7],(some el)⟩:Fr)=(Qp bd a el) from rfl) ae nU nU<|xL LM 40 280 (eJ fK) [] (K8 a n ub fs bd el) (bj A1.pre m1 (.au c1 13) A1.steps u1 bL) k5 k6 k7<|xL LM 40 280 (eJ fK) [] (bj A1.pre m1 (.au c1 13) A1.steps u1 bL) (bj A2.pre m2 (.au c2 13) A2.steps u2 bD) k7 k8 k9 Y4
end Zi
namespace Zj
open cj fq cY ia gJ jd jV kM hZ lk pE qw
abbrev Lc(a:MN)(y0 y1 y2 y3 y4 y5 y6 y7 wi:Int)(ub:AV)(fs:List Fr)(n:Nat)(ol:List St):VS:=bj [(i6 a.vars),(.ab a.G a.q a.lg),(i6 y0),(i6 y1),(i6 y2),(i6 y3),(i6 y4),(i6 y5),(i6 y6),(i6 y7)] ((((wi).toNat:Nat):Int).toNat+1) (.au ((((wi).toNat:Nat):Int).toNat+1) 13) (a.steps+1) ub<|((fs.take n).set ((((0+n):Nat):Int) - 1).toNat<|mL fs n).take (((wi).toNat:Nat):Int).toNat++[(⟨ol,0,0,false,[0,0,0,0,0,0,0,0],none⟩:Fr)]
abbrev Lf(to op nn:Int)(N L:Nat)(aT n2:Int)(N2 L2:Nat)(bd el:List St):AV:=.tuple [(.agg [(u8<|.ofNat 6),(i6 to),(u8<|op),(i6 nn),(.ab N 0 L),(u8<|aT),(i6 n2),(.ab N2 0 L2),(.ab (nm (bd.map aM).flatten) 0 bd.length),(.ab (nm (el.map aM).flatten) 0 el.length)]),(.bool true)]
abbrev Lg(a:MN)(n:Nat)(u:AV)(fs:List Fr):VS:=bj a.pre (0+n) (.au (0+n) 13) (a.steps+1) u<|(fs.take n).set ((((0+n):Nat):Int) - 1).toNat<|mL fs n
abbrev Qq(ol:List St):List AV:=[(.ab (nm (ol.map aM).flatten) 0 ol.length),i0,i0,(.bool false),i0,i0,i0,i0,i0,i0,i0,i0,(.slice none 0<|.known 0)]
theorem ajM{B:aE}{a:MN}{n c:Nat}{u:AV}{fs:List Fr}{A1:MN}{m1 c1:Nat}{u1:AV}{bL:List Fr}{A2:MN}{m2 c2:Nat}{u2:AV}{bD:List Fr}{N L N2 L2:Nat}{to op nn aT n2 z wi:Int}{bd el ol fb:List St}{fa ft y0 y1 y2 y3 y4 y5 y6 y7:Int}{fo:Bool}{ub:AV}(mc:Mt LM B)(h1:1<=n)(hn:n<=fs.length)(hc:n<=c)(hf:fs.length<=1000000)(hR:fs.length*13<=top)(ay:zc fs n)(dq:0<=a.steps/\a.steps<=1000000000000)(hlen:bD.length<=1000000)(pB:(AV.ab A2.G A2.q A2.lg).cN=true)(hz:1<=wi/\wi<(n:Int))(k0:bT 10 (bj a.pre n (.au c 13) a.steps u fs)=true)(k1:vR lX (bj a.pre n (.au c 13) a.steps u fs) []=some (.agg [(u8<|.ofNat 1),i0,i0]))(k2:((Lf to op nn N L aT n2 N2 L2 bd el):AV).hi=true)(k3:vR jC (bj a.pre n (.au c 13) a.steps u fs) []=some (Lf to op nn N L aT n2 N2 L2 bd el))(k4:bT 10 (Lg a n u fs)=true)(k5:vR sc (Lg a n u fs) []=some (i6 wi))(k6:((fs.take n).set ((((0+n):Nat):Int) - 1).toNat<|mL fs n)[wi.toNat]? =some (⟨fb,fa,ft,fo,[y0,y1,y2,y3,y4,y5,y6,y7],some ol⟩:Fr))(k7:iZ (ir bZ K3) u []=some ((.int .i64 0:AV),ub))(k8:bT 10 (Lc a y0 y1 y2 y3 y4 y5 y6 y7 wi ub fs n ol)=true)(k9:eJ fK (Lc a y0 y1 y2 y3 y4 y5 y6 y7 wi ub fs n ol) []=some (.tuple [],(bj A1.pre m1 (.au c1 13) A1.steps u1 bL)))(tz:bT 10 (bj A1.pre m1 (.au c1 13) A1.steps u1 bL)=true)(zm:eJ fK (bj A1.pre m1 (.au c1 13) A1.steps u1 bL) []=some (.tuple [],(bj A2.pre m2 (.au c2 13) A2.steps u2 bD)))(k12:bT 10 (bj A2.pre m2 (.au c2 13) A2.steps u2 bD)=true)(H:nF B (aC Tryd.f16) (bj A2.pre m2 (.au c2 13) A2.steps u2 bD) (ma 16 2 38<|dh 16 [1,1,1,1,1,1,1,1,1])<|pS A2 m2 (.au c2 13) u2 bD):nF B (aC Tryd.f16) (bj A2.pre m2 (.au c2 13) A2.steps u2 bD) (sF 16 Tryd.f16 [(.ptr<|some (270,0))])<|aj (aq++bf (dW 270 3<|bj a.pre n (.au c 13) a.steps u fs)) 273:=by have ht:top=549755813888:=rfl;exact DE mc H (DF a n c u fs (.agg [(u8<|.ofNat 1),i0,i0]) (Lf to op nn N L aT n2 N2 L2 bd el) 6<|.en<|.rt 2<|.en<|.st 1<|.rg<|.go 6<|.il<|.st 3<|.rg<|.go 1<|.cg (i6 wi) (vG 276) (vQ 276<|Lg a n u fs)<|.go 1<|.en<|.st 1<|.rg<|.go 5<|.ix<|.ld [(.ab (nm (fb.map aM).flatten) 0 fb.length),(i6 fa),(i6 ft),(.bool fo),(i6 y0),(i6 y1),(i6 y2),(i6 y3),(i6 y4),(i6 y5),(i6 y6),(i6 y7),(.ab (nm (ol.map aM).flatten) 0 ol.length)]<|.go 2<|.en<|.st 1<|.rg<|.go 6<|.so<|.go 3<|.en<|.st 1<|.rg<|.go 4<|.kt i0 ub<|.en<|.st 2<|.rg<|.go 4<|.il<|.st 3<|.rg<|.go 15<|.s3<|.go 2<|.an (((((fs.take n).set ((((0+n):Nat):Int) - 1).toNat<|mL fs n)).map aS).flatten) (Qq ol) ((((((fs.take n).set ((((0+n):Nat):Int) - 1).toNat<|mL fs n).take (((wi).toNat:Nat):Int).toNat++[(⟨ol,0,0,false,[0,0,0,0,0,0,0,0],none⟩:Fr)])).map aS).flatten)<|.go 3<|.en<|.rg<|.go 1<|.cg (.tuple []) (vF 281<|bj A1.pre m1 (.au c1 13) A1.steps u1 bL) (vQ 281<|Lc a y0 y1 y2 y3 y4 y5 y6 y7 wi ub fs n ol)<|.en<|.rt 1<|.en<|.rt 1<|.en<|.st 1<|.rg<|.go 1<|.cg (.tuple []) (vF 281<|bj A2.pre m2 (.au c2 13) A2.steps u2 bD) (vQ 281<|bj A1.pre m1 (.au c1 13) A1.steps u1 bL)<|.en<|.st 2<|(DD 2 A2 m2 (.au c2 13) u2 bD 281 282))<|Bq LM 15 272 (vR lX) [] (bj a.pre n (.au c 13) a.steps u fs) (.agg [(u8<|.ofNat 1),i0,i0]) k0 k1<|kS LM 27 272 (vR jC) [] (bj a.pre n (.au c 13) a.steps u fs) (Lf to op nn N L aT n2 N2 L2 bd el) k0 k3 cQ k2<|ai (wI<|a.steps+1)<|DC (fs:=fs) (n:=n) ae nU nU<|DG h1 hn hf ay<|Bq LM 29 276 (vR sc) [] (Lg a n u fs) (i6 wi) k4 k5<|gq wi (((0+n):Nat):Int)<|ai (ur jO nU k6 0 13 rfl)<|ai (show(0:Int)=0 from rfl)<|ai (show 0<=wi from ae)<|ai (show wi<=Int.ofNat (jR (0+n)<|.au (0+n) 13) from(show wi<=(((0+n):Nat):Int) from by omega))<|ai k7<|ai (show 0<=(((wi).toNat:Nat):Int) from ae)<|ai (show(((wi).toNat:Nat):Int)<=(((wi).toNat:Nat):Int) from ae)<|ai (show(((wi).toNat:Nat):Int)<=Int.ofNat (jR ((wi).toNat)<|.au (0+n) 13) from(show(((wi).toNat:Nat):Int)<=(((0+n):Nat):Int) from by omega))<|Nl (fs:=((fs.take n).set ((((0+n):Nat):Int) - 1).toNat<|mL fs n)) (n:=(((wi).toNat:Nat):Int).toNat) (f:=(⟨ol,0,0,false,[0,0,0,0,0,0,0,0],none⟩:Fr)) (cs:=(Qq ol)) (show aS (⟨ol,0,0,false,[0,0,0,0,0,0,0,0],none⟩:Fr)=(Qq ol) from rfl) ae nU nU<|xL LM 40 281 (eJ fK) [] (Lc a y0 y1 y2 y3 y4 y5 y6 y7 wi ub fs n ol) (bj A1.pre m1 (.au c1 13) A1.steps u1 bL) k8 k9 tz<|xL LM 40 281 (eJ fK) [] (bj A1.pre m1 (.au c1 13) A1.steps u1 bL) (bj A2.pre m2 (.au c2 13) A2.steps u2 bD) tz zm k12<|FX 16 2 38 (dh 16 [1,1,1,1,1,1,1,1,1]) A2 m2 (.au c2 13) u2 bD 281 282 hlen pB
end Zj
namespace Zk
open cj fq cY gJ jc jd cO jV hZ lk pE qw
abbrev yC(a:MN)(to xx:Int)(n:Nat)(u:AV)(fs:List Fr):VS:=bj ((a.pre:List AV).set (2+to.toNat)<|i6 xx) (0+n) (.au (0+n) 13) (a.steps+1) u<|(fs.take n).set ((((0+n):Nat):Int) - 1).toNat ({(aD (fs.take n)<|(((0+n):Nat):Int) - 1) with aw:=((aD (fs.take n)<|(((0+n):Nat):Int) - 1).aw+1),turns:=(aD (fs.take n)<|(((0+n):Nat):Int) - 1).turns}:Fr)
abbrev Lh(to op nn:Int)(N L:Nat)(aT n2:Int)(N2 L2:Nat)(bd el:List St):AV:=.tuple [(.agg [(u8<|.ofNat 2),(i6 to),(u8<|op),(i6 nn),(.ab N 0 L),(u8<|aT),(i6 n2),(.ab N2 0 L2),(.ab (nm (bd.map aM).flatten) 0 bd.length),(.ab (nm (el.map aM).flatten) 0 el.length)]),(.bool true)]
theorem ajN{B:aE}{a:MN}{n c:Nat}{u:AV}{fs:List Fr}{A1:MN}{m1 c1:Nat}{u1:AV}{bL:List Fr}{N L N2 L2:Nat}{to op nn aT n2 z wi:Int}{bd el:List St}{xx:Int}(mc:Mt LM B)(h1:1<=n)(hn:n<=fs.length)(hc:n<=c)(hf:fs.length<=1000000)(hR:fs.length*13<=top)(ay:zc fs n)(dq:0<=a.steps/\a.steps<=1000000000000)(hlen:bL.length<=1000000)(pB:(AV.ab A1.G A1.q A1.lg).cN=true)(h0:0<=to)(h8:to<8)(k0:bT 10 (bj a.pre n (.au c 13) a.steps u fs)=true)(k1:vR lX (bj a.pre n (.au c 13) a.steps u fs) []=some (.agg [(u8<|.ofNat 2),(i6 wi),i0]))(k2:((Lh to op nn N L aT n2 N2 L2 bd el):AV).hi=true)(k3:vR jC (bj a.pre n (.au c 13) a.steps u fs) []=some (Lh to op nn N L aT n2 N2 L2 bd el))(k4:bT 10 (yC a to xx n u fs)=true)(k5:eJ fK (yC a to xx n u fs) []=some (.tuple [],(bj A1.pre m1 (.au c1 13) A1.steps u1 bL)))(k6:bT 10 (bj A1.pre m1 (.au c1 13) A1.steps u1 bL)=true)(H:nF B (aC Tryd.f41) (bj A1.pre m1 (.au c1 13) A1.steps u1 bL) (ma 41 4 38<|dh 41 [1,1,1,1,1,1,1,1])<|pS A1 m1 (.au c1 13) u1 bL):nF B (aC Tryd.f41) (bj A1.pre m1 (.au c1 13) A1.steps u1 bL) (sF 41 Tryd.f41 [(.ptr<|some (270,0)),(i6 xx)])<|aj (aq++bf (dW 270 3<|bj a.pre n (.au c 13) a.steps u fs)) 273:=by have ht:top=549755813888:=rfl;exact DE mc H (DF a n c u fs (.agg [(u8<|.ofNat 2),(i6 wi),i0]) (Lh to op nn N L aT n2 N2 L2 bd el) 4<|.en<|.rt 2<|.en<|.st 1<|.rg<|.go 6<|.tw<|.oU (az ny<|((a.row (.ptr<|some (271,0)) (.slice (some (275,0)) ((0+n))<|.au (0+n) 13)<|i6<|(a.steps+1)):List AV).set (2+to.toNat)<|i6 xx)<|.en<|.st 1<|.rg<|.go 1<|.cg (.tuple []) (LL 270 dk dK 3 270 271 275<|bj A1.pre m1 (.au c1 13) A1.steps u1 bL) (HC 270 dk dK 3 270 271 275<|yC a to xx n u fs)<|.en<|.st 2<|(DD 4 A1 m1 (.au c1 13) u1 bL 275 276))<|Bq LM 15 272 (vR lX) [] (bj a.pre n (.au c 13) a.steps u fs) (.agg [(u8<|.ofNat 2),(i6 wi),i0]) k0 k1<|kS LM 27 272 (vR jC) [] (bj a.pre n (.au c 13) a.steps u fs) (Lh to op nn N L aT n2 N2 L2 bd el) k0 k3 cQ k2<|ai (wI<|a.steps+1)<|DC (fs:=fs) (n:=n) ae nU nU<|DG h1 hn hf ay<|gq to (Int.ofNat 8)<|ai (am0 (c':=(i6 xx)) (show((a.row (.ptr<|some (271,0)) (.slice (some (275,0)) ((0+n))<|.au (0+n) 13)<|i6<|(a.steps+1)):List AV).length<=top from aI.1 aV) (WG (a.row (.ptr<|some (271,0)) (.slice (some (275,0)) ((0+n))<|.au (0+n) 13)<|i6<|(a.steps+1)) (k:=2+to.toNat) ae) rfl)<|ai (PQ (P:=pg) (F:=FU) (sp:=sp LM) (g:=40) (U:=270) (h0:=dk) (ns:=dK) (rest:=[]) (n:=5) (kp:=10) (k:=3) (val:=eJ fK) (a:=270) (r1:=271) (r2:=275) (st:=(yC a to xx n u fs)) (br:=(bj A1.pre m1 (.au c1 13) A1.steps u1 bL)) (y:=.tuple []) cQ cQ cQ cQ (by simp only[T2];rfl) k4 k5 cQ k6)<|ai (show true=true/\true=true/\(some (az ny<|((a.row (.ptr<|some (271,0)) (.slice (some (275,0)) ((0+n))<|.au (0+n) 13)<|i6<|(a.steps+1)):List AV).set (2+to.toNat)<|i6 xx):Option ah)=some (bt<|eB ((yC a to xx n u fs)).R 271 275)/\(some (.tok 3 ((yC a to xx n u fs)).u):Option ah)=some (.tok 3 ((yC a to xx n u fs)).u)/\some (bt ((yC a to xx n u fs)).row)=some (bt ((yC a to xx n u fs)).row) from⟨rfl,rfl,congrArg some<|WH (pre:=a.pre) (post:=[(i6<|(a.steps+1))]) (len:=(0+n)) (i:=(2+to.toNat)) (r1:=271) (r2:=275) (cap:=(.au (0+n) 13)) (c:=(i6 xx)) (by show(2+to.toNat)<10;omega),rfl,rfl⟩)<|FX 41 4 38 (dh 41 [1,1,1,1,1,1,1,1]) A1 m1 (.au c1 13) u1 bL 275 276 hlen pB
end Zk
namespace lY
open fq cC iD ia cO jV kM lk gi iU
variable {fs:List Fr} {f:Fr}
def iH:Nat->List Fr->bp->Option (List Fr×bp)
 |0,_,_=>none
 |_+1,[],b=>some ([],b)
 |k+1,f::r,b=>
  if f.aw<(f.block.length:Int) then some (f::r,b)
  else if 0<f.turns then if 0<(f.block.length:Int) then some ({f with aw:=0,turns:=f.turns - 1}::r,b) else iH k ({f with aw:=0,turns:=f.turns - 1}::r) b
  else if f.cq=true then(if 2<=b.length then iH k r (gA b) else none)
  else iH k r b
def below:List Fr->Option (Fr×List Fr)
 |[]=>none
 |f::r=>if f.cq=true then some (f,r) else below r
theorem O9{n:Nat}{r:List Fr}(hn:n<=fs.length)(h:(fs.take n).reverse=f::r):∃m,n=m+1/\m<fs.length/\fs[m]? =some f/\(fs.take m).reverse=r:=by
 cases n with
 |zero=>simp at h
 |succ m=>
  have hm:m<fs.length:=by omega
  rw[VW,TE hm] at h;simp only[Option.toList,Ww,Wx,VB,UB,Vf,TQ] at h;exact⟨m,rfl,hm,by rw[TE hm,h.1],h.2⟩
theorem aeO{m:Nat}(h:fs[m]? =some f):(fs.take<|m+1).reverse=f::(fs.take m).reverse:=by rw[VW,h];simp only[Option.toList,Ww,Wx,VB,UB,Vf]
theorem Pa{m:Nat}(h:fs[m]? =some f):aD fs (m:Int)=f:=by unfold aD;rw[T9,show((m:Int)).toNat=m by omega,h];rfl
theorem ane{m:Nat}(h:fs[m]? =some f):aD fs (((m+1:Nat):Int) - 1)=f:=by rw[show(((m+1:Nat):Int) - 1)=(m:Int) by omega];exact Pa h
theorem take_set{m:Nat}(g:Fr)(hm:m<fs.length):((fs.set m g).take<|m+1).reverse=g::(fs.take m).reverse:=by rw[aeO (f:=g)<|by rw[List.getElem?_set_self hm]];congr 2;rw[List.take_set_of_le<|Tz m]
theorem JD:∀(k n:Nat) (fs:List Fr) (b:bp) (st br:List Fr) (b':bp),iH k st b=some (br,b')->n<=fs.length->(fs.take n).reverse=st->∃n' di,pb k n fs b=some (n',di,b')/\n'<=n/\di.length=fs.length/\(di.take n').reverse=br
 |0,_,_,_,_,_,_,h,_,_=>by cases h
 |k+1,n,fs,b,st,br,b',h,hn,e=>by
  cases st with
  |nil=>
   have n0:n=0:=by have:=congrArg List.length e;rw[Vr,T4] at this;simp only[Ub] at this;omega
   unfold iH at h;injection h with h;injection h with h1 h2
   subst h1;subst h2;exact⟨n,fs,by unfold pb;rw[if_pos n0],Tz _,rfl,e⟩
  |cons f r=>
   obtain⟨m,rfl,hm,hf,hr⟩:=O9 hn e;have ef:=ane hf;have em:(((m+1:Nat):Int) - 1).toNat=m:=by omega
   unfold iH at h;unfold pb;rw[if_neg ae];simp only[ef,em];by_cases c1:f.aw<(f.block.length:Int)
   ·rw[if_pos c1] at h ⊢;injection h with h;injection h with h1 h2
    subst h1;subst h2;exact⟨m+1,fs,rfl,Tz _,rfl,e⟩
   ·rw[if_neg c1] at h ⊢;by_cases c2:0<f.turns
    ·rw[if_pos c2] at h ⊢;have e2:=take_set {f with aw:=0,turns:=f.turns - 1} hm;rw[hr] at e2;by_cases c3:0<(f.block.length:Int)
     ·rw[if_pos c3] at h ⊢;injection h with h;injection h with h1 h2
      subst h1;subst h2;exact⟨m+1,_,rfl,Tz _,T2,e2⟩
     ·rw[if_neg c3] at h ⊢;obtain⟨n',di,a1,a2,a3,a4⟩:=JD k (m+1) _ b _ _ _ h (by rw[T2];exact hn) e2;exact⟨n',di,a1,a2,a3.trans T2,a4⟩
    ·rw[if_neg c2] at h ⊢;by_cases c4:f.cq=true
     ·rw[if_pos c4] at h ⊢;by_cases c5:2<=b.length
      ·rw[if_pos c5] at h ⊢;obtain⟨n',di,a1,a2,a3,a4⟩:=JD k m fs _ _ _ _ h ae hr;exact⟨n',di,a1,by omega,a3,a4⟩
      ·rw[if_neg c5] at h;cases h
     ·rw[if_neg c4] at h ⊢;obtain⟨n',di,a1,a2,a3,a4⟩:=JD k m fs _ _ _ _ h ae hr;exact⟨n',di,a1,by omega,a3,a4⟩
theorem Pb:∀(n:Nat) (fs:List Fr) (st:List Fr),n<=fs.length->(fs.take n).reverse=st->(below st=none->lf fs n= -1)/\(∀g r,below st=some (g,r)->∃i:Nat,lf fs n=(i:Int)/\i<n/\fs[i]? =some g/\(fs.take i).reverse=r)
 |0,fs,st,hn,e=>by rw[Vp] at e;subst e;exact⟨fun _=>rfl,fun g r h=>by cases h⟩
 |n+1,fs,st,hn,e=>by
  cases st with
  |nil=>have:=congrArg List.length e;rw[Vr,T4] at this;simp only[Ub] at this;omega
  |cons f r=>
   obtain⟨m,Ds,hm,hf,hr⟩:=O9 hn e;have Ds:n=m:=by omega
   subst Ds;have ef:=Pa hf;obtain⟨h1,h2⟩:=Pb n fs r ae hr;unfold below lf;rw[ef];by_cases c:f.cq=true
   ·rw[if_pos c,if_pos c];refine⟨fun h=>(by cases h),fun g r' h=>?_⟩;injection h with h;injection h with e1 e2
    subst e1;subst e2;exact⟨n,rfl,by omega,hf,hr⟩
   ·rw[if_neg c,if_neg c];refine⟨h1,fun g r' h=>?_⟩;obtain⟨i,a1,a2,a3,a4⟩:=h2 g r' h;exact⟨i,a1,by omega,a3,a4⟩
theorem DV:∀(k:Nat) (st:List Fr) (b:bp) (br:List Fr) (b':bp),iH k st b=some (br,b')->br=[]\/∃f r,br=f::r/\f.aw<(f.block.length:Int)
 |0,_,_,_,_,h=>by cases h
 |k+1,[],b,br,b',h=>by
  unfold iH at h;injection h with h;injection h with h1 h2
  exact .inl h1.symm
 |k+1,f::r,b,br,b',h=>by
  unfold iH at h;by_cases c1:f.aw<(f.block.length:Int)
  ·rw[if_pos c1] at h;injection h with h;injection h with h1 h2
   exact .inr ⟨f,r,h1.symm,c1⟩
  ·rw[if_neg c1] at h;by_cases c2:0<f.turns
   ·rw[if_pos c2] at h;by_cases c3:0<(f.block.length:Int)
    ·rw[if_pos c3] at h;injection h with h;injection h with h1 h2
     exact .inr ⟨_,r,h1.symm,c3⟩
    ·rw[if_neg c3] at h;exact DV k _ b _ _ h
   ·rw[if_neg c2] at h;by_cases c4:f.cq=true
    ·rw[if_pos c4] at h;by_cases c5:2<=b.length
     ·rw[if_pos c5] at h;exact DV k _ _ _ _ h
     ·rw[if_neg c5] at h;cases h
    ·rw[if_neg c4] at h;exact DV k _ _ _ _ h
theorem abw{k:Nat}{st:List Fr}{b:bp}{br:List Fr}{b':bp}(h:iH k st b=some (br,b')):iH 1 br b'=some (br,b'):=by
 rcases DV k st b br b' h with rfl|⟨f,r,rfl,hf⟩
 ·rfl
 ·unfold iH;rw[if_pos hf]
def fP(a:dX)(e:Ex):Int:=(Ap e a.l a.aN).1
def Z8:List Int:=[0,0,0,0,0,0,0,0]
def lv(z:Int):Int:=eM (cU z 0) 8
def fin(a:dX)(st:List Fr)(b:bp):Option dX:=match iH 1000 st b with
 |some p=>some {a with fs:=p.1.reverse,b:=p.2}
 |none=>none
def sw(a:dX):Option dX:=match a.fs.reverse with
 |[]=>none
 |f::r=>match f.block[f.aw.toNat]? with
  |none=>none
  |some (.mk kind to ea eb bd el)=>
   if kind=1 then fin {a with l:=a.l.set to.toNat<|fP a ea,steps:=a.steps+1} ({f with aw:=f.aw+1}::r) a.b
   else if kind=2 then fin {a with l:=a.l.set to.toNat (lD a.b<|jq (fP a ea) a.vars).1,steps:=a.steps+1} ({f with aw:=f.aw+1}::r) a.b
   else if kind=3 then fin {a with steps:=a.steps+1} ({f with aw:=f.aw+1}::r) (lA a.b (jq (fP a ea) a.vars)<|fP a eb)
   else if kind=4 then fin {a with steps:=a.steps+1} (⟨if fP a ea≠0 then bd else el,0,0,false,Z8,none⟩::{f with aw:=f.aw+1}::r) a.b
   else if kind=5 then(if 0<lv (fP a ea) then fin {a with steps:=a.steps+1} (⟨bd,0,lv (fP a ea) - 1,false,Z8,none⟩::{f with aw:=f.aw+1}::r) a.b else fin {a with steps:=a.steps+1} ({f with aw:=f.aw+1}::r) a.b)
   else if kind=6 then(match below (f::r) with
    |some (⟨_,_,_,_,kept,some ol⟩,r')=>fin {a with l:=kept,steps:=a.steps+1} (⟨ol,0,0,false,Z8,none⟩::r') a.b.dropLast
    |_=>none)
   else if kind=7 then fin {a with steps:=a.steps+1} (⟨bd,0,0,true,a.l,some el⟩::{f with aw:=f.aw+1}::r) (a.b++[[]])
   else none
def pc(a:dX)(x:Int):Option dX:=match a.fs.reverse with
 |[]=>none
 |f::r=>match f.block[f.aw.toNat]? with
  |none=>none
  |some (.mk _ to _ _ _ _)=>fin {a with l:=a.l.set to.toNat x,steps:=a.steps+1} ({f with aw:=f.aw+1}::r) a.b
def fm(a:dX):Int×Int×Int:=match a.fs.reverse with
 |[]=>(3,0,0)
 |f::r=>match f.block[f.aw.toNat]? with
  |none=>(0,0,0)
  |some (.mk kind _ ea _ _ _)=>if kind=8 then(3,0,fP a ea) else if kind=6/\below (f::r)=none then(4,0,0) else if kind=2/\(lD a.b<|jq (fP a ea) a.vars).2=false then(2,jq (fP a ea) a.vars,0) else(1,0,0)
end lY
namespace xe
open cj fq cC cY ia gJ jd cO jV kM hZ lk qw lY Zh Q8 YC YD Zi Zj Zk
variable {fs bL bD:List Fr} {c m2:Nat} {b b1 b2:bp} {a A1 A2:MN} {B:aE} {wi:Int}
def ku(fs:List Fr)(n:Nat):List Fr:=(fs.take n).set ((((0+n):Nat):Int) - 1).toNat ({(aD (fs.take n)<|(((0+n):Nat):Int) - 1) with aw:=((aD (fs.take n)<|(((0+n):Nat):Int) - 1).aw+1),turns:=(aD (fs.take n)<|(((0+n):Nat):Int) - 1).turns}:Fr)
abbrev uB(fs:List Fr)(k:Nat)(f:Fr):List Fr:=fs.take k++[f]
abbrev rS(k to op nn:Int)(la:List Ex)(aT n2:Int)(lb:List Ex)(bd el:List St):List AV:=[.int .u8 k,.int .i64 to,.int .u8 op,.int .i64 nn,.ab (nm<|dC la) 0 la.length,.int .u8 aT,.int .i64 n2,.ab (nm<|dC lb) 0 lb.length,.ab (nm (bd.map aM).flatten) 0 bd.length,.ab (nm (el.map aM).flatten) 0 el.length]
section
variable {k to op nn aT n2:Int} {la lb:List Ex} {bd el:List St}
theorem lq:aM (St.mk k to (.mk op nn la) (.mk aT n2 lb) bd el)=(rS k to op nn la aT n2 lb bd el):=by rw[amZ,aH,aH];rfl
theorem CW{a':MN}{n n' c':Nat}{di:List Fr}{b':bp}{q:Int×Int×Int}(m0:eO a n c fs b)(h6:n<=6)(b6:b.length<=6)(hs:su fs n<|some<|St.mk k to (.mk op nn la) (.mk aT n2 lb) bd el)(kE:xd a (lf fs n) b (some<|St.mk k to (.mk op nn la) (.mk aT n2 lb) bd el)=q)(mp:eO a' n' c' di b'):
 vR lX (dB a n c fs b) []=some (AO q)/\vR jC (dB a n c fs b) []=some (.tuple [.agg<|rS k to op nn la aT n2 lb bd el,.bool true])/\vR jY (dB a' n' c' di b') [.agg [.int .u8 op,.int .i64 nn,.ab (nm<|dC la) 0 la.length]]=some (i6<|fO a'<|.mk op nn la)/\([.agg [.int .u8 op,.int .i64 nn,.ab (nm<|dC la) 0 la.length]]:List AV).all AV.hi=true/\(AV.tuple [.agg<|rS k to op nn la aT n2 lb bd el,.bool true]:AV).hi=true/\([.agg<|rS k to op nn la aT n2 lb bd el]:List AV).all AV.hi=true:=by
 have hN:=W6 m0 hs;have hK:=ahZ m0 h6 b6 hs;rw[kE] at hK;have hv:=K7 mp<|.mk op nn la;have hA:=EG<|.mk op nn la;have hH:=Yq<|St.mk k to (.mk op nn la) (.mk aT n2 lb) bd el;unfold E9 at hN;simp only[lq] at hN hH;simp only[aH] at hv hA;exact⟨hK,hN,hv,hA,by show([_,AV.bool true].all AV.tu)=true;rw[TS,show(AV.agg _).tu=true from hH];rfl,by rw[TS,hH];rfl⟩
end
structure JH (a:MN) (n c:Nat) (fs:List Fr) (b:bp) (k to op nn:Int) (la:List Ex) (aT n2:Int) (lb:List Ex) (bd el:List St) (q:Int×Int×Int):Prop where
 m0:eO a n c fs b
 h1:1<=n
 h6:n<=6
 b6:b.length<=6
 hs:su fs n<|some<|St.mk k to (.mk op nn la) (.mk aT n2 lb) bd el
 kE:xd a (lf fs n) b (some<|St.mk k to (.mk op nn la) (.mk aT n2 lb) bd el)=q
 ay:zc fs n
 dq:0<=a.steps/\a.steps<=1000000000000
 mp:eO {a with steps:=a.steps+1} (0+n) (0+n) (ku fs n) b
abbrev Ck(a:MN)(n c:Nat)(fs:List Fr)(b:bp):AS:=aj (aq++bf (dW 270 3<|dB a n c fs b)) 273
theorem j1{ka:Int}{kb:VS->List AV->AV×VS->Prop}{kc:Nat}(hk:(ka=1/\kb=AM/\kc=32)\/(ka=2/\kb=Au/\kc=33)\/(ka=3/\kb=Ag/\kc=34)){n n1 c1 c2:Nat}{to op nn aT n2:Int}{la lb:List Ex}{bd el:List St}(mc:Mt LM B)(J:JH a n c fs b ka to op nn la aT n2 lb bd el (1,0,0))(m1:eO A1 n1 c1 bL b1)(nE:eO A2 m2 c2 bD b2)(hX:eJ kb (dB {a with steps:=a.steps+1} (0+n) (0+n) (ku fs n) b) [.agg<|aM<|St.mk ka to (.mk op nn la) (.mk aT n2 lb) bd el]=some (.tuple [],(dB A1 n1 c1 bL b1)))(rJ:eJ fK (dB A1 n1 c1 bL b1) []=some (.tuple [],(dB A2 m2 c2 bD b2))):av pg B 271 (iE 270 3 pg (aC Tryd.f16) (.int .i64 0)<|dB A2 m2 c2 bD b2) (sF 16 Tryd.f16 [(.ptr<|some (270,0))])<|Ck a n c fs b:=by
 obtain⟨m0,h1,h6,b6,hs,kE,ay,dq,mp⟩:=J;obtain⟨hK,hN,hv,hA,hB,tD⟩:=CW m0 h6 b6 hs kE mp;rw[lq] at hX;exact step1 hk (a:=a) (n:=n) (c:=c) (u:=bZ b) (fs:=fs) (A1:=A1) (m1:=n1) (c1:=c1) (u1:=bZ b1) (bL:=bL) (A2:=A2) (m2:=m2) (c2:=c2) (u2:=bZ b2) (bD:=bD) (N:=nm<|dC la) (L:=la.length) (N2:=nm<|dC lb) (L2:=lb.length) (to:=to) (op:=op) (nn:=nn) (aT:=aT) (n2:=n2) (bd:=bd) (el:=el) (z:=(fO a<|.mk op nn la)) (wi:=0) (t:=0) (ol:=[]) (fb:=[]) (fa:=0) (ft:=0) (fo:=false) (ub:=.tuple []) (y0:=0) (y1:=0) (y2:=0) (y3:=0) (y4:=0) (y5:=0) (y6:=0) (y7:=0) mc h1 m0.nX m0.rP m0.len CN ay dq nE.len nE.aN.cN
  xz
  xz
  xz
  xz
  xz
  xz
  xz
  xz
  xz
  xz
  (Fa mc)
theorem j4{n n1 c1 c2:Nat}{to op nn aT n2:Int}{la lb:List Ex}{bd el X:List St}{tk:Bool}(mc:Mt LM B)(J:JH a n c fs b 4 to op nn la aT n2 lb bd el (1,0,0))(m1:eO A1 n1 c1 bL b1)(nE:eO A2 m2 c2 bD b2)(mE:eO {a with steps:=a.steps+1} (0+n+1) (0+n+1) (uB (ku fs n) (0+n) ⟨X,0,0,false,Z8,none⟩) b)(hE:eJ fK (dB {a with steps:=a.steps+1} (0+n+1) (0+n+1) (uB (ku fs n) (0+n) ⟨X,0,0,false,Z8,none⟩) b) []=some (.tuple [],(dB A1 n1 c1 bL b1)))(rJ:eJ fK (dB A1 n1 c1 bL b1) []=some (.tuple [],(dB A2 m2 c2 bD b2)))(hz:zB tk<|fO a<|.mk op nn la)(hX:X=xB tk bd el):av pg B 271 (iE 270 3 pg (aC Tryd.f16) (.int .i64 0)<|dB A2 m2 c2 bD b2) (sF 16 Tryd.f16 [(.ptr<|some (270,0))])<|Ck a n c fs b:=by
 obtain⟨m0,h1,h6,b6,hs,kE,ay,dq,mp⟩:=J;obtain⟨hK,hN,hv,hA,hB,tD⟩:=CW m0 h6 b6 hs kE mp;exact ah0 (a:=a) (n:=n) (c:=c) (u:=bZ b) (fs:=fs) (A1:=A1) (m1:=n1) (c1:=c1) (u1:=bZ b1) (bL:=bL) (A2:=A2) (m2:=m2) (c2:=c2) (u2:=bZ b2) (bD:=bD) (N:=nm<|dC la) (L:=la.length) (N2:=nm<|dC lb) (L2:=lb.length) (to:=to) (op:=op) (nn:=nn) (aT:=aT) (n2:=n2) (bd:=bd) (el:=el) (tk:=tk) (X:=X) (z:=(fO a<|.mk op nn la)) mc h1 m0.nX m0.rP m0.len CN ay dq nE.len nE.aN.cN hz hX
  kU
  kU
  kU
  kU
  kU
  kU
  kU
  kU
  kU
  kU
  kU
  kU
  (Fa mc)
theorem j5t{n n1 c1 c2:Nat}{to op nn aT n2:Int}{la lb:List Ex}{bd el:List St}(mc:Mt LM B)(J:JH a n c fs b 5 to op nn la aT n2 lb bd el (1,0,0))(m1:eO A1 n1 c1 bL b1)(nE:eO A2 m2 c2 bD b2)(mE:eO {a with steps:=a.steps+1} (0+n+1) (0+n+1) (uB (ku fs n) (0+n) ⟨bd,0,(lv<|fO a<|.mk op nn la) - 1,false,Z8,none⟩) b)(hE:eJ fK (dB {a with steps:=a.steps+1} (0+n+1) (0+n+1) (uB (ku fs n) (0+n) ⟨bd,0,(lv<|fO a<|.mk op nn la) - 1,false,Z8,none⟩) b) []=some (.tuple [],(dB A1 n1 c1 bL b1)))(rJ:eJ fK (dB A1 n1 c1 bL b1) []=some (.tuple [],(dB A2 m2 c2 bD b2)))(hz:0<lv (fO a<|.mk op nn la)/\lv (fO a<|.mk op nn la)<=8):av pg B 271 (iE 270 3 pg (aC Tryd.f16) (.int .i64 0)<|dB A2 m2 c2 bD b2) (sF 16 Tryd.f16 [(.ptr<|some (270,0))])<|Ck a n c fs b:=by
 obtain⟨m0,h1,h6,b6,hs,kE,ay,dq,mp⟩:=J;obtain⟨hK,hN,hv,hA,hB,tD⟩:=CW m0 h6 b6 hs kE mp;exact ah1 (a:=a) (n:=n) (c:=c) (u:=bZ b) (fs:=fs) (A1:=A1) (m1:=n1) (c1:=c1) (u1:=bZ b1) (bL:=bL) (A2:=A2) (m2:=m2) (c2:=c2) (u2:=bZ b2) (bD:=bD) (N:=nm<|dC la) (L:=la.length) (N2:=nm<|dC lb) (L2:=lb.length) (to:=to) (op:=op) (nn:=nn) (aT:=aT) (n2:=n2) (bd:=bd) (el:=el) (z:=(fO a<|.mk op nn la)) mc h1 m0.nX m0.rP m0.len CN ay dq nE.len nE.aN.cN hz
  kU
  kU
  kU
  kU
  kU
  kU
  kU
  kU
  kU
  kU
  kU
  kU
  (Fa mc)
theorem j5o{n n1 c1:Nat}{to op nn aT n2:Int}{la lb:List Ex}{bd el:List St}(mc:Mt LM B)(J:JH a n c fs b 5 to op nn la aT n2 lb bd el (1,0,0))(m1:eO A1 n1 c1 bL b1)(jF:lv (fO a<|.mk op nn la)<=0)(rJ:eJ fK (dB {a with steps:=a.steps+1} (0+n) (0+n) (ku fs n) b) []=some (.tuple [],(dB A1 n1 c1 bL b1))):av pg B 271 (iE 270 3 pg (aC Tryd.f16) (.int .i64 0)<|dB A1 n1 c1 bL b1) (sF 16 Tryd.f16 [(.ptr<|some (270,0))])<|Ck a n c fs b:=by
 obtain⟨m0,h1,h6,b6,hs,kE,ay,dq,mp⟩:=J;obtain⟨hK,hN,hv,hA,hB,tD⟩:=CW m0 h6 b6 hs kE mp;exact ah2 (a:=a) (n:=n) (c:=c) (u:=bZ b) (fs:=fs) (A1:=A1) (m1:=n1) (c1:=c1) (u1:=bZ b1) (bL:=bL) (N:=nm<|dC la) (L:=la.length) (N2:=nm<|dC lb) (L2:=lb.length) (to:=to) (op:=op) (nn:=nn) (aT:=aT) (n2:=n2) (bd:=bd) (el:=el) (z:=(fO a<|.mk op nn la)) mc h1 m0.nX m0.rP m0.len CN ay dq m1.len m1.aN.cN jF
  zr
  zr
  zr
  zr
  zr
  zr
  zr
  zr
  zr
  (Fa mc)
theorem j7{n n1 c1 c2:Nat}{to op nn aT n2:Int}{la lb:List Ex}{bd el:List St}(mc:Mt LM B)(J:JH a n c fs b 7 to op nn la aT n2 lb bd el (1,0,0))(m1:eO A1 n1 c1 bL b1)(nE:eO A2 m2 c2 bD b2)(mE:eO {a with steps:=a.steps+1} (0+n+1) (0+n+1) (uB (ku fs n) (0+n) ⟨bd,0,0,true,a.l,some el⟩)<|b++[[]])(hE:eJ fK (dB {a with steps:=a.steps+1} (0+n+1) (0+n+1) (uB (ku fs n) (0+n) ⟨bd,0,0,true,a.l,some el⟩)<|b++[[]]) []=some (.tuple [],(dB A1 n1 c1 bL b1)))(rJ:eJ fK (dB A1 n1 c1 bL b1) []=some (.tuple [],(dB A2 m2 c2 bD b2)))(hb6:b.length<7):av pg B 271 (iE 270 3 pg (aC Tryd.f16) (.int .i64 0)<|dB A2 m2 c2 bD b2) (sF 16 Tryd.f16 [(.ptr<|some (270,0))])<|Ck a n c fs b:=by
 obtain⟨m0,h1,h6,b6,hs,kE,ay,dq,mp⟩:=J;obtain⟨hK,hN,hv,hA,hB,tD⟩:=CW m0 h6 b6 hs kE mp;have hD:iZ (ir bZ K2) (bZ b) []=some ((.int .i64 0:AV),bZ<|b++[[]]):=by
  unfold iZ;rw[B1 ua];show(match ([]:List AV).all AV.hi with
   |true=>((if List.length b<7 then some ((AV.int .i64 0:AV),b++[[]]) else none).map (fun p:AV×bp=>((p.1,bZ p.2):AV×AV))).bind fun p:AV×AV=>match p.1.hi with
    |true=>some p
    |false=>none
   |false=>none)=_
  rw[if_pos hb6];rfl
 exact ajL (a:=a) (n:=n) (c:=c) (u:=bZ b) (fs:=fs) (A1:=A1) (m1:=n1) (c1:=c1) (u1:=bZ b1) (bL:=bL) (A2:=A2) (m2:=m2) (c2:=c2) (u2:=bZ b2) (bD:=bD) (N:=nm<|dC la) (L:=la.length) (N2:=nm<|dC lb) (L2:=lb.length) (to:=to) (op:=op) (nn:=nn) (aT:=aT) (n2:=n2) (bd:=bd) (el:=el) (z:=(fO a<|.mk op nn la)) (ub:=bZ<|b++[[]]) mc h1 m0.nX m0.rP m0.len CN ay dq nE.len nE.aN.cN
  xy
  xy
  xy
  xy
  xy
  xy
  xy
  xy
  xy
  xy
  (Fa mc)
theorem j6{n n1 c1 c2:Nat}{to op nn aT n2 y0 y1 y2 y3 y4 y5 y6 y7 fa ft:Int}{la lb:List Ex}{bd el ol fb:List St}{fo:Bool}(mc:Mt LM B)(J:JH a n c fs b 6 to op nn la aT n2 lb bd el (1,0,0))(m1:eO A1 n1 c1 bL b1)(nE:eO A2 m2 c2 bD b2)(mE:eO {a with steps:=a.steps+1,x0:=y0,x1:=y1,x2:=y2,x3:=y3,x4:=y4,x5:=y5,x6:=y6,x7:=y7} (wi.toNat+1) (wi.toNat+1) (uB (ku fs n) wi.toNat ⟨ol,0,0,false,Z8,none⟩) b.dropLast)(hE:eJ fK (dB {a with steps:=a.steps+1,x0:=y0,x1:=y1,x2:=y2,x3:=y3,x4:=y4,x5:=y5,x6:=y6,x7:=y7} (wi.toNat+1) (wi.toNat+1) (uB (ku fs n) wi.toNat ⟨ol,0,0,false,Z8,none⟩) b.dropLast) []=some (.tuple [],(dB A1 n1 c1 bL b1)))(rJ:eJ fK (dB A1 n1 c1 bL b1) []=some (.tuple [],(dB A2 m2 c2 bD b2)))(hwi:lf (ku fs n) (0+n)=wi)(hz:1<=wi/\wi<(n:Int))(bI:(ku fs n)[wi.toNat]? =some (⟨fb,fa,ft,fo,[y0,y1,y2,y3,y4,y5,y6,y7],some ol⟩:Fr))(Da:2<=b.length):av pg B 271 (iE 270 3 pg (aC Tryd.f16) (.int .i64 0)<|dB A2 m2 c2 bD b2) (sF 16 Tryd.f16 [(.ptr<|some (270,0))])<|Ck a n c fs b:=by
 obtain⟨m0,h1,h6,b6,hs,kE,ay,dq,mp⟩:=J;obtain⟨hK,hN,hv,hA,hB,tD⟩:=CW m0 h6 b6 hs kE mp;have hW:=amw mp ae;rw[hwi] at hW;have hD:iZ (ir bZ K3) (bZ b) []=some ((.int .i64 0:AV),bZ b.dropLast):=by
  unfold iZ;rw[B1 ua];show(match ([]:List AV).all AV.hi with
   |true=>((if 2<=List.length b/\List.length b<=6 then some ((AV.int .i64 0:AV),b.dropLast) else none).map (fun p:AV×bp=>((p.1,bZ p.2):AV×AV))).bind fun p:AV×AV=>match p.1.hi with
    |true=>some p
    |false=>none
   |false=>none)=_
  rw[if_pos ⟨Da,b6⟩];rfl
 exact ajM (a:=a) (n:=n) (c:=c) (u:=bZ b) (fs:=fs) (A1:=A1) (m1:=n1) (c1:=c1) (u1:=bZ b1) (bL:=bL) (A2:=A2) (m2:=m2) (c2:=c2) (u2:=bZ b2) (bD:=bD) (N:=nm<|dC la) (L:=la.length) (N2:=nm<|dC lb) (L2:=lb.length) (to:=to) (op:=op) (nn:=nn) (aT:=aT) (n2:=n2) (bd:=bd) (el:=el) (z:=(fO a<|.mk op nn la)) (wi:=wi) (ol:=ol) (fb:=fb) (fa:=fa) (ft:=ft) (fo:=fo) (ub:=bZ b.dropLast) (y0:=y0) (y1:=y1) (y2:=y2) (y3:=y3) (y4:=y4) (y5:=y5) (y6:=y6) (y7:=y7) mc h1 m0.nX m0.rP m0.len CN ay dq nE.len nE.aN.cN hz
  rK
  rK
  rK
  rK
  rK
  rK
  rK
  rK
  rK
  rK
  rK
  rK
  rK
  (Fa mc)
theorem jA{n n1 c1:Nat}{to op nn aT n2 xx:Int}{la lb:List Ex}{bd el:List St}(mc:Mt LM B)(J:JH a n c fs b 2 to op nn la aT n2 lb bd el (2,wi,0))(m1:eO A1 n1 c1 bL b1)(h0:0<=to)(h8:to<8)(mx:eO (MN.iJ {a with steps:=a.steps+1} to xx) (0+n) (0+n) (ku fs n) b)(rJ:eJ fK (dB (MN.iJ {a with steps:=a.steps+1} to xx) (0+n) (0+n) (ku fs n) b) []=some (.tuple [],(dB A1 n1 c1 bL b1))):av pg B 271 (iE 270 3 pg (aC Tryd.f41) (.int .i64 0)<|dB A1 n1 c1 bL b1) (sF 41 Tryd.f41 [(.ptr<|some (270,0)),(i6 xx)])<|Ck a n c fs b:=by
 obtain⟨m0,h1,h6,b6,hs,kE,ay,dq,mp⟩:=J;obtain⟨hK,hN,hv,hA,hB,tD⟩:=CW m0 h6 b6 hs kE mp;have hx:= @Qo {a with steps:=a.steps+1} (0+n) (0+n) (ku fs n) b to xx h0 h8;unfold jd.wX at hx;rw[←hx] at rJ;have Z2:=mx.bT;rw[←hx] at Z2;exact ajN (a:=a) (n:=n) (c:=c) (u:=bZ b) (fs:=fs) (A1:=A1) (m1:=n1) (c1:=c1) (u1:=bZ b1) (bL:=bL) (N:=nm<|dC la) (L:=la.length) (N2:=nm<|dC lb) (L2:=lb.length) (to:=to) (op:=op) (nn:=nn) (aT:=aT) (n2:=n2) (bd:=bd) (el:=el) (z:=(fO a<|.mk op nn la)) (wi:=wi) (xx:=xx) mc h1 m0.nX m0.rP m0.len CN ay dq m1.len m1.aN.cN h0 h8
  CL
  CL
  CL
  CL
  CL
  CL
  CL
  (ajK mc)
end xe
namespace nA
open cj fq cC cY ia gJ jd cO jV kM hZ lk lY xe
variable {fs br st:List Fr} {b b':bp} {A:MN} {s:AS} {rs:List ResultVar} {k:Nat} {P:Program} {B:aE}
theorem Ms{n m:Nat}{Q Q':Tr AV->List Nat->Option Code->AS->Prop}{fr:AF}(hm:m<=n)(h:∀t d j s,Q t d j s->Q' t d j s)(H:av P B n Q fr s):av P B m Q' fr s:=by intro ρ w b a cs q1 q2 q3;obtain⟨aR,j,s1,σ,a',w',e1,e2,e3,e4⟩:=H ρ w b a cs q1 q2 q3;exact⟨aR,j,s1,σ,a',w',h _ _ _ _ e1,by omega,fun k hk ht=>e3 k ae ht,e4⟩
theorem Zl{R R':AV->AS->Prop}(h:∀y s,R y s->R' y s):∀t d j s,Rn.Fin P rs R t d j s->Rn.Fin P rs R' t d j s:=by intro t d j s q;obtain⟨v,s2,a,b⟩:=q;exact⟨v,s2,a,h _ _ b⟩
def mn(a:dX):MN:=⟨a.vars,nm (a.aN.map Ao).flatten,0,a.aN.length,a.aN,a.l.getD 0 0,a.l.getD 1 0,a.l.getD 2 0,a.l.getD 3 0,a.l.getD 4 0,a.l.getD 5 0,a.l.getD 6 0,a.l.getD 7 0,a.steps⟩
theorem Zm{a:dX}(h:a.l.length=8):(mn a).l=a.l:=(K5 a.l h).symm
theorem LN{a:dX}(h:a.l.length=8)(e:Ex):fO (mn a) e=fP a e:=by unfold fO fP;rw[Zm h];rfl
theorem anf(a:dX)(bB:List Fr)(c:Nat):dW 270 3 (dB (mn a) a.fs.length c (a.fs++bB) a.b)=gZ a bB c:=rfl
structure Good (a:dX):Prop where
 ok:yv a
 oX:iM a.fs
 iQ:a.fs.length<=6
 b6:a.b.length<=6
 steps:0<=a.steps/\a.steps<=1000000000000
 aw:∀f∈a.fs,0<=f.aw/\f.aw<=1000000
theorem iM.app{l m:List Fr}(h:iM l)(k:iM m):iM<|l++m:=fun f hf=>by
 rcases TP.1 hf with q|q
 ·exact h f q
 ·exact k f q
theorem iM.take{l:List Fr}(h:iM l)(n:Nat):iM<|l.take n:=fun f hf=>h f<|List.mem_of_mem_take hf
variable {a:dX} {bB:List Fr} {c:Nat} {f:Fr} {r:List Fr} {m:Nat}
theorem Good.gh(h:Good a)(hj:uv a bB c):eO (mn a) a.fs.length c (a.fs++bB) a.b:=⟨dP.ar M5 a.aN,h.ok.2.1,iM.app h.oX hj.2.2,by rw[TM];omega,hj.1,hj.2.1,h.ok.2.2.2.2⟩
theorem Jn:∀{k n:Nat} {fs:List Fr} {b:bp} {n':Nat} {di:List Fr} {b':bp},pb k n fs b=some (n',di,b')->n<=fs.length->iM fs->dz b->iM di/\dz b'
 |0,_,_,_,_,_,_,h,_,_,_=>by cases h
 |k+1,n,fs,b,n',di,b',h,hn,hf,hb=>by
  unfold pb at h;by_cases n0:n=0
  ·rw[if_pos n0] at h;injection h with h;injection h with e1 h;injection h with e2 e3
   subst e2;subst e3;exact⟨hf,hb⟩
  ·rw[if_neg n0] at h;simp only at h;have ay:=hf.at<|(n:Int) - 1;have hk:=hf.kept (z:=(n:Int) - 1) ae ae;by_cases c1:(aD fs<|(n:Int) - 1).aw<(((aD fs<|(n:Int) - 1).block.length:Nat):Int)
   ·rw[if_pos c1] at h;injection h with h;injection h with e1 h;injection h with e2 e3
    subst e2;subst e3;exact⟨hf,hb⟩
   ·rw[if_neg c1] at h;by_cases c2:0<(aD fs<|(n:Int) - 1).turns
    ·rw[if_pos c2] at h;have hs:iM<|fs.set ((n:Int) - 1).toNat {aD fs ((n:Int) - 1) with aw:=0,turns:=(aD fs<|(n:Int) - 1).turns - 1}:=hf.set ⟨⟨by show 0<=_ - 1;omega,by show _ - 1<=1000000;omega⟩,hk⟩;by_cases c3:0<(((aD fs<|(n:Int) - 1).block.length:Nat):Int)
     ·rw[if_pos c3] at h;injection h with h;injection h with e1 h;injection h with e2 e3
      subst e2;subst e3;exact⟨hs,hb⟩
     ·rw[if_neg c3] at h;exact Jn h (by rw[T2];exact hn) hs hb
    ·rw[if_neg c2] at h;by_cases c4:(aD fs<|(n:Int) - 1).cq=true
     ·rw[if_pos c4] at h;by_cases c5:2<=b.length
      ·rw[if_pos c5] at h;exact Jn h ae hf<|JV hb c5
      ·rw[if_neg c5] at h;cases h
     ·rw[if_neg c4] at h;exact Jn h ae hf hb
structure kz (A:MN) (n c:Nat) (fs:List Fr) (b:bp) (br:List Fr) (b':bp) (n':Nat) (di:List Fr):Prop where
 gh:eO A n' c di b'
 run:eJ fK (dB A n c fs b) []=some (.tuple [],dB A n' c di b')
 eq:(di.take n').reverse=br
 len:di.length=fs.length
 le:n'<=n
theorem ug{n c:Nat}(m:eO A n c fs b)(e:(fs.take n).reverse=st)(h:iH k st b=some (br,b')):∃n' di,kz A n c fs b br b' n' di:=by
 obtain⟨n',di,a1,a2,a3,a4⟩:=JD k n fs b st br b' h m.nX e;obtain⟨q1,q2⟩:=Jn a1 m.nX m.oX m.buf;have fC:n'<=di.length:=by rw[a3];have:=m.nX;omega
 exact⟨n',di,⟨m.aN,q2,q1,fC,by have:=m.rP;omega,by rw[a3];exact m.len,m.vars⟩,adC m a1,a4,a3,a2⟩
theorem kz.again{n c:Nat}{n':Nat}{di:List Fr}(h:iH k st b=some (br,b'))(d:kz A n c fs b br b' n' di):∃n2 bD,kz A n' c di b' br b' n2 bD:=ug d.gh d.eq<|abw h
theorem wD{fr:AF}{n c:Nat}{y:AV}{a':dX}(hA:A=mn a')(hb:b=a'.b)(ok:yv a')(m:eO A n c fs b)(e:(fs.take n).reverse=a'.fs.reverse)(H:av pg B 271 (iE 270 3 pg rs y<|dB A n c fs b) fr s):av pg B 271 (kB XT pg rs 4 y<|eS a') fr s:=by
 subst hA;subst hb;have e:fs.take n=a'.fs:=List.reverse_inj.1 e;have hl:a'.fs.length=n:=by rw[←e,T4];have:=m.nX;omega
 have e2:fs=a'.fs++fs.drop n:=by rw[←e,VP]
 refine Ms (Tz _) (Zl fun y1 s' q=>⟨q.1,gZ a' (fs.drop n) c,XT.uX a' ok _ c ⟨by rw[hl];exact m.rP,by rw[←e2];exact m.len,fun f hf=>m.oX f<|Wt hf⟩,?_⟩) H;have hx:=q.2;rw[←anf,hl, ←e2];exact hx
structure yM (a:dX) (bB:List Fr) (f:Fr) (r:List Fr) (m:Nat):Prop where
 n:a.fs.length=m+1
 get:(a.fs++bB)[m]? =some f
 rest:((a.fs++bB).take m).reverse=r
 all:((a.fs++bB).take<|m+1).reverse=f::r
 mem:f∈a.fs
theorem Qr(h:a.fs.reverse=f::r):∃m,yM a bB f r m:=by
 have e:(a.fs++bB).take a.fs.length=a.fs:=VX;have e2:((a.fs++bB).take a.fs.length).reverse=f::r:=by rw[e];exact h
 obtain⟨m,h1,h2,h3,h4⟩:=O9 (by rw[TM];omega) e2;refine⟨m,h1,h3,h4,by rw[←h1];exact e2,?_⟩;have:f∈a.fs.reverse:=by rw[h];exact TA
 exact Wy.1 this
theorem PU(t:yM a bB f r m)(h0:0<=f.aw){s:St}(hs:f.block[f.aw.toNat]? =some s):su (a.fs++bB) a.fs.length<|some s:=by
 have e:AN (a.fs++bB) a.fs.length=f:=by unfold AN;rw[t.n];exact ane t.get
 exact .inr ⟨by rw[t.n];omega,by rw[e];exact h0,s,by rw[e];exact hs,rfl⟩
theorem Kn(t:yM a bB f r m):aD ((a.fs++bB).take a.fs.length) (((0+a.fs.length:Nat):Int) - 1)=f/\ku (a.fs++bB) a.fs.length=((a.fs++bB).take a.fs.length).set m {f with aw:=f.aw+1}:=by
 have e0:((((0+a.fs.length):Nat):Int) - 1)=(m:Int):=by rw[t.n];omega
 have hg:((a.fs++bB).take a.fs.length)[m]? =some f:=by rw[U4 (by rw[t.n];omega)];exact t.get
 have e:aD ((a.fs++bB).take a.fs.length) (((0+a.fs.length:Nat):Int) - 1)=f:=by rw[e0];exact Pa hg
 refine⟨e,?_⟩;unfold ku;rw[e,e0];rfl
theorem wj(t:yM a bB f r m):(ku (a.fs++bB) a.fs.length).length=a.fs.length/\((ku (a.fs++bB) a.fs.length).take<|0+a.fs.length).reverse={f with aw:=f.aw+1}::r/\ku (a.fs++bB) a.fs.length=(ku (a.fs++bB) a.fs.length).take (0+a.fs.length):=by
 have e:(a.fs++bB).take a.fs.length=a.fs:=VX;have el:(ku (a.fs++bB) a.fs.length).length=a.fs.length:=by rw[(Kn t).2,e,T2]
 refine⟨el,?_,by rw[UG (by rw[el];omega)]⟩;rw[(Kn t).2,e,T6,t.n,take_set _ (by rw[t.n];omega)];have:=t.rest;rw[List.take_append_of_le_length (by rw[t.n];omega)] at this;rw[this]
theorem Good.mp(h:Good a)(hj:uv a bB c)(t:yM a bB f r m):eO {mn a with steps:=a.steps+1} (0+a.fs.length) (0+a.fs.length) (ku (a.fs++bB) a.fs.length) a.b:=by obtain⟨p1,p2,p3⟩:=wj t;refine⟨(h.gh hj).aN,h.ok.2.1,?_,by rw[p1];omega,Tz _,by rw[p1];have:=h.iQ;omega,(h.gh hj).vars⟩;rw[(Kn t).2];exact(iM.take (h.gh hj).oX _).set<|h.oX f t.mem
theorem Good.ay(h:Good a)(t:yM a bB f r m):0<=(aD ((a.fs++bB).take a.fs.length)<|((0+a.fs.length:Nat):Int) - 1).aw/\(aD ((a.fs++bB).take a.fs.length)<|((0+a.fs.length:Nat):Int) - 1).aw<=1000000:=by rw[(Kn t).1];exact h.aw f t.mem
theorem Qs(h:Good a)(t:yM a bB f r m)(dq:a.fs.reverse=f::r)(s:St)(hs:f.block[f.aw.toNat]? =some s):xd (mn a) (lf (a.fs++bB) a.fs.length) a.b (some s)=fm a:=by
 obtain⟨kind,to,ea,eb,bd,el⟩:=s;have hw:=Pb a.fs.length (a.fs++bB) (f::r) (by rw[TM];omega) (by rw[t.n];exact t.all);unfold fm;rw[GB,dq];simp only[hs,LN h.ok.1];have ev:(mn a).vars=a.vars:=rfl;rw[ev];by_cases c8:kind=8
 ·rw[if_pos c8,if_pos c8]
 ·rw[if_neg c8,if_neg c8];cases hb:below (f::r) with
  |none=>
   have e:=hw.1 hb;rw[e];by_cases c6:kind=6
   ·rw[if_pos ⟨c6,by omega⟩,if_pos ⟨c6,rfl⟩]
   ·simp only[c6,false_and,if_false]
  |some p=>obtain⟨i,e,_⟩:=hw.2 p.1 p.2 hb;rw[e,if_neg (show ¬(kind=6/\(i:Int)<0) from fun q=>by have:=q.2;omega),if_neg (show ¬(kind=6/\some p=none) from fun q=>by cases q.2)]
end nA
namespace AP
open Q8 cj fq cC cY ia gJ eT jd jV kM hZ lk iU lY xe nA
variable {b b':bp} {fs:List Fr} {s:Int} {A:MN}
theorem len8{l:List Int}(h:l.length=8):∃a b c d e f g i,l=[a,b,c,d,e,f,g,i]:=⟨_,_,_,_,_,_,_,_,K5 l h⟩
theorem PV{a:dX}(h:a.l.length=8){to z:Int}(h0:0<=to)(h8:to<8):MN.iJ {mn a with steps:=s} to z=mn ⟨a.vars,a.aN,a.l.set to.toNat z,b,fs,s⟩:=by obtain⟨vars,aN,l,b0,fs0,st⟩:=a;obtain⟨x0,x1,x2,x3,x4,x5,x6,x7,rfl⟩:=len8 h;rcases W8 h0 h8 with rfl|rfl|rfl|rfl|rfl|rfl|rfl|rfl<;>rfl
theorem JY{A':MN}{n c k:Nat}{g:Fr}(m:eO A n c fs b)(hk:k<=fs.length)(hl:fs.length<=1000)(e1:A'.G=A.G/\A'.q=A.q/\A'.lg=A.lg/\A'.aN=A.aN/\A'.vars=A.vars)(hg:(0<=g.turns/\g.turns<=1000000)/\g.kept.length=8)(hb:dz b'):
 eO A' (k+1) (k+1) (uB fs k g) b'/\((uB fs k g).take<|k+1).reverse=g::(fs.take k).reverse:=by
 have hlen:(uB fs k g).length=k+1:=by rw[TM,T4];simp only[TL,Ub];omega
 obtain⟨q1,q2,q3,q4,q5⟩:=e1;refine⟨⟨by rw[q1,q2,q3,q4];exact m.aN,hb,iM.app (iM.take m.oX k) fun f hf=>?_,by rw[hlen];omega,Tz _,by rw[hlen];omega,by rw[q5];exact m.vars⟩,?_⟩
 ·rw[TC] at hf;subst hf;exact hg
 ·rw[UG (by rw[hlen];omega)];simp only[Ww,Wx,VB,UB,Vf]
structure wk (a:dX) (f:Fr) (r:List Fr) (kind to:Int):Prop where
 aw:0<=f.aw
 to:kind=1\/kind=2->0<=to/\to<8
 ajO:kind=6->∀g r',below (f::r)=some (g,r')->r'≠[]/\2<=a.b.length
theorem yj{a a':dX}{st:List Fr}(h:fin a st b=some a'):∃br b',iH 1000 st b=some (br,b')/\a'={a with fs:=br.reverse,b:=b'}:=by
 unfold fin at h;split at h
 ·rename_i p e;injection h with h;exact⟨p.1,p.2,e,h.symm⟩
 ·cases h
theorem yk{a:dX}(h:yv a){l:List Int}{br:List Fr}{n c n':Nat}{di:List Fr}(d:kz A n c fs b br b' n' di)(hl:l.length=8)(hn:n<=1000):yv ⟨a.vars,a.aN,l,b',br.reverse,s⟩:=by refine⟨hl,d.gh.buf,?_,h.2.2.2.1,h.2.2.2.2⟩;show br.reverse.length<=1000;rw[←d.eq,UC,T4];have:=d.le;omega
theorem amx{f f1:Fr}{r:List Fr}(ho:f1.cq=f.cq):below (f1::r)=if f.cq=true then some (f1,r) else below r:=by show(if f1.cq=true then some (f1,r) else below r)=_;rw[ho]
theorem Pc(z:Int):lv z<=8:=by
 unfold lv eM;split<;>rename_i q
 ·omega
 ·have:=of_decide_eq_false q;omega
abbrev LS:bV:=[RL,mP,ja,jX,lC,mK,Er,RI,Q5,Ql,Qh,Qi]
variable {B:aE} {a a':dX} {bB:List Fr} {c m:Nat} {f:Fr} {r:List Fr} {kind to:Int} {ea eb:Ex} {bd el:List St}
theorem Br(h:Good a)(e:Ex):fO {mn a with steps:=a.steps+1} e=fP a e/\fO (mn a) e=fP a e:=⟨LN h.ok.1 _,LN h.ok.1 _⟩
theorem jh{op nn aT n2:Int}{la lb:List Ex}{q:Int×Int×Int}(h:Good a)(hj:uv a bB c)(t:yM a bB f r m)(dq:a.fs.reverse=f::r)(hs:f.block[f.aw.toNat]? =some (.mk kind to (.mk op nn la) (.mk aT n2 lb) bd el))(hd:wk a f r kind to)(hk:fm a=q):JH (mn a) a.fs.length c (a.fs++bB) a.b kind to op nn la aT n2 lb bd el q:=by have n6:=h.iQ;exact⟨h.gh hj,by rw[t.n];omega,h.iQ,h.b6,PU t hd.aw hs,(Qs h t dq _ hs).trans hk,h.ay t,h.steps,h.mp hj t⟩
variable (mc:Mt LS B) (h:Good a) (hj:uv a bB c) (t:yM a bB f r m) (dq:a.fs.reverse=f::r)
include mc h hj t dq
theorem agl(hs:f.block[f.aw.toNat]? =some (.mk 1 to ea eb bd el))(hd:wk a f r 1 to)(hk:fm a=(1,0,0))(hf:fin {a with l:=a.l.set to.toNat<|fP a ea,steps:=a.steps+1} ({f with aw:=f.aw+1}::r) a.b=some a'):
 av pg B 271 (kB XT pg (aC Tryd.f16) 4 (.int .i64 0)<|eS a') (sF 16 Tryd.f16 [.ptr<|some (270,0)]) (aj (aq++bf (gZ a bB c)) 273):=by
 obtain⟨br,b',e1,rfl⟩:=yj hf;have h0:=(hd.to<|.inl rfl);have mp:=h.mp hj t;obtain⟨p1,p2,p3⟩:=wj t;obtain⟨op,nn,la⟩:=ea;obtain⟨aT,n2,lb⟩:=eb;obtain⟨n',di,d⟩:=ug (mp.iJ (i:=to) (z:=fP a<|.mk op nn la)) p2 e1;obtain⟨ev,_⟩:=Br h<|.mk op nn la;have hX:=ahY mp (kind:=1) (ea:=.mk op nn la) (eb:=.mk aT n2 lb) (bd:=bd) (el:=el) h0.1 h0.2;rw[ev] at hX;have key:=j1 (.inl ⟨rfl,rfl,rfl⟩) mc (jh h hj t dq hs hd hk) mp.iJ d.gh hX d.run;exact wD (PV h.ok.1 h0.1 h0.2) rfl (yk h.ok d (by rw[T2];exact h.ok.1) (by have:=h.iQ;omega)) d.gh HV key
theorem agm(hs:f.block[f.aw.toNat]? =some (.mk 2 to ea eb bd el))(hd:wk a f r 2 to)(hk:fm a=(1,0,0))(hf:fin {a with l:=a.l.set to.toNat (lD a.b<|jq (fP a ea) a.vars).1,steps:=a.steps+1} ({f with aw:=f.aw+1}::r) a.b=some a'):
 av pg B 271 (kB XT pg (aC Tryd.f16) 4 (.int .i64 0)<|eS a') (sF 16 Tryd.f16 [.ptr<|some (270,0)]) (aj (aq++bf (gZ a bB c)) 273):=by
 obtain⟨br,b',e1,rfl⟩:=yj hf;have mp:=h.mp hj t;obtain⟨p1,p2,p3⟩:=wj t;have n6:=h.iQ;obtain⟨op,nn,la⟩:=ea;obtain⟨aT,n2,lb⟩:=eb;obtain⟨ev,zA⟩:=Br h<|.mk op nn la;have h0:=(hd.to<|.inr rfl);obtain⟨n',di,d⟩:=ug (mp.iJ (i:=to) (z:=(lD a.b<|jq (fP a<|.mk op nn la) a.vars).1)) p2 e1;have hX:=agj mp h.b6 (kind:=2) (ea:=.mk op nn la) (eb:=.mk aT n2 lb) (bd:=bd) (el:=el) h0.1 h0.2;rw[ev] at hX;have key:=j1 (.inr<|.inl ⟨rfl,rfl,rfl⟩) mc (jh h hj t dq hs hd hk) mp.iJ d.gh hX d.run;exact wD (PV h.ok.1 h0.1 h0.2) rfl (yk h.ok d (by rw[T2];exact h.ok.1) ae) d.gh HV key
theorem agn(hs:f.block[f.aw.toNat]? =some (.mk 3 to ea eb bd el))(hd:wk a f r 3 to)(hk:fm a=(1,0,0))(hf:fin {a with steps:=a.steps+1} ({f with aw:=f.aw+1}::r) (lA a.b (jq (fP a ea) a.vars)<|fP a eb)=some a'):
 av pg B 271 (kB XT pg (aC Tryd.f16) 4 (.int .i64 0)<|eS a') (sF 16 Tryd.f16 [.ptr<|some (270,0)]) (aj (aq++bf (gZ a bB c)) 273):=by
 obtain⟨br,b',e1,rfl⟩:=yj hf;have mp:=h.mp hj t;obtain⟨p1,p2,p3⟩:=wj t;have n6:=h.iQ;obtain⟨op,nn,la⟩:=ea;obtain⟨aT,n2,lb⟩:=eb;obtain⟨ev,zA⟩:=Br h<|.mk op nn la;have ev2:fO {mn a with steps:=a.steps+1} (.mk aT n2 lb)=fP a (.mk aT n2 lb):=LN h.ok.1 _;have mb:eO {mn a with steps:=a.steps+1} (0+a.fs.length) (0+a.fs.length) (ku (a.fs++bB) a.fs.length)<|lA a.b (jq (fP a<|.mk op nn la) a.vars)<|fP a<|.mk aT n2 lb:=⟨mp.aN,OC mp.buf _ _,mp.oX,mp.nX,mp.rP,mp.len,mp.vars⟩;obtain⟨n',di,d⟩:=ug mb p2 e1;have hX:=aeN mp h.b6 (kind:=3) (to:=to) (ea:=.mk op nn la) (eb:=.mk aT n2 lb) (bd:=bd) (el:=el);rw[ev,ev2] at hX;have key:=j1 (.inr<|.inr ⟨rfl,rfl,rfl⟩) mc (jh h hj t dq hs hd hk) mb d.gh hX d.run;exact wD rfl rfl (yk h.ok d h.ok.1 ae) d.gh HV key
theorem Xb{X:List St}{tk:Bool}(hs:f.block[f.aw.toNat]? =some (.mk 4 to ea eb bd el))(hd:wk a f r 4 to)(hk:fm a=(1,0,0))(hz:zB tk<|fP a ea)(hX:X=xB tk bd el)(hf:fin {a with steps:=a.steps+1} (⟨X,0,0,false,Z8,none⟩::{f with aw:=f.aw+1}::r) a.b=some a'):
 av pg B 271 (kB XT pg (aC Tryd.f16) 4 (.int .i64 0)<|eS a') (sF 16 Tryd.f16 [.ptr<|some (270,0)]) (aj (aq++bf (gZ a bB c)) 273):=by
 obtain⟨br,b',e1,rfl⟩:=yj hf;have mp:=h.mp hj t;obtain⟨p1,p2,p3⟩:=wj t;have n6:=h.iQ;obtain⟨op,nn,la⟩:=ea;obtain⟨aT,n2,lb⟩:=eb;obtain⟨ev,zA⟩:=Br h<|.mk op nn la;obtain⟨mE,eE⟩:=JY (A':={mn a with steps:=a.steps+1}) (k:=0+a.fs.length) (b':=a.b) (g:=⟨X,0,0,false,Z8,none⟩) mp y9 y9 ⟨rfl,rfl,rfl,rfl,rfl⟩ ⟨⟨by show(0:Int)<=0;omega,by show(0:Int)<=1000000;omega⟩,rfl⟩ mp.buf;rw[p2] at eE;obtain⟨n1,bL,d⟩:=ug mE eE e1;obtain⟨n',di,d2⟩:=d.again e1;have key:=j4 (tk:=tk) mc (jh h hj t dq hs hd hk) d.gh d2.gh mE d.run d2.run (by rw[zA];exact hz) hX;exact wD rfl rfl (yk h.ok d h.ok.1 ae) d2.gh Mh key
theorem aeP(hs:f.block[f.aw.toNat]? =some (.mk 5 to ea eb bd el))(hd:wk a f r 5 to)(hk:fm a=(1,0,0))(hz:0<lv (fP a ea))(hf:fin {a with steps:=a.steps+1} (⟨bd,0,lv (fP a ea) - 1,false,Z8,none⟩::{f with aw:=f.aw+1}::r) a.b=some a'):
 av pg B 271 (kB XT pg (aC Tryd.f16) 4 (.int .i64 0)<|eS a') (sF 16 Tryd.f16 [.ptr<|some (270,0)]) (aj (aq++bf (gZ a bB c)) 273):=by
 obtain⟨br,b',e1,rfl⟩:=yj hf;have mp:=h.mp hj t;obtain⟨p1,p2,p3⟩:=wj t;have n6:=h.iQ;obtain⟨op,nn,la⟩:=ea;obtain⟨aT,n2,lb⟩:=eb;obtain⟨ev,zA⟩:=Br h<|.mk op nn la;have h8:=Pc<|fP a<|.mk op nn la;obtain⟨mE,eE⟩:=JY (A':={mn a with steps:=a.steps+1}) (k:=0+a.fs.length) (b':=a.b) (g:=⟨bd,0,lv (fP a<|.mk op nn la) - 1,false,Z8,none⟩) mp y9 y9 ⟨rfl,rfl,rfl,rfl,rfl⟩ ⟨⟨by show 0<=lv _ - 1;omega,by show lv _ - 1<=1000000;omega⟩,rfl⟩ mp.buf;rw[p2] at eE;obtain⟨n1,bL,d⟩:=ug mE eE e1;obtain⟨n',di,d2⟩:=d.again e1;rw[←zA] at mE d hz h8;have key:=j5t mc (jh h hj t dq hs hd hk) d.gh d2.gh mE d.run d2.run ⟨hz,h8⟩;exact wD rfl rfl (yk h.ok d h.ok.1 ae) d2.gh Mh key
theorem aeQ(hs:f.block[f.aw.toNat]? =some (.mk 5 to ea eb bd el))(hd:wk a f r 5 to)(hk:fm a=(1,0,0))(hz:¬(0<lv (fP a ea)))(hf:fin {a with steps:=a.steps+1} ({f with aw:=f.aw+1}::r) a.b=some a'):
 av pg B 271 (kB XT pg (aC Tryd.f16) 4 (.int .i64 0)<|eS a') (sF 16 Tryd.f16 [.ptr<|some (270,0)]) (aj (aq++bf (gZ a bB c)) 273):=by
 obtain⟨br,b',e1,rfl⟩:=yj hf;have mp:=h.mp hj t;obtain⟨p1,p2,p3⟩:=wj t;have n6:=h.iQ;obtain⟨op,nn,la⟩:=ea;obtain⟨aT,n2,lb⟩:=eb;obtain⟨ev,zA⟩:=Br h<|.mk op nn la;obtain⟨n',di,d⟩:=ug mp p2 e1;have key:=j5o mc (jh h hj t dq hs hd hk) d.gh (by rw[zA];omega) d.run;exact wD rfl rfl (yk h.ok d h.ok.1 ae) d.gh HV key
theorem ago(hs:f.block[f.aw.toNat]? =some (.mk 7 to ea eb bd el))(hd:wk a f r 7 to)(hk:fm a=(1,0,0))(hf:fin {a with steps:=a.steps+1} (⟨bd,0,0,true,a.l,some el⟩::{f with aw:=f.aw+1}::r) (a.b++[[]])=some a'):
 av pg B 271 (kB XT pg (aC Tryd.f16) 4 (.int .i64 0)<|eS a') (sF 16 Tryd.f16 [.ptr<|some (270,0)]) (aj (aq++bf (gZ a bB c)) 273):=by
 obtain⟨br,b',e1,rfl⟩:=yj hf;have mp:=h.mp hj t;obtain⟨p1,p2,p3⟩:=wj t;have n6:=h.iQ;obtain⟨op,nn,la⟩:=ea;obtain⟨aT,n2,lb⟩:=eb;obtain⟨ev,zA⟩:=Br h<|.mk op nn la;have h6:a.b.length<7:=by have:=h.b6;omega
 obtain⟨mE,eE⟩:=JY (A':={mn a with steps:=a.steps+1}) (k:=0+a.fs.length) (b':=a.b++[[]]) (g:=⟨bd,0,0,true,a.l,some el⟩) mp y9 y9 ⟨rfl,rfl,rfl,rfl,rfl⟩ ⟨⟨by show(0:Int)<=0;omega,by show(0:Int)<=1000000;omega⟩,h.ok.1⟩<|PN mp.buf h6;rw[p2] at eE;obtain⟨n1,bL,d⟩:=ug mE eE e1;obtain⟨n',di,d2⟩:=d.again e1;rw[←Zm h.ok.1] at mE d;have key:=j7 mc (jh h hj t dq hs hd hk) d.gh d2.gh mE d.run d2.run h6;exact wD rfl rfl (yk h.ok d h.ok.1 ae) d2.gh Mh key
theorem agp(hs:f.block[f.aw.toNat]? =some (.mk 6 to ea eb bd el))(hd:wk a f r 6 to)(hk:fm a=(1,0,0)){fb ol:List St}{fa ft:Int}{fo:Bool}{kept:List Int}{r':List Fr}(Bs:below (f::r)=some (⟨fb,fa,ft,fo,kept,some ol⟩,r'))(hf:fin {a with l:=kept,steps:=a.steps+1} (⟨ol,0,0,false,Z8,none⟩::r') a.b.dropLast=some a'):
 av pg B 271 (kB XT pg (aC Tryd.f16) 4 (.int .i64 0)<|eS a') (sF 16 Tryd.f16 [.ptr<|some (270,0)]) (aj (aq++bf (gZ a bB c)) 273):=by
 obtain⟨br,b',e1,rfl⟩:=yj hf;have mp:=h.mp hj t;obtain⟨p1,p2,p3⟩:=wj t;have n6:=h.iQ;obtain⟨op,nn,la⟩:=ea;obtain⟨aT,n2,lb⟩:=eb;obtain⟨ev,zA⟩:=Br h<|.mk op nn la;obtain⟨hr,Da⟩:=hd.ajO rfl _ _ Bs;have RM:∃fa',below ({f with aw:=f.aw+1}::r)=some ((⟨fb,fa',ft,fo,kept,some ol⟩:Fr),r'):=by
  rw[amx (f1:={f with aw:=f.aw+1}) (f:=f) (r:=r) rfl];rw[amx (f1:=f) (f:=f) rfl] at Bs;by_cases c:f.cq=true
  ·rw[if_pos c] at Bs ⊢;injection Bs with Bs
   injection Bs with g1 g2
   subst g1;subst g2;exact⟨_,rfl⟩
  ·rw[if_neg c] at Bs ⊢;exact⟨_,Bs⟩
 obtain⟨fa',RM⟩:=RM;obtain⟨_,hw⟩:=Pb (0+a.fs.length) _ _ y9 p2;obtain⟨i,w1,w2,w3,w4⟩:=hw _ _ RM;have hi:1<=i:=by
  cases i with
  |zero=>exact absurd w4.symm (by rw[Vp];exact hr)
  |succ i=>omega
 have SY:kept.length=8:=(mp.oX _<|TY w3).2;obtain⟨y0,y1,y2,y3,y4,y5,y6,y7,rfl⟩:=len8 SY;have iN:((i:Int)).toNat=i:=by omega
 obtain⟨mE,eE⟩:=JY (A':={mn a with steps:=a.steps+1,x0:=y0,x1:=y1,x2:=y2,x3:=y3,x4:=y4,x5:=y5,x6:=y6,x7:=y7}) (k:=i) (b':=a.b.dropLast) (g:=⟨ol,0,0,false,Z8,none⟩) mp y9 y9 ⟨rfl,rfl,rfl,rfl,rfl⟩ ⟨⟨by show(0:Int)<=0;omega,by show(0:Int)<=1000000;omega⟩,rfl⟩<|PO mp.buf Da;rw[w4] at eE;obtain⟨n1,bL,d⟩:=ug mE eE e1;obtain⟨n',di,d2⟩:=d.again e1;have hn:i+1<=1000:=by omega
 rw[←iN] at mE d w3;have key:=j6 (wi:=(i:Int)) mc (jh h hj t dq hs hd hk) d.gh d2.gh mE d.run d2.run w1 ⟨by omega,by omega⟩ w3 Da;exact wD rfl rfl (yk h.ok d2 rfl (by have:=d.le;omega)) d2.gh Mh key
end AP
namespace pF
open cj fq ia gJ eT jd jV kM hZ lk lY xe nA AP
variable {L:bV}
structure Qt (a:dX):Prop where
 qv:Good a
 top:a.fs=[]\/∃f r s,a.fs.reverse=f::r/\0<=f.aw/\f.block[f.aw.toNat]? =some s
structure JZ (a:dX):Prop where
 qv:Good a
 ask:fm a=(1,0,0)
 top:∃f r kind to ea eb bd el,a.fs.reverse=f::r/\f.block[f.aw.toNat]? =some (.mk kind to ea eb bd el)/\wk a f r kind to
structure Li (a:dX):Prop where
 qv:Good a
 ask:∃v,fm a=(2,v,0)
 top:∃f r kind to ea eb bd el,a.fs.reverse=f::r/\0<=f.aw/\f.block[f.aw.toNat]? =some (.mk kind to ea eb bd el)/\0<=to/\to<8
section
variable {B:aE} {a a':dX} {bB:List Fr} {c:Nat}
theorem aeR(mc:Mt LS B)(h:JZ a)(hj:uv a bB c)(hs:sw a=some a'):
 av pg B 271 (kB XT pg (aC Tryd.f16) 4 (.int .i64 0)<|eS a') (sF 16 Tryd.f16 [.ptr<|some (270,0)]) (aj (aq++bf (gZ a bB c)) 273):=by
 obtain⟨hg,hk,f,r,kind,to,ea,eb,bd,el,dq,hb,hd⟩:=h;obtain⟨m,t⟩:=Qr (bB:=bB) dq;unfold sw at hs;rw[dq] at hs;simp only[hb] at hs;by_cases c1:kind=1
 ·subst c1;rw[if_pos rfl] at hs;exact agl mc hg hj t dq hb hd hk hs
 rw[if_neg c1] at hs;by_cases c2:kind=2
 ·subst c2;rw[if_pos rfl] at hs;exact agm mc hg hj t dq hb hd hk hs
 rw[if_neg c2] at hs;by_cases c3:kind=3
 ·subst c3;rw[if_pos rfl] at hs;exact agn mc hg hj t dq hb hd hk hs
 rw[if_neg c3] at hs;by_cases c4:kind=4
 ·subst c4;rw[if_pos rfl] at hs;by_cases z:fP a ea=0
  ·rw[if_neg fun q=>q z] at hs;exact Xb (tk:=false) mc hg hj t dq hb hd hk z rfl hs
  ·rw[if_pos z] at hs;exact Xb (tk:=true) mc hg hj t dq hb hd hk z rfl hs
 rw[if_neg c4] at hs;by_cases c5:kind=5
 ·subst c5;rw[if_pos rfl] at hs;by_cases z:0<lv (fP a ea)
  ·rw[if_pos z] at hs;exact aeP mc hg hj t dq hb hd hk z hs
  ·rw[if_neg z] at hs;exact aeQ mc hg hj t dq hb hd hk z hs
 rw[if_neg c5] at hs;by_cases c6:kind=6
 ·subst c6;rw[if_pos rfl] at hs;split at hs
  ·rename_i e;exact agp mc hg hj t dq hb hd hk e hs
  ·cases hs
 rw[if_neg c6] at hs;by_cases c7:kind=7
 ·subst c7;rw[if_pos rfl] at hs;exact ago mc hg hj t dq hb hd hk hs
 rw[if_neg c7] at hs;cases hs
theorem agq(mc:Mt LS B)(h:Li a)(hj:uv a bB c){x:Int}(hs:pc a x=some a'):
 av pg B 271 (kB XT pg (aC Tryd.f41) 4 (.int .i64 0)<|eS a') (sF 41 Tryd.f41 [.ptr<|some (270,0),.int .i64 x]) (aj (aq++bf (gZ a bB c)) 273):=by
 obtain⟨hg,⟨v,hk⟩,f,r,kind,to,ea,eb,bd,el,dq,h0,hb,t0,t8⟩:=h;obtain⟨m,t⟩:=Qr (bB:=bB) dq;have k2:kind=2:=by
  have hk:=hk;unfold fm at hk;rw[dq] at hk;simp only[hb] at hk;split at hk
  ·injection hk with q;exact absurd q ae
  split at hk
  ·injection hk with q;exact absurd q ae
  split at hk
  ·rename_i q;exact q.1
  ·injection hk with q;exact absurd q ae
 subst k2;unfold pc at hs;rw[dq] at hs;simp only[hb] at hs;obtain⟨br,b',e1,rfl⟩:=yj hs;have mp:=hg.mp hj t;obtain⟨p1,p2,p3⟩:=wj t;have n6:=hg.iQ;obtain⟨n',di,d⟩:=ug (mp.iJ (i:=to) (z:=x)) p2 e1;have ha:=(Qs hg t dq _ hb).trans hk;obtain⟨op,nn,la⟩:=ea;obtain⟨aT,n2,lb⟩:=eb;have key:=jA mc ⟨hg.gh hj,by rw[t.n];omega,hg.iQ,hg.b6,PU t h0 hb,ha,hg.ay t,hg.steps,mp⟩ d.gh t0 t8 mp.iJ d.run;exact wD (PV hg.ok.1 t0 t8) rfl (yk hg.ok d (by rw[T2];exact hg.ok.1) ae) d.gh HV key
theorem agr(mc:Mt [mP,ja,jX,lC,mK] B)(h:Qt a)(hj:uv a bB c):
 av pg B 271 (kB XT pg (aC Tryd.f15) 4 (AO<|fm a)<|eS a) (sF 15 Tryd.f15 [.ptr<|some (270,0)]) (aj (aq++bf (gZ a bB c)) 273):=by
 have key:∃o,su (a.fs++bB) a.fs.length o/\xd (mn a) (lf (a.fs++bB) a.fs.length) a.b o=fm a:=by
  rcases h.top with e|⟨f,r,s,dq,h0,hb⟩
  ·refine⟨none,.inl ⟨by rw[e];rfl,rfl⟩,?_⟩;unfold fm;rw[e];rfl
  ·obtain⟨m,t⟩:=Qr (bB:=bB) dq;exact⟨some s,PU t h0 hb,Qs h.qv t dq s hb⟩
 obtain⟨o,h1,h2⟩:=key;have hm:=h.qv.gh hj;have H:=W9 mc hm h.qv.iQ h.qv.b6 h1;rw[h2] at H;refine wD (a':=a) rfl rfl h.qv.ok hm (by rw[VX])<|Ms ae (fun _ _ _ _ q=>q) H
end
open Classical in
def HD(a:dX)(rest:List AV):Option<|AV×dX:=if rest=[]/\JZ a then(sw a).map fun a'=>(.int .i64 0,a') else none
open Classical in
def AQ(a:dX)(rest:List AV):Option<|AV×dX:=match rest with
 |[.int .i64 x]=>if Li a then(pc a x).map fun a'=>(.int .i64 0,a') else none
 |_=>none
open Classical in
def Mu(a:dX)(rest:List AV):Option<|AV×dX:=if rest=[]/\Qt a then some (AO<|fm a,a) else none
def YE:FuncId×KE:=(16,.tok 4<|ir eS HD)
def Zn:FuncId×KE:=(41,.tok 4<|ir eS AQ)
theorem X0(hP:bY pg):aY LS:=agk hP<|O8 hP<|Ep hP<|GX hP<|JW hP<|N6 hP<|akW hP<|agf hP<|aeM hP<|adz hP<|adt hP<|adu hP dj
theorem GY{a:dX}{bB:List Fr}{c:Nat}:∀p∈gZ a bB c,p.1<273:=fun p hp=>by simp only[gZ,Ty,TV,or_false] at hp;rcases hp with rfl|rfl|rfl<;>(show _<273;simp only;omega)
theorem aeS(hP:bY pg)(h:aY L):aY<|YE::L:=by
 refine PE zt hP gW qR jT jb mU mA h (X0 hP) Tryd.func16 (body:=aL pg 16 []) aV aV fun v rest y v' e=>?_;obtain⟨a,a',rfl,e1,rfl⟩:=JQ e;unfold HD at e1;split at e1
 ·rename_i q;obtain⟨rfl,hd⟩:=q;cases hs:sw a with
  |none=>rw[hs] at e1;cases e1
  |some a2=>
   rw[hs] at e1;injection e1 with e1;injection e1 with e2 e3
   subst e2;subst e3;refine⟨aI.1 aV,fun L hx=>?_⟩;generalize hv:eS a=v at hx;cases hx with
   |uX b hb bB c hj=>have:=v7 _ _ hv;subst this;exact⟨273,by omega,aI.1 aV,GY,fun B mc=>aeR mc hd hj hs⟩
 ·cases e1
theorem ags(hP:bY pg)(h:aY L):aY<|Zn::L:=by
 refine PE zt hP gW qR jT jb mU mA h (X0 hP) Tryd.func41 (body:=aL pg 41 []) aV aV fun v rest y v' e=>?_;obtain⟨a,a',rfl,e1,rfl⟩:=JQ e;unfold AQ at e1;split at e1
 ·rename_i x;split at e1
  ·rename_i hd;cases hs:pc a x with
   |none=>rw[hs] at e1;cases e1
   |some a2=>
    rw[hs] at e1;injection e1 with e1;injection e1 with e2 e3
    subst e2;subst e3;refine⟨aI.1 aV,fun L hx=>?_⟩;generalize hv:eS a=v at hx;cases hx with
    |uX b hb bB c hj=>have:=v7 _ _ hv;subst this;exact⟨273,by omega,aI.1 aV,GY,fun B mc=>agq mc hd hj hs⟩
  ·cases e1
 ·cases e1
end pF
namespace Ie
open cj fq lk hZ gJ eT lY pF ia kM
variable {S:Type} {rest:List AV} {f:S->List AV->Option AV} {enc:S->AV}
def px(enc:S->AV)(f:S->List AV->Option AV)(v:AV)(rest:List AV):Option AV:=(ir enc (fun a r=>(f a r).map fun y=>(y,a)) v rest).map (·.1)
theorem J1(inj:∀a b,enc a=enc b->a=b){a:S}:px enc f (enc a) rest=f a rest:=by unfold px;rw[B1 inj];cases f a rest<;>rfl
theorem JE{v:AV}{y:AV}(h:px enc f v rest=some y):∃a,v=enc a/\f a rest=some y:=by
 unfold px at h;cases q:ir enc (fun a r=>(f a r).map fun y=>(y,a)) v rest with
 |none=>rw[q] at h;cases h
 |some p=>
  rw[q] at h;injection h with h;subst h
  obtain⟨y,v'⟩:=p;obtain⟨a,a',e1,e2,e3⟩:=JQ q;refine⟨a,e1,?_⟩;cases q2:f a rest with
  |none=>rw[q2] at e2;cases e2
  |some z=>rw[q2] at e2;injection e2 with e2;injection e2 with e2 _;exact congrArg some e2
def X1:FuncId×KE:=(15,.raw<|pG 4<|px eS fun a rest=>(Mu a rest).map (·.1))
theorem adF(hP:bY pg){L:bV}(h:aY L):aY<|X1::L:=by
 refine J0 zt hP gW qR jT jb mU mA h (O8 hP<|Ep hP<|GX hP<|JW hP<|N6 hP dj) Tryd.func15 (body:=aL pg 15 []) aV aV fun v rest y e=>?_;obtain⟨a,rfl,e1⟩:=JE e;unfold Mu at e1;split at e1
 ·rename_i q;obtain⟨rfl,hd⟩:=q;injection e1 with e1
  have e1:AO (fm a)=y:=e1;subst e1;refine⟨aI.1 aV,fun L hx=>?_⟩;generalize hv:eS a=v at hx;cases hx with
  |uX b hb bB c hj=>have:=v7 _ _ hv;subst this;exact⟨273,by omega,aI.1 aV,GY,fun B mc=>agr mc hd hj⟩
 ·cases e1
end Ie
namespace oJ
open cj fq RG iL ia
variable {r d:List<|Int×Int} {fz:jl} {i:Nat} {o0:List<|Nat×Option ah}
theorem vd:kA 2 aO:=⟨fun _=>rfl,fun _=>rfl⟩
theorem Zr(x:Int×Int):(aO x).length=2/\(aO x).all AV.bM=true:=⟨rfl,rfl⟩
def allM(ms:bp):List<|Int×Int:=ms.foldl fM []
theorem N7{ms:bp}(hd:eK d):eK<|ms.foldl fM d:=by
 induction ms generalizing d with
 |nil=>exact hd
 |cons m ms ih=>exact ih<|eK.merge hd
def ah3:FuncId×KE:=(60,.raw fun _ _ _=>uO 61)
abbrev LA:bV:=[Bl,ah3]
def KA:List Item:=[.code<|aL pg 42 [1,1,1,0,1,0,0],.inLoop<|aL pg 42 [1,1,1,0,1,0,0],.inBlock 0,.code<|aL pg 42 [1,1,1,1]]
def qG(n:Nat)(cap:cx)(i:Nat):List<|Nat×AV:=[(3,.map<|some 279),(15,.slice (some (271,0)) n cap),(16,.int .i64<|.ofNat n),(17,.int .i64<|.ofNat i)]
abbrev kY:Nat:=max Tryd.f42.ntmps 1
def oY(n:Nat)(cap:cx)(i:Nat):AF:=⟨42,aA<|qG n cap i,kY,KA,[],none⟩
abbrev oA(ms:bp)(cap:cx)(d:List<|Int×Int):List<|Nat×Option ah:=aq++bf (ey ms cap++[(279,bE d)])
abbrev cw(ms:bp)(cap:cx)(d:List<|Int×Int):AS:=aj (oA ms cap d) 280
abbrev du(B:aE)(lo:Nat)(ms:bp)(fr:AF)(s:AS):Prop:=av pg B lo (kB XT pg (aC Tryd.f42) 3 (ar aO<|eC<|allM ms)<|bZ ms) fr s
abbrev RA(ms:bp):AV->AS->Prop:=fun y s=>rz 3 (ar aO<|eC<|allM ms) (bZ ms) s y
section
variable {B:aE} {ms:bp} {cap:cx}
theorem Fe{lo aP nx:Nat}{l0 l:List<|Nat×AV}{o:List<|Nat×Option ah}(h1:lo<=nx)(h2:nx<=aP)(h3:aP<top)(hs:∀r:Nat->Nat,(∀k,k<nx->r k=k)->(∀k,top<=k->r k=k)->∀p∈l,p.1<top/\∃x,(p.1,x)∈l0/\gE fz r x p.2)(ho:∀r:Nat->Nat,(∀k,k<nx->r k=k)->(∀k,top<=k->r k=k)->∀p∈o,p.1<nx/\∀y,p.2=some y->y.iA=true/\∃x,(p.1,some x)∈o0/\fc x y/\dT fz r x y)(hz:∀p∈fz,nx<=p.1/\p.1<top/\FU p.2.1=some p.2.2/\∃N t z,(p.1,some<|.cells N t z)∈o0/\∀i x,p.2.2[i]? =some x->i<N/\cellAt t z i=some x/\x.bM=true/\x.cN=true):fy FU lo aP l0 o0 l o nx:=by
 let r:Nat->Nat:=fun k=>if k<nx\/top<=k then k else max k aP
 have r1:∀k,k<nx->r k=k:=fun k hk=>if_pos<|.inl hk;have r2:∀k,top<=k->r k=k:=fun k hk=>if_pos<|.inr hk;refine⟨fz,r,fun k hk=>r1 k ae,fun k a b=>?_,r2,by omega,hs r r1 r2,fun p hp=>?_,fun p hp q hq _ _ e=>?_,fun p hp=>?_,fun p hp q hq _ e=>?_⟩
 ·show aP<=(if _ then _ else _)/\(if _ then _ else _)<top;rw[if_neg ae];omega
 ·obtain⟨a,b⟩:=ho r r1 r2 p hp;exact⟨by omega,fun y hy=>by obtain⟨c1,x,c2,c3,c4⟩:=b y hy;rw[r1 _ a];exact⟨by omega,c1,x,c2,c3,c4⟩⟩
 ·have a:=(ho r r1 r2 p hp).1;have b:=(ho r r1 r2 q hq).1;rw[r1 _ a,r1 _ b] at e;exact e
 ·exact(hz p hp).2
 ·have a:=(ho r r1 r2 q hq).1;rw[r1 _ a] at e;have:=(hz p hp).1;omega
theorem Xd{fz:jl}{r:Nat->Nat}(hr:∀k,k<279->r k=k):∀{l:List AV},(∀x∈l,∃i,x= .map (some i)/\i<279)->lz fz r l l
 |[],_=>trivial
 |x::l,h=>⟨by obtain⟨i,rfl,hi⟩:=h x TA;exact(aZ.map<|hr i hi).z,Xd hr fun y hy=>h y<|TB _ hy⟩
theorem Qu(h:dz ms){r:Nat->Nat}(hr:∀k,k<279->r k=k):∀p∈ey ms cap,p.1<279/\p.2.iA=true/\dT fz r p.2 p.2:=fun p hp=>by
 refine⟨O4 h p hp,?_⟩;have h7:=h.1.2;rcases Ty.1 hp with rfl|hp
 ·exact⟨rfl,dT.cells (l:=[.slice (some (271,0)) ms.length cap]) (m:=[.slice (some (271,0)) ms.length cap]) (by show 1<=top;unfold top;omega) ⟨(aZ.slice<|hr 271 ae).z,trivial⟩ rfl⟩
 rcases Ty.1 hp with rfl|hp
 ·refine⟨rfl,?_⟩;have e:((kq ms.length).map iB).flatten=kq ms.length:=Hc _;show dT fz r (.cells ((kq ms.length).map iB).flatten.length (Tr.fill ((kq ms.length).map iB).flatten 0 .nil) [])<|.cells ((kq ms.length).map iB).flatten.length (Tr.fill ((kq ms.length).map iB).flatten 0 .nil) [];rw[e];refine dT.cells (by rw[O6];unfold top;omega) (Xd hr fun x hx=>?_)<|O5 _;obtain⟨i,hi,rfl⟩:=TI.1 hx;exact⟨_,rfl,by have:=Uz.1 hi;omega⟩
 ·obtain⟨_,_,m,e⟩:=Jz hp;rw[e];exact⟨rfl,fun _ _ _ _ _ k=>we k⟩
theorem yN{r:Nat->Nat}(hr:∀k,k<270->r k=k):∀p∈aq,p.1<270/\∀y,p.2=some y->y.iA=true/\dT fz r y y:=fun p hp=>by
 have h1:(aq.all fun p=>Tv p.1 270&&(match p.2 with|some x=>x.iA|none=>true))=true:=by as_aux_lemma=>kernel_rfl
 obtain⟨a,b⟩:=and_true.1<|TG.1 h1 p hp;refine⟨(blt_eq _ _).mp a,fun y hy=>?_⟩;rw[hy] at b;exact⟨b,(D9 (nx:=270) hr cf p hp y hy).z⟩
theorem Q9(h:dz ms){nx:Nat}(cM:279<=nx){r:Nat->Nat}(hr:∀k,k<nx->r k=k){more less:List<|Nat×ah}(hm:∀p∈more,p.1<nx/\p.2.iA=true/\∃x,(p.1,x)∈less/\fc x p.2/\dT fz r x p.2):
 ∀p∈aq++bf (ey ms cap++more),p.1<nx/\∀y,p.2=some y->y.iA=true/\∃x,(p.1,some x)∈aq++bf (ey ms cap++less)/\fc x y/\dT fz r x y:=fun p hp=>by
 rcases TP.1 hp with hp|hp
 ·obtain⟨a,b⟩:=yN (fz:=fz) (fun k hk=>hr k ae) p hp;refine⟨by omega,fun y hy=>?_⟩;obtain⟨c,d⟩:=b y hy;exact⟨c,y,T7 _ HY,fc.refl _,d⟩
 ·rw[x8] at hp;obtain⟨q,hq,rfl⟩:=TI.1 hp;rcases TP.1 hq with hq|hq
  ·obtain⟨a,b,c⟩:=Qu h (fz:=fz) (fun k hk=>hr k ae) q hq;refine⟨by show q.1<nx;omega,fun y hy=>?_⟩;cases hy;exact⟨b,_,TU _ (by rw[x8];exact TI.2 ⟨q,T7 _ hq,rfl⟩),fc.refl _,c⟩
  ·obtain⟨a,b,x,c,d,e⟩:=hm q hq;refine⟨a,fun y hy=>?_⟩;cases hy;exact⟨b,x,TU _ (by rw[x8];exact TI.2 ⟨(q.1,x),TU _ c,rfl⟩),d,e⟩
theorem SZ(mc:Mt LA B)(h:dz ms)(H:du B 271 ms (oY ms.length cap 0)<|cw ms cap [])(k:(((qG ms.length cap 0).map (fun q=>some q.2)=(qG ms.length cap 0).map (fun q=>some q.2))/\((aq++bf (ey ms cap++[(279,yT [])])).map (fun q=>q.2)=(aq++bf (ey ms cap++[(279,yT [])])).map (fun q=>q.2))/\fy FU 271 280 (qG ms.length cap 0) (aq++bf (ey ms cap++[(279,yT [])])) (qG ms.length cap 0) (oA ms cap []) 280/\(oY ms.length cap 0=oY ms.length cap 0/\cw ms cap []=cw ms cap []))=
 wp (pM LA) 900 6 (.fr 42 kY (dh 42 []) (dZ [.ptr<|some (270,0)])<|aj (aq++bf (ey ms cap)) 279) (.st 14<|.rn (qG ms.length cap 0) (aq++bf (ey ms cap++[(279,yT [])])) (qG ms.length cap 0) (oA ms cap []) 280 280 .no) (aC Tryd.f42) (fun y s _=>RA ms y s) (fun fr s1 _=>fr=oY ms.length cap 0/\s1=cw ms cap []):=by as_aux_lemma=>kernel_rfl):
 du B 271 ms ⟨42,dZ [.ptr<|some (270,0)],kY,(dh 42 []),[],none⟩ (aj (aq++bf (ey ms cap)) 279):=
 Dt mc (fun fr s1 _ hC=>by obtain⟨rfl,rfl⟩:=hC;exact H) _ ⟨rfl,rfl,Fe (fz:=[]) ae ae dV (fun r hr ht p hp=>by
  simp only[qG,Ty,TV,or_false] at hp;rcases hp with rfl|rfl|rfl|rfl
  ·exact⟨by unfold top;omega,_,mi 0,(aZ.map<|hr 279 ae).z⟩
  ·exact⟨by unfold top;omega,_,mi 1,(aZ.slice<|hr 271 ae).z⟩
  ·exact⟨by unfold top;omega,_,mi 2,vi⟩
  ·exact⟨by unfold top;omega,_,mi 3,vi⟩) (fun r hr ht=>Q9 h ae hr fun p hp=>by
   rw[TC] at hp;subst hp;exact⟨by show 279<280;omega,rfl,_,TC.2 rfl,Qf,Q3 UD⟩) (fun p hp=>by cases hp),rfl,rfl⟩ k cf
theorem RK(mc:Mt LA B)(hd:eK d)(hm:eK<|ms.getD i [])(H:du B 271 ms (oY ms.length cap<|i+1)<|cw ms cap<|fM d<|ms.getD i [])(hi:272+i<279)(hk:nu 270 dk dK (cw ms cap d)=true:=by as_aux_lemma=>kernel_rfl)(ha:Tv 279 (de 270 dk dK<|cw ms cap d).nx=true:=by as_aux_lemma=>kernel_rfl)(hb:Tv (272+i) (de 270 dk dK<|cw ms cap d).nx=true:=by as_aux_lemma=>kernel_rfl)(g1:(de 270 dk dK<|cw ms cap d).h.get 279=some (bE d):=by as_aux_lemma=>kernel_rfl)(g2:(de 270 dk dK<|cw ms cap d).h.get (272+i)=some (bE<|ms.getD i []):=by as_aux_lemma=>kernel_rfl)(k:(ba pg (sp LA) FU 6 (.fn 59) [.map<|some 279,.map<|some<|272+i] (cw ms cap d)= .ok (.tuple []) (SG 279 (272+i) d (ms.getD i [])<|cw ms cap d)/\((qG ms.length cap<|i+1).map (fun q=>some q.2)=(qG ms.length cap<|i+1).map (fun q=>some q.2))/\((oA ms cap<|fM d<|ms.getD i []).map (fun q=>q.2)=(oA ms cap<|fM d<|ms.getD i []).map (fun q=>q.2))/\(oY ms.length cap (i+1)=oY ms.length cap (i+1)/\cw ms cap (fM d<|ms.getD i [])=cw ms cap (fM d<|ms.getD i [])))=
 wp (pM LA) 900 6 (.fr 42 kY KA (aA<|qG ms.length cap i)<|cw ms cap d) (.st 9<|.rg<|.go 2<|.cu (.tuple []) (SG 279 (272+i) d (ms.getD i [])<|cw ms cap d)<|.en<|.st 3<|.ls (qG ms.length cap<|i+1) (oA ms cap<|fM d<|ms.getD i []) 280 .no) (aC Tryd.f42) (fun y s _=>RA ms y s) (fun fr s1 _=>fr=oY ms.length cap (i+1)/\s1=cw ms cap (fM d<|ms.getD i [])):=by as_aux_lemma=>kernel_rfl):
 du B 271 ms (oY ms.length cap i) (cw ms cap d):=
 Dt mc (fun fr s1 _ hC=>by obtain⟨rfl,rfl⟩:=hC;exact H) _ ⟨WL (P:=pg) (sp:=sp LA) aV hk ae ha hb HW HW g1 g2 hd hm,rfl,rfl,rfl,rfl⟩ k cf
theorem agv{l:bp}(h:i<l.length):l.getD i []∈l:=by rw[T9,TE h];exact VD h
theorem O7(mc:Mt LA B)(h:dz ms)(hd:eK d)(hi:i<ms.length)(H:du B 271 ms (oY ms.length cap<|i+1)<|cw ms cap<|fM d<|ms.getD i []):du B 271 ms (oY ms.length cap i)<|cw ms cap d:=by
 have hm:=h.2 _<|agv hi;have h7:=h.1.2;rcases(Hw h.1).imp (fun q=>iQ ⟨h.1.1,q⟩) id with(⟨m0,rfl⟩|⟨m0,m1,rfl⟩|⟨m0,m1,m2,rfl⟩|⟨m0,m1,m2,m3,rfl⟩|⟨m0,m1,m2,m3,m4,rfl⟩|⟨m0,m1,m2,m3,m4,m5,rfl⟩)|⟨m0,m1,m2,m3,m4,m5,m6,rfl⟩
 all_goals
  simp only[TL,Ub] at hi;obtain rfl|rfl|rfl|rfl|rfl|rfl|rfl:i=0\/i=1\/i=2\/i=3\/i=4\/i=5\/i=6:=by omega
  all_goals first|(exfalso;omega)|exact RK mc hd hm H ae
def KN:List Item:=[.code<|aL pg 42 [1,1,1,1,1,0,1,0,0,1],.inLoop<|aL pg 42 [1,1,1,1,1,0,1,0,0],.inBlock 2,.code<|aL pg 42 [1,1,1,1,1,1]]
def eD(t:Tr AV):AF:=⟨42,t,kY,.code (aL pg 42 [1,1,1,1,1,0,1,0,0,0])::KN,[],none⟩
def ga(t:Tr AV)(v:AV)(b:Bool):AF:=⟨42,(t.put 27<|some v).put 28<|some<|.bool b,kY,KN,[],none⟩
def oL(ms:bp)(cap:cx)(D left:List<|Int×Int)(cur:Option<|AV×AV):List<|Nat×ah:=ey ms cap++[(279,.iT),(280,.iter 279 (cJ D) false (cJ left) cur)]
def oO:List (Int×Int)->List (Nat×ah)
 |[]=>[]
 |p::r=>[(281,az aO<|p::r)]
def alh:List (Int×Int)->AV
 |[]=>.slice none 0<|.known 0
 |p::r=>.slice (some (281,0)) (p::r).length<|.au (p::r).length 2
def nO:List (Int×Int)->Nat
 |[]=>281
 |_::_=>282
def iG(ms:bp)(cap:cx)(D left:List<|Int×Int)(cur:Option<|AV×AV)(out:List<|Int×Int):AS:=aj (aq++bf (oL ms cap D left cur++oO out))<|nO out
def fU(out:List<|Int×Int):List<|Nat×AV:=[(3,.map<|some 279),(6,alh out),(25,.map<|some 279),(26,.ptr<|some (280,0))]
def vD:Oper:=(opsOf<|aL pg 42 [1,1,1,1,1,0,1,0,0,0]).toList.headD default
def u9:Array Oper:=opsOf<|aL pg 42 [1,1,1,1,1,0,1,0,0,0]
def uN:List Oper:=(opsOf<|aL pg 42 [1,1,1,1,1,0,1,0,0,0]).toList.tail
def nV:Env:=y8 pg 270 dK dk LA 281 true
theorem asks(t:Tr AV):BN (eD t)=some (.tmp 26,vD,u9,uN,KN):=by kernel_rfl
def fV(ms:bp)(cap:cx)(D out:List<|Int×Int):AS:=aj (aq++(bf (ey ms cap++[(279,bE D)])++((280,none)::bf (oO out))))<|nO out
theorem wE{p:bp->Prop}(h:dz ms)(h1:∀m0,p [m0])(h2:∀m0 m1,p [m0,m1])(h3:∀m0 m1 m2,p [m0,m1,m2])(h4:∀m0 m1 m2 m3,p [m0,m1,m2,m3])(h5:∀m0 m1 m2 m3 m4,p [m0,m1,m2,m3,m4])(h6:∀m0 m1 m2 m3 m4 m5,p [m0,m1,m2,m3,m4,m5])(h7:∀m0 m1 m2 m3 m4 m5 m6,p [m0,m1,m2,m3,m4,m5,m6]):p ms:=by
 rcases(Hw h.1).imp (fun q=>iQ ⟨h.1.1,q⟩) id with(⟨m0,rfl⟩|⟨m0,m1,rfl⟩|⟨m0,m1,m2,rfl⟩|⟨m0,m1,m2,m3,rfl⟩|⟨m0,m1,m2,m3,m4,rfl⟩|⟨m0,m1,m2,m3,m4,m5,rfl⟩)|⟨m0,m1,m2,m3,m4,m5,m6,rfl⟩
 ·exact h1 _
 ·exact h2 _ _
 ·exact h3 _ _ _
 ·exact h4 _ _ _ _
 ·exact h5 _ _ _ _ _
 ·exact h6 _ _ _ _ _ _
 ·exact h7 _ _ _ _ _ _ _
section
variable {D left out:List<|Int×Int} {cur:Option<|AV×AV} {k v:Int}
theorem YF(h:dz ms):sb (eD<|aA<|fU out) (.tmp 26) (iG ms cap D left cur out)= .ok (280,.iter 279 (cJ D) false (cJ left) cur) (iG ms cap D left cur out):=by revert h;intro h;cases out<;>(refine wE (p:=fun ms=>sb (eD<|aA<|fU _) (.tmp 26) (iG ms cap D left cur _)= .ok (280,.iter 279 (cJ D) false (cJ left) cur) (iG ms cap D left cur _)) h ?_ ?_ ?_ ?_ ?_ ?_ ?_<;>intros<;>kernel_rfl)
theorem ajP(h:dz ms){Tu:aJ}:og pg Tu (eD<|aA<|fU out) 280 279 (cJ D) false vD u9 uN KN (iG ms cap D left cur out)= .ok (ga (aA<|fU out) (.tuple [.bool false]) false) (fV ms cap D out):=by cases out<;>(refine wE (p:=fun ms=>og pg Tu (eD<|aA<|fU _) 280 279 (cJ D) false vD u9 uN KN (iG ms cap D left cur _)= .ok (ga (aA<|fU _) (.tuple [.bool false]) false) (fV ms cap D _)) h ?_ ?_ ?_ ?_ ?_ ?_ ?_<;>intros<;>kernel_rfl)
theorem isA(h:dz ms){Tu:aJ}:oi pg Tu (eD<|aA<|fU out) 280 (.iter 279 (cJ D) false (cJ r)<|some (.int .i64 k,.int .i64 v)) vD u9 uN KN (.tuple [.bool true,.int .i64 k,.int .i64 v]) (iG ms cap D left cur out)= .ok (ga (aA<|fU out) (.tuple [.bool true,.int .i64 k,.int .i64 v]) true) (iG ms cap D r (some (.int .i64 k,.int .i64 v)) out):=by cases out<;>(refine wE (p:=fun ms=>oi pg Tu (eD<|aA<|fU _) 280 (.iter 279 (cJ D) false (cJ r)<|some (.int .i64 k,.int .i64 v)) vD u9 uN KN (.tuple [.bool true,.int .i64 k,.int .i64 v]) (iG ms cap D left cur _)= .ok (ga (aA<|fU _) (.tuple [.bool true,.int .i64 k,.int .i64 v]) true) (iG ms cap D r (some (.int .i64 k,.int .i64 v)) _)) h ?_ ?_ ?_ ?_ ?_ ?_ ?_<;>intros<;>kernel_rfl)
end
def CM(l0:List<|Nat×AV)(o0:List<|Nat×Option ah)(n:Nat):yW:=fun fr s _=>(fr.fn=42/\fr.nt=kY/\fr.todo=(eD .nil).todo/\fr.defers=[]/\fr.round=none)/\l0.map (fun q=>fr.tmps.get q.1)=l0.map (fun q=>some q.2)/\o0.map (fun q=>s.h.get q.1)=o0.map (fun q=>q.2)/\s.nx=n
abbrev MX(l0:List<|Nat×AV)(o0:List<|Nat×Option ah)(n:Nat):Prop:=((eD .nil).fn=42/\(eD .nil).nt=kY/\(eD .nil).todo=(eD .nil).todo/\(eD .nil).defers=[]/\(eD .nil).round=none)/\(l0.map (fun q=>some q.2)=l0.map (fun q=>some q.2))/\(o0.map (fun q=>q.2)=o0.map (fun q=>q.2))/\n=n
theorem mx{l0:List<|Nat×AV}{n:Nat}:MX l0 o0 n:=⟨⟨rfl,rfl,rfl,rfl,rfl⟩,rfl,rfl,rfl⟩
theorem Pe{α β:Type}{f g:α->β}:∀{l:List α},l.map f=l.map g->∀p∈l,f p=g p
 |a::l,h,p,hp=>by
  simp only[T0,TQ] at h;rcases Ty.1 hp with rfl|hp
  ·exact h.1
  ·exact Pe h.2 p hp
def lH(a len:Nat):List<|Nat×AV:=[(3,.map<|some 279),(6,.slice (some (a,0)) len<|.au len 2),(25,.map<|some 279),(26,.ptr<|some (280,0))]
def oM(ms:bp)(cap:cx)(D left:List<|Int×Int)(cur:Option<|AV×AV):List<|Nat×Option ah:=aq++bf (oL ms cap D left cur)
theorem X3{l:List<|Int×Int}:rr<|cJ l:=fun p hp=>by obtain⟨q,_,rfl⟩:=TI.1 hp;exact⟨_,_,rfl⟩
section
variable {D left out:List<|Int×Int} {k v:Int}
theorem X4(h:dz ms):∀p∈oM ms cap D left (some (.int .i64 k,.int .i64 v)),p.1<281/\∀y,p.2=some y->Fix 281 (oM ms cap D left<|some (.int .i64 k,.int .i64 v)) y:=fun p hp=>by
 have hp':=hp;unfold oM oL at hp;rcases TP.1 hp with hp|hp
 ·refine⟨by have:=(yN (fz:=[]) (r:=id) (fun _ _=>rfl) p hp).1;omega,fun y hy=>.inl ⟨((yN (fz:=[]) (r:=id) (fun _ _=>rfl) p hp).2 y hy).1,fun r hr _=>((yN (fun k hk=>hr k ae) p hp).2 y hy).2⟩⟩
 ·rw[x8] at hp;obtain⟨q,hq,rfl⟩:=TI.1 hp;rcases TP.1 hq with hq|hq
  ·obtain⟨a,b,_⟩:=Qu h (fz:=[]) (r:=id) (fun _ _=>rfl) q hq;refine⟨by show q.1<281;omega,fun y hy=>?_⟩;cases hy;exact .inl ⟨b,fun r hr _=>(Qu h (fun k hk=>hr k ae) q hq).2.2⟩
  ·simp only[Ty,TV,or_false] at hq;rcases hq with rfl|rfl
   ·exact⟨by show 279<281;omega,fun y hy=>by cases hy;exact .inr<|.inl rfl⟩
   ·refine⟨by show 280<281;omega,fun y hy=>?_⟩;cases hy;refine .inr (.inr ⟨279,_,_,_,_,rfl,by omega,?_,X3,X3,fun x hx=>?_⟩)
    ·unfold oM oL;exact TU _ (by rw[x8];exact TI.2 ⟨(279,.iT),TU _ TA,rfl⟩)
    ·cases hx;intro p hp;rw[TC] at hp;subst hp;exact⟨_,_,rfl⟩
theorem ajQ{p:Int×Int}{cur:Option<|AV×AV}:iG ms cap D left cur (p::r)=aj (oM ms cap D left cur++[(281,some<|az aO<|p::r)]) 282:=by unfold iG oM oO nO;rw[x8,x8,Vm, ←Um];rfl
theorem mvA(h:dz ms){q:Int×Int}{a n:Nat}(ha:281<=a/\a<290)(hn:n<290)(hl:(q::r).length<=1000000)(H:du B 281 ms (eD<|aA<|fU<|q::r)<|iG ms cap D left (some (.int .i64 k,.int .i64 v))<|q::r):
 ∀fr s p,CM (lH a (q::r).length) (oM ms cap D left (some (.int .i64 k,.int .i64 v))++[(a,some<|az aO<|q::r)]) n fr s p->du B 281 ms fr s:=by
 rintro ⟨_,t,_,_,_,_⟩ s _ ⟨⟨rfl,rfl,rfl,rfl,rfl⟩,c1,c2,rfl⟩;rw[ajQ] at H;have c2:=Pe c2;refine av.mv (a:=a) (x:=az aO<|q::r) (os:=oM ms cap D left<|some (.int .i64 k,.int .i64 v)) (l0:=lH a (q::r).length) (l:=fU<|q::r) (TO gW ae) dV ⟨ha.1,by unfold top;omega⟩ dV (Pe c1) (fun p hp=>c2 p<|T7 _ hp) (c2 _<|TU _<|TC.2 rfl) (fun p hp=>(X4 h p hp).1) (fun p hp=>?_) (fun f r1 r2 r3 p hp=>?_) (fun p hp=>(X4 h p hp).2) ⟨rfl,fun f hf=>?_⟩ H
 ·simp only[fU,Ty,TV,or_false] at hp;rcases hp with rfl|rfl|rfl|rfl
  ·show 3<top;unfold top;omega
  ·show 6<top;unfold top;omega
  ·show 25<top;unfold top;omega
  ·show 26<top;unfold top;omega
 ·simp only[fU,Ty,TV,or_false] at hp;rcases hp with rfl|rfl|rfl|rfl
  ·exact⟨_,mi 0,(aZ.map<|r1 279 ae).z⟩
  ·exact⟨_,mi 1,(aZ.slice r3).z⟩
  ·exact⟨_,mi 2,(aZ.map<|r1 279 ae).z⟩
  ·exact⟨_,mi 3,(aZ.ptr<|r1 280 ae).z⟩
 ·exact(lh.az (fun x=>⟨rfl,rfl⟩)<|GP hl).z
end
section
variable {D left out:List<|Int×Int} {k v:Int}
theorem QZ(mc:Mt LA B)(h:dz ms)(H:du B 281 ms (eD<|aA<|fU [(k,v)])<|iG ms cap D left (some (.int .i64 k,.int .i64 v)) [(k,v)]):du B 281 ms (ga (aA<|fU []) (.tuple [.bool true,.int .i64 k,.int .i64 v]) true)<|iG ms cap D left (some (.int .i64 k,.int .i64 v)) []:=by have hC:=mvA (cap:=cap) (D:=D) (left:=left) h (q:=(k,v)) (r:=[]) (a:=282) (n:=283) ae ae (by simp) H;clear H;have key:∀x,x=wp nV 900 6 (.fr 42 kY KN (ga (aA<|fU []) (.tuple [.bool true,.int .i64 k,.int .i64 v]) true).tmps<|iG ms cap D left (some (.int .i64 k,.int .i64 v)) []) (.st 10<|.cut .no) (aC Tryd.f42) (fun y s _=>RA ms y s) (CM (lH 282 1) (oM ms cap D left (some (.int .i64 k,.int .i64 v))++[(282,some<|az aO [(k,v)])]) 283)->x->du B 281 ms (ga (aA<|fU []) (.tuple [.bool true,.int .i64 k,.int .i64 v]) true) (iG ms cap D left (some (.int .i64 k,.int .i64 v)) []):=fun x e hx=>wp_cut (E:=nV) fw rfl bR mc.2.2.1 mc.2.2.2 (TO gW ae) rfl mc.1 hC 900 _ hx e cQ;refine key (MX (lH 282 1) (oM ms cap D left (some (.int .i64 k,.int .i64 v))++[(282,some<|az aO [(k,v)])]) 283) ?_ mx;clear key hC;refine wE (p:=fun ms=>MX (lH 282 1) (oM ms cap D left (some (.int .i64 k,.int .i64 v))++[(282,some<|az aO [(k,v)])]) 283=wp nV 900 6 (.fr 42 kY KN (ga (aA<|fU []) (.tuple [.bool true,.int .i64 k,.int .i64 v]) true).tmps<|iG ms cap D left (some (.int .i64 k,.int .i64 v)) []) (.st 10<|.cut .no) (aC Tryd.f42) (fun y s _=>RA ms y s) (CM (lH 282 1) (oM ms cap D left (some (.int .i64 k,.int .i64 v))++[(282,some<|az aO [(k,v)])]) 283)) h ?_ ?_ ?_ ?_ ?_ ?_ ?_<;>intros<;>kernel_rfl
end
section
variable {D left out:List<|Int×Int} {k v:Int}
abbrev AX(l:List<|Int×Int)(c:Int×Int)(X:Prop):Prop:=l.length=l.length/\l.length=l.length/\some (az aO l)=some (az aO l)/\some (ah.cells (aO c).length (Tr.fill (aO c) 0 .nil) [])=some (ah.cells (aO c).length (Tr.fill (aO c) 0 .nil) [])/\(∀x,(aO x).length=2/\(aO x).all AV.bM=true)/\2*(l.length+1)*16+4096*16<=room/\(l.length+1)*2<=Rn.top/\X
theorem Q0{q:Int×Int}(mc:Mt LA B)(h:dz ms)(hl:(q::r).length<100000)(H:du B 281 ms (eD<|aA<|fU<|q::(r++[(k,v)]))<|iG ms cap D left (some (.int .i64 k,.int .i64 v))<|q::(r++[(k,v)])):du B 281 ms (ga (aA<|fU<|q::r) (.tuple [.bool true,.int .i64 k,.int .i64 v]) true)<|iG ms cap D left (some (.int .i64 k,.int .i64 v))<|q::r:=by
 have e1:(q::(r++[(k,v)])).length=(q::r).length+1:=by simp
 have hC:=mvA (cap:=cap) (D:=D) (left:=left) h (q:=q) (r:=r++[(k,v)]) (a:=283) (n:=284) ae ae ae H;clear H;have key:∀x,x=wp nV 900 6 (.fr 42 kY KN (ga (aA<|fU<|q::r) (.tuple [.bool true,.int .i64 k,.int .i64 v]) true).tmps<|iG ms cap D left (some (.int .i64 k,.int .i64 v))<|q::r) (.st 6<|.rg<|.go 5<|.ap (Int×Int) aO (q::r) (k,v)<|.go 1<|.en<|.st 3<|.cut .no) (aC Tryd.f42) (fun y s _=>RA ms y s) (CM (lH 283 ((q::r)++[(k,v)]).length) (oM ms cap D left (some (.int .i64 k,.int .i64 v))++[(283,some<|az aO<|(q::r)++[(k,v)])]) 284)->x->du B 281 ms (ga (aA<|fU<|q::r) (.tuple [.bool true,.int .i64 k,.int .i64 v]) true) (iG ms cap D left (some (.int .i64 k,.int .i64 v))<|q::r):=fun x e hx=>wp_cut (E:=nV) fw rfl bR mc.2.2.1 mc.2.2.2 (TO gW ae) rfl mc.1 hC 900 _ hx e cQ;refine key (AX (q::r) (k,v)<|MX (lH 283 ((q::r)++[(k,v)]).length) (oM ms cap D left (some (.int .i64 k,.int .i64 v))++[(283,some<|az aO<|(q::r)++[(k,v)])]) 284) ?_<|Sv aO (q::r) (k,v) (K:=2) (ln:=16) Zr (by unfold room;omega) dV<|mx (l0:=lH 283 ((q::r)++[(k,v)]).length) (o0:=oM ms cap D left (some (.int .i64 k,.int .i64 v))++[(283,some<|az aO<|(q::r)++[(k,v)])]) (n:=284);clear key hC;refine wE (p:=fun ms=>AX (q::r) (k,v) (MX (lH 283 ((q::r)++[(k,v)]).length) (oM ms cap D left (some (.int .i64 k,.int .i64 v))++[(283,some<|az aO<|(q::r)++[(k,v)])]) 284)=wp nV 900 6 (.fr 42 kY KN (ga (aA<|fU<|q::r) (.tuple [.bool true,.int .i64 k,.int .i64 v]) true).tmps<|iG ms cap D left (some (.int .i64 k,.int .i64 v))<|q::r) (.st 6<|.rg<|.go 5<|.ap (Int×Int) aO (q::r) (k,v)<|.go 1<|.en<|.st 3<|.cut .no) (aC Tryd.f42) (fun y s _=>RA ms y s) (CM (lH 283 ((q::r)++[(k,v)]).length) (oM ms cap D left (some (.int .i64 k,.int .i64 v))++[(283,some<|az aO<|(q::r)++[(k,v)])]) 284)) h ?_ ?_ ?_ ?_ ?_ ?_ ?_<;>intros<;>kernel_rfl
end
def ma(v:AV):AF:=⟨42,aA [(2,v)],kY,(dh 42 [1,1,1,1,1,1,1,1]),[],none⟩
def oE(ms:bp)(cap:cx):List<|Nat×Option ah:=aq++bf (ey ms cap++[])
theorem ali(mc:Mt LA B)(h:dz ms)(hc:pC ms.length cap):du B 281 ms (ma<|ar aO<|eC<|allM ms)<|aj (oE ms cap) 281:=mM (E:=nV) fw rfl bR mc.2.2.1 mc.2.2.2 900 (.rt 1 .no) (T:=rz 3 (ar aO<|eC<|allM ms) (bZ ms) (aj (oE ms cap) 281)<|ar aO<|eC<|allM ms) (by unfold oE;rw[U8];exact Mr 281 h hc _)
abbrev Ga(ms:bp)(cap:cx)(v v':AV)(more:List<|Nat×ah)(aP:Nat):Prop:=(([(2,v)]:List<|Nat×AV).map (fun q=>some q.2)=([(2,v)]:List<|Nat×AV).map (fun q=>some q.2))/\((aq++bf (ey ms cap++more)).map (fun q=>q.2)=(aq++bf (ey ms cap++more)).map (fun q=>q.2))/\fy FU 281 aP [(2,v)] (aq++bf (ey ms cap++more)) [(2,v')] (oE ms cap) 281/\(ma v'=ma v'/\aj (oE ms cap) 281=aj (oE ms cap) 281)
section
variable {D left out:List<|Int×Int} {k v:Int}
theorem Q1(mc:Mt LA B)(h:dz ms)(H:du B 281 ms (ma<|ar aO [])<|aj (oE ms cap) 281):du B 281 ms (ga (aA<|fU []) (.tuple [.bool false]) false)<|fV ms cap D []:=by have key:∀x,x=wp nV 900 6 (.fr 42 kY KN (ga (aA<|fU []) (.tuple [.bool false]) false).tmps<|fV ms cap D []) (.st 4<|.rg<|.go 1<|.cu (.tuple []) (fV ms cap D [])<|.en<|.st 2<|.rn [(2,.slice none 0<|.known 0)] (oE ms cap) [(2,ar aO [])] (oE ms cap) 281 281 .no) (aC Tryd.f42) (fun y s _=>RA ms y s) (fun fr s1 _=>fr=ma (ar aO [])/\s1=aj (oE ms cap) 281)->x->du B 281 ms (ga (aA<|fU []) (.tuple [.bool false]) false) (fV ms cap D []):=fun x e hx=>wp_cut (E:=nV) fw rfl bR mc.2.2.1 mc.2.2.2 (TO gW ae) rfl mc.1 nC 900 _ hx e cQ;refine key (ba pg (sp LA) FU 6 (.fn 60) [.slice none 0<|.known 0,.func (.func 61) [] []] (fV ms cap D [])= .ok (.tuple []) (fV ms cap D [])/\Ga ms cap (.slice none 0<|.known 0) (ar aO []) [] 281) ?_ ⟨aeV (P:=pg) (sp:=sp LA) aV,rfl,rfl,Fe (fz:=[]) ae ae dV (fun r hr ht p hp=>by rw[TC] at hp;subst hp;exact⟨by show 2<top;unfold top;omega,_,mi 0,B0⟩) (fun r hr ht=>Q9 h ae hr fun p hp=>by cases hp) (fun p hp=>by cases hp),rfl,rfl⟩;clear key H;refine wE (p:=fun ms=>(ba pg (sp LA) FU 6 (.fn 60) [.slice none 0<|.known 0,.func (.func 61) [] []] (fV ms cap D [])= .ok (.tuple []) (fV ms cap D [])/\Ga ms cap (.slice none 0<|.known 0) (ar aO []) [] 281)=wp nV 900 6 (.fr 42 kY KN (ga (aA<|fU []) (.tuple [.bool false]) false).tmps<|fV ms cap D []) (.st 4<|.rg<|.go 1<|.cu (.tuple []) (fV ms cap D [])<|.en<|.st 2<|.rn [(2,.slice none 0<|.known 0)] (oE ms cap) [(2,ar aO [])] (oE ms cap) 281 281 .no) (aC Tryd.f42) (fun y s _=>RA ms y s) (fun fr s1 _=>fr=ma (ar aO [])/\s1=aj (oE ms cap) 281)) h ?_ ?_ ?_ ?_ ?_ ?_ ?_<;>intros<;>kernel_rfl
abbrev S0(ms:bp)(cap:cx)(D out:List<|Int×Int):AS:=fN 281 (some<|az aO<|eC out)<|aU 281<|fV ms cap D out
abbrev plZ(ms:bp)(cap:cx)(D out:List<|Int×Int):Pl:=.st 4<|.rg<|.go 1<|.cu (.tuple []) (S0 ms cap D out)<|.en<|.st 2<|.rn [(2,.slice (some (281,0)) out.length<|.au out.length 2)] (aq++bf (ey ms cap++[(281,az aO<|eC out)])) [(2,ar aO<|eC out)] (oE ms cap) 282 281 .no
theorem Q2{q:Int×Int}(mc:Mt LA B)(h:dz ms)(hl:(q::r).length<100000)(nd:((q::r).map (·.1)).Nodup)(H:du B 281 ms (ma<|ar aO<|eC<|q::r)<|aj (oE ms cap) 281):du B 281 ms (ga (aA<|fU<|q::r) (.tuple [.bool false]) false)<|fV ms cap D<|q::r:=by
 have key:∀x,x=wp nV 900 6 (.fr 42 kY KN (ga (aA<|fU<|q::r) (.tuple [.bool false]) false).tmps<|fV ms cap D<|q::r) (plZ ms cap D<|q::r) (aC Tryd.f42) (fun y s _=>RA ms y s) (fun fr s1 _=>fr=ma (ar aO<|eC<|q::r)/\s1=aj (oE ms cap) 281)->x->du B 281 ms (ga (aA<|fU<|q::r) (.tuple [.bool false]) false) (fV ms cap D<|q::r):=fun x e hx=>wp_cut (E:=nV) fw rfl bR mc.2.2.1 mc.2.2.2 (TO gW ae) rfl mc.1 nC 900 _ hx e cQ;have hz:∀fz:jl,∀f:Nat->Nat,(∀k,top<=k->f k=k)->(281,nm ((eC<|q::r).map aO).flatten,((eC<|q::r).map aO).flatten)∈fz->gE fz f (.slice (some (281,0)) (q::r).length<|.au (q::r).length 2) (ar aO<|eC<|q::r):=fun fz f hf hm=>by have:=BZ (cap:=.au (q::r).length 2) hm hf rfl;rw[BH] at this;exact this
 have hg:(fV ms cap D<|q::r).nx=282/\(fV ms cap D<|q::r).h.get 281=some (az aO<|q::r):=⟨rfl,by refine wE (p:=fun ms=>(fV ms cap D<|q::r).h.get 281=some (az aO<|q::r)) h ?_ ?_ ?_ ?_ ?_ ?_ ?_<;>intros<;>kernel_rfl⟩;refine key (ba pg (sp LA) FU 6 (.fn 60) [.slice (some (281,0)) (q::r).length<|.au (q::r).length 2,.func (.func 61) [] []] (fV ms cap D<|q::r)= .ok (.tuple []) (S0 ms cap D<|q::r)/\Ga ms cap (.slice (some (281,0)) (q::r).length<|.au (q::r).length 2) (ar aO<|eC<|q::r) [(281,az aO<|eC<|q::r)] 282) ?_ ⟨adK (P:=pg) (sp:=sp LA) aV (by rw[hg.1];rfl) HW hg.2 ae nd,rfl,rfl,Fe (fz:=[(281,nm ((eC<|q::r).map aO).flatten,((eC<|q::r).map aO).flatten)]) ae ae dV (fun r' hr ht p hp=>by
  rw[TC] at hp;subst hp;exact⟨by show 2<top;unfold top;omega,_,mi 0,hz _ _ ht<|TC.2 rfl⟩) (fun r hr ht=>Q9 h ae hr fun p hp=>by cases hp) (fun p hp=>by
  rw[TC] at hp;subst hp;exact⟨Tz _,Ei vd (by rw[BH];unfold top;omega) 281 dV<|TU _ (by rw[x8];exact TI.2 ⟨(281,_),TU _ TA,rfl⟩)⟩),rfl,rfl⟩
 clear key H hg hz;refine wE (p:=fun ms=>(ba pg (sp LA) FU 6 (.fn 60) [.slice (some (281,0)) (q::r).length<|.au (q::r).length 2,.func (.func 61) [] []] (fV ms cap D<|q::r)= .ok (.tuple []) (S0 ms cap D<|q::r)/\Ga ms cap (.slice (some (281,0)) (q::r).length<|.au (q::r).length 2) (ar aO<|eC<|q::r) [(281,az aO<|eC<|q::r)] 282)=wp nV 900 6 (.fr 42 kY KN (ga (aA<|fU<|q::r) (.tuple [.bool false]) false).tmps<|fV ms cap D<|q::r) (plZ ms cap D<|q::r) (aC Tryd.f42) (fun y s _=>RA ms y s) (fun fr s1 _=>fr=ma (ar aO<|eC<|q::r)/\s1=aj (oE ms cap) 281)) h ?_ ?_ ?_ ?_ ?_ ?_ ?_<;>intros<;>kernel_rfl
end
theorem adL{D out:List<|Int×Int}(hk:eK D)(hp:out.Perm D):eC out=eC D:=ang hk ((DW out).trans hp)<|Pd out
theorem adM{D out:List<|Int×Int}(mc:Mt LA B)(h:dz ms)(hc:pC ms.length cap)(hD:D=allM ms)(hk:eK D)(hp:out.Perm D)(hl:D.length<100000):du B 281 ms (ga (aA<|fU out) (.tuple [.bool false]) false)<|fV ms cap D out:=by
 have e:eC out=eC (allM ms):=by rw[adL hk hp,hD]
 have H:=ali mc h hc;rw[←e] at H;cases out with
 |nil=>exact Q1 mc h (by rw[show ar aO ([]:List<|Int×Int)=ar aO (eC []) by unfold eC;rw[List.mergeSort_nil]];exact H)
 |cons q r=>exact Q2 mc h (by rw[hp.length_eq];exact hl) ((hp.map (·.1)).nodup_iff.2 hk) H
theorem ajR{D:List<|Int×Int}(mc:Mt LA B)(h:dz ms)(hc:pC ms.length cap)(hD:D=allM ms)(hk:eK D)(hl:D.length<100000):∀(n:Nat) (left out:List<|Int×Int) (cur:Option<|AV×AV),left.length=n->D.Perm (out++left)->
 du B 281 ms (eD<|aA<|fU out) (iG ms cap D left cur out):=by
 have n281:∀(D left:List<|Int×Int) cur out,281<=(iG ms cap D left cur out).nx:=fun _ _ _ out=>by
  show 281<=nO out;cases out with
  |nil=>exact Tz _
  |cons _ _=>show 281<=282;omega
 intro n;induction n with
 |zero=>intro left out cur hn hp;have kQ:=UY hn;subst kQ;rw[U8] at hp;exact av.next mc.2.2.1 mc.2.2.2 (asks _) (n281 _ _ _ _) (YF h) (fun _=>⟨_,_,ajP h,adM mc h hc hD hk hp.symm hl⟩) (fun x r h=>by cases h)
 |succ n ih=>
  intro left out cur hn hp;refine av.next mc.2.2.1 mc.2.2.2 (asks _) (n281 _ _ _ _) (YF h) (fun h=>by rw[Eu h] at hn;cases hn) fun x r hx=>?_;obtain⟨p,l',rfl,rfl,Dw⟩:=Jy hx;have hlen:l'.length=n:=by have:=Dw.length_eq;rw[TL] at this;omega
  have fI:D.Perm<|(out++[p])++l':=by rw[Um];exact hp.trans<|Dw.append_left out
  refine⟨_,_,isA h,?_⟩;have key:=ih l' (out++[p]) (some (.int .i64 p.1,.int .i64 p.2)) hlen fI;cases out with
  |nil=>exact QZ mc h key
  |cons q r=>exact Q0 mc h (by have:=hp.length_eq;rw[TM] at this;omega) key
def vK:AF:=⟨42,aA [(3,.map<|some 279)],kY,[.code<|aL pg 42 [1,1,1,1,0],.code<|aL pg 42 [1,1,1,1,1]],[],none⟩
theorem alj{D:List<|Int×Int}(mc:Mt LA B)(h:dz ms)(H:du B 271 ms (eD<|aA<|fU [])<|iG ms cap D D none []):du B 271 ms vK<|cw ms cap D:=by have key:∀x,x=wp (pM LA) 900 6 (.fr 42 kY vK.todo vK.tmps<|cw ms cap D) (.st 7<|.cut .no) (aC Tryd.f42) (fun y s _=>RA ms y s) (fun fr s1 _=>fr=eD (aA<|fU [])/\s1=iG ms cap D D none [])->x->du B 271 ms vK (cw ms cap D):=fun x e hx=>Dt mc (fun fr s1 _ hC=>by obtain⟨rfl,rfl⟩:=hC;exact H) _ hx e cf;refine key (eD (aA<|fU [])=eD (aA<|fU [])/\iG ms cap D D none []=iG ms cap D D none []) ?_ ⟨rfl,rfl⟩;clear key H;refine wE (p:=fun ms=>(eD (aA<|fU [])=eD (aA<|fU [])/\iG ms cap D D none []=iG ms cap D D none [])=wp (pM LA) 900 6 (.fr 42 kY vK.todo vK.tmps<|cw ms cap D) (.st 7<|.cut .no) (aC Tryd.f42) (fun y s _=>RA ms y s) (fun fr s1 _=>fr=eD (aA<|fU [])/\s1=iG ms cap D D none [])) h ?_ ?_ ?_ ?_ ?_ ?_ ?_<;>intros<;>kernel_rfl
abbrev LsO(ms:bp)(cap:cx)(D:List<|Int×Int):Prop:=(([(3,.map<|some 279)]:List<|Nat×AV).map (fun q=>some q.2)=([(3,.map<|some 279)]:List<|Nat×AV).map (fun q=>some q.2))/\((oA ms cap D).map (fun q=>q.2)=(oA ms cap D).map (fun q=>q.2))/\(vK=vK/\cw ms cap D=cw ms cap D)
theorem alk{D:List<|Int×Int}(mc:Mt LA B)(h:dz ms)(H:du B 271 ms vK<|cw ms cap D):du B 271 ms (oY ms.length cap ms.length)<|cw ms cap D:=by have key:∀x,x=wp (pM LA) 900 6 (.fr 42 kY KA (aA<|qG ms.length cap ms.length)<|cw ms cap D) (.st 6<|.ls [(3,.map<|some 279)] (oA ms cap D) 280 .no) (aC Tryd.f42) (fun y s _=>RA ms y s) (fun fr s1 _=>fr=vK/\s1=cw ms cap D)->x->du B 271 ms (oY ms.length cap ms.length) (cw ms cap D):=fun x e hx=>Dt mc (fun fr s1 _ hC=>by obtain⟨rfl,rfl⟩:=hC;exact H) _ hx e cf;refine key (LsO ms cap D) ?_ ⟨rfl,rfl,rfl,rfl⟩;clear key H;refine wE (p:=fun ms=>LsO ms cap D=wp (pM LA) 900 6 (.fr 42 kY KA (aA<|qG ms.length cap ms.length)<|cw ms cap D) (.st 6<|.ls [(3,.map<|some 279)] (oA ms cap D) 280 .no) (aC Tryd.f42) (fun y s _=>RA ms y s) (fun fr s1 _=>fr=vK/\s1=cw ms cap D)) h ?_ ?_ ?_ ?_ ?_ ?_ ?_<;>intros<;>kernel_rfl
theorem go_says(mc:Mt LA B)(h:dz ms)(H:du B 271 ms (oY ms.length cap 0)<|cw ms cap []):du B 271 ms ⟨42,dZ [.ptr<|some (270,0)],kY,(dh 42 []),[],none⟩<|aj (aq++bf (ey ms cap)) 279:=by
 rcases(Hw h.1).imp (fun q=>iQ ⟨h.1.1,q⟩) id with(⟨m0,rfl⟩|⟨m0,m1,rfl⟩|⟨m0,m1,m2,rfl⟩|⟨m0,m1,m2,m3,rfl⟩|⟨m0,m1,m2,m3,m4,rfl⟩|⟨m0,m1,m2,m3,m4,m5,rfl⟩)|⟨m0,m1,m2,m3,m4,m5,m6,rfl⟩
 all_goals exact SZ mc h H
theorem anh(mc:Mt LA B)(h:dz ms)(H:du B 271 ms (oY ms.length cap ms.length)<|cw ms cap<|allM ms):∀(r:bp) (i:Nat) (d:List<|Int×Int),i<=ms.length->ms.drop i=r->eK d->r.foldl fM d=allM ms->du B 271 ms (oY ms.length cap i) (cw ms cap d)
 |[],i,d,hn,hr,hd,e=>by have hi:ms.length<=i:=UO.1 hr;have e:d=allM ms:=e;subst e;rw[Nat.le_antisymm hn hi];exact H
 |m::r,i,d,_,hr,hd,e=>by
  have hi:i<ms.length:=by
   by_cases q:i<ms.length
   ·exact q
   ·rw[Vc ae] at hr;cases hr
  have hm:ms.getD i []=m:=by have:=congrArg (fun q=>q[0]?) hr;simp only[Ue,UA,Ul] at this;rw[T9,this];rfl
  have kI:ms.drop (i+1)=r:=by have:=congrArg (UH 1) hr;rw[Up] at this;exact this
  exact O7 mc h hd hi<|anh mc h H r (i+1) (fM d<|ms.getD i []) hi kI (eK.merge hd) (by rw[hm];exact e)
theorem aeW(mc:Mt LA B)(h:dz ms)(hc:pC ms.length cap)(hl:(allM ms).length<100000):du B 271 ms ⟨42,dZ [.ptr<|some (270,0)],kY,(dh 42 []),[],none⟩<|aj (aq++bf (ey ms cap)) 279:=
 have hk:eK<|allM ms:=N7 UD
 go_says mc h (anh mc h (alk mc h<|alj mc h<|nA.Ms ae (fun _ _ _ _ q=>q)<|ajR mc h hc rfl hk hl _ (allM ms) [] none rfl<|UL _) ms 0 [] (TN _) rfl UD rfl)
end
def Ra:bp->List AV->Option AV
 |a,[]=>if(allM a).length<100000 then some (ar aO<|eC<|allM a) else none
 |_,_=>none
open Ie
def Rb:FuncId×KE:=(42,.raw<|pG 3<|px bZ Ra)
theorem aeX(hP:bY pg)(hs:Cl pg 60 61){L:bV}(h:aY L):aY<|Rb::L:=by
 refine J0 zt hP gW qR jT jb mU mA h (XW hP<|aeU dj hs) Tryd.func42 (body:=aL pg 42 []) aV aV fun v rest y e=>?_;obtain⟨a,rfl,e1⟩:=JE e;unfold Ra at e1;split at e1<;>(try split at e1)<;>cases e1;rename_i q;refine⟨aI.1 aV,fun L hx=>?_⟩;generalize hv:bZ a=v at hx;cases hx with
 |buf b hb cap hc=>have:=ua _ _ hv;subst this;exact⟨279,by omega,aI.1 aV,O4 hb,fun B mc=>aeW mc hb hc q⟩
end oJ
namespace sS
open cj fD
variable {P L:Nat} {i:Int}
def oZ(l:List Int)(ws:List<|Int×Int):List Int:=ws.foldl (fun l p=>l.set p.1.toNat p.2) l
theorem Ko:∀(ws:List<|Int×Int) (l:List Int),(oZ l ws).length=l.length
 |[],_=>rfl
 |p::ws,l=>(Ko ws<|l.set p.1.toNat p.2).trans T2
def KW:List Item:=[.code<|aL pg 20 [1,1,0,1,0,0],.inLoop<|aL pg 20 [1,1,0,1,0,0],.inBlock 0,.code<|aL pg 20 [1,1,1]]
abbrev S2:Nat:=max Tryd.f20.ntmps 2
def xQ(P L len:Nat)(i:Int):List<|Nat×AV:=[(5,.slice (some (271,0)) len<|.au len 1),(10,.ab P 0 L),(11,.int .i64 (L:Int)),(12,.int .i64 i)]
def qH(l:List Int):List<|Nat×Option ah:=[(271,some<|az encI l)]
def vL(P L len:Nat)(i:Int):AF:=⟨20,aA<|xQ P L len i,S2,KW,[],none⟩
def vM(l:List Int):AS:=aj (qH l) 272
abbrev tM(B:aE)(v:AV)(fr:AF)(s:AS):Prop:=av pg B 270 (Fin pg (aC Tryd.f20) fun y _=>y=v) fr s
abbrev LsW(P L len:Nat)(i:Int)(l:List Int):Prop:=((xQ P L len i).map (fun q=>some q.2)=(xQ P L len i).map (fun q=>some q.2))/\((qH l).map (fun q=>q.2)=(qH l).map (fun q=>q.2))/\(vL P L len i=vL P L len i/\vM l=vM l)
abbrev BkW(P L len:Nat)(i:Int)(l:List Int):Prop:=((xQ P L len i).map (fun q=>some q.2)=(xQ P L len i).map (fun q=>some q.2))/\((qH l).map (fun q=>q.2)=(qH l).map (fun q=>q.2))/\uU 272 (xQ P L len i) (qH l)/\(vL P L len i=vL P L len i/\vM l=vM l)
section
variable {B:aE} {v:AV}
theorem alm{len:Nat}{l:List Int}(hP:top<=P)(hl:l.length<=100000):uU 272 (xQ P L len i)<|qH l:=by
 intro r r1 r2;refine⟨fun p hp=>?_,fun p hp y hy=>?_⟩
 ·simp only[xQ,Ty,TV,or_false] at hp;rcases hp with rfl|rfl|rfl|rfl
  ·exact aZ.slice<|r1 271 ae
  ·exact aZ.ab (r2 _ hP) r2
  ·exact aZ.int _ _
  ·exact aZ.int _ _
 ·rw[qH,TC] at hp;subst hp;cases hy;exact lh.az (fun x=>⟨rfl,rfl⟩) (by rw[eI.length];unfold top;omega)
theorem SZ(mc:Mt [] B){l:List Int}{N o m:Nat}(hlen:l.length<=100000)(hf:top<=N/\cZ FU N o ((m+1)*1)=some (l.map encI).flatten/\m+1=l.length)(H:tM B v (vL P L ([]++l).length 0)<|vM<|[]++l):
 tM B v ⟨20,dZ [.ab N o<|m+1,.ab P 0 L],S2,(dh 20 []),[],none⟩ (aj aq 270):=
 wC mc (L:=[]) (C:=fun fr s1 _=>fr=vL P L ([]++l).length 0/\s1=vM ([]++l)) HU (.st 3<|.rg<|.go 1<|.il<|.st 8<|.rg<|.go 2<|.al Int encI [] l<|.go 1<|.en<|.rt 1<|.go 1<|.en<|.st 5<|.ls (xQ P L ([]++l).length 0) (qH<|[]++l) 272 .no) (IP encI [] l (K:=1) (ln:=8) hf (fun x=>⟨rfl,rfl⟩) Rw Rx (show LsW P L ([]++l).length 0 ([]++l) from⟨rfl,rfl,rfl,rfl⟩))
theorem aln(mc:Mt [] B){l:List Int}{len:Nat}{aw x c:Int}(hP:top<=P)(hlen:l.length<=100000)(hl:l.length=len)(h0:0<=i)(h1:i<(L:Int))(hL:L<=100000)(ha:0<=aw/\aw<(len:Int))(hc:l[aw.toNat]? =some c)(hx:cZ FU P (0+i.toNat*2+0) 2=some [.int .i64 aw,.int .i64 x])(H:tM B v (vL P L len<|i+1)<|vM<|l.set aw.toNat x):
 tM B v (vL P L len i) (vM l):=
 wC mc (L:=[]) (C:=fun fr s1 _=>fr=vL P L len (i+1)/\s1=vM (l.set aw.toNat x)) HU (.st 1<|.rg<|.fk (.en<|.st 6<|.rg<|.cm<|.cn [.int .i64 aw,.int .i64 x]<|.go 2<|.en<|.rg<|.go 5<|.ix<|.oU (az encI<|l.set aw.toNat x)<|.en<|.st 1<|.rg<|.vl (i6<|i+1)<|.go 1<|.en<|.st 1<|.bk (xQ P L len<|i+1) (qH<|l.set aw.toNat x) 272 .no) .no) (bq (i<(L:Int)) (fun _=>And.intro (show(0:Int)<=i from h0)<|ai (show i<(L:Int) from h1)<|ai hP<|ai hx<|ai (show(0:Int)<=aw from ha.1)<|ai (show aw<(len:Int) from ha.2)<|ai (G6 (enc:=encI) (K:=1) (fun _=>rfl) dV hc (c':=x) (r:=[.int .i64 x]) 0 rfl rfl rfl)<|ai (congrArg (AV.int .i64) (show IntKind.wrap .i64 (i+1)=i+1 from aaI ae)) (show BkW P L len (i+1) (l.set aw.toNat x) from⟨rfl,rfl,alm hP (by rw[T2];exact hlen),rfl,rfl⟩)) (fun h=>show False from h h1))
def No(l:List Int):AF:=⟨20,aA [(4,ar encI l)],S2,(dh 20 [1,1,1,1]),[],none⟩
theorem nw(mc:Mt [] B)(l:List Int):tM B (ar encI l) (No l)<|aj [] 270:=wS mc (L:=[]) (R:=fun y _=>y=ar encI l) (.rt 1 .no) (T:=ar encI l=ar encI l) rfl
theorem enW(mc:Mt [] B){l:List Int}{len:Nat}(hlen:l.length<=100000)(hl:l.length=len)(h1:(L:Int)<=i):tM B (ar encI l) (vL P L len i)<|vM l:=by subst hl;exact wC mc (L:=[]) (C:=fun fr s1 _=>fr=No l/\s1=aj [] 270) (fun fr s1 _ hC=>by obtain⟨rfl,rfl⟩:=hC;exact nw mc l) (.st 1<|.rg<|.fk .no<|.en<|.st 5<|.rn [(4,.slice (some (271,0)) l.length<|.au l.length 1)] (qH l) [(4,ar encI l)] [] 272 270 .no)<|bq (i<(L:Int)) (fun h=>show False by omega) (fun _=>show(([(4,.slice (some (271,0)) l.length<|.au l.length 1)]:List<|Nat×AV).map (fun q=>some q.2)=([(4,.slice (some (271,0)) l.length<|.au l.length 1)]:List<|Nat×AV).map (fun q=>some q.2))/\((qH l).map (fun q=>q.2)=(qH l).map (fun q=>q.2))/\fy FU 270 272 [(4,.slice (some (271,0)) l.length<|.au l.length 1)] (qH l) [(4,ar encI l)] [] 270/\(No l=No l/\aj [] 270=aj [] 270) from⟨rfl,rfl,KS (j:=4) (aP:=272) eI l rfl dV dV dV dV,rfl,rfl⟩)
end
def Ff(args:List AV)(v:AV):Prop:=∃(N o:Nat) (l:List Int) (ws:List<|Int×Int),args=[.ab N o l.length,ar aO ws]/\dP encI 1 (.ab N o l.length) l/\(1<=l.length/\l.length<=100000/\ws.length<=100000)/\(∀p∈ws,0<=p.1/\p.1<(l.length:Int))/\v=ar encI (oZ l ws)
theorem vd:kA 2 aO:=⟨fun _=>rfl,fun _=>rfl⟩
theorem amy{l m:List<|Int×Int}(h:ar aO l=ar aO m):l=m:=by
 have e:dP aO 2 (ar aO l) m:=by rw[h];exact dP.ar vd m
 exact dP.inj adG (dP.ar vd l) e
theorem Ff.bJ(args:List AV)(v v':AV)(h:Ff args v)(h':Ff args v'):v=v':=by
 obtain⟨N,o,l,ws,rfl,hl,_,_,rfl⟩:=h;obtain⟨N',o',l',S3,h1,kQ,_,_,rfl⟩:=h';injection h1 with h1 h2
 injection h2 with h2 _
 rw[h1] at hl;rw[hl.inj sa kQ,amy h2]
def YG:FuncId×KE:=(20,.val<|aK Ff)
theorem aeY(hP:bY pg){L:bV}(h:aY L):aY<|YG::L:=by
 refine gu hP h dj Tryd.func20 fun args v e=>?_;obtain⟨N,o,l,ws,rfl,hl,hlen,hw,rfl⟩:=fQ e;refine⟨aI.1 aV,fun B mc=>?_⟩;rw[←gX];obtain⟨m,hm⟩:∃m,l.length=m+1:=⟨l.length - 1,by omega⟩;have hf:cZ FU N o ((m+1)*1)=some (l.map encI).flatten:=by
  rcases GS eI.len hl with q|q
  ·rw[←hm];exact q
  ·rw[q] at hm;cases hm
 have hN:=hl.len.2.1;have key:∀(r:List<|Int×Int) (i:Nat) (l':List Int),ws.drop i=r->l'.length=l.length->oZ l' r=oZ l ws->
  tM B (ar encI<|oZ l ws) (vL (nm (ws.map aO).flatten) ws.length l.length i) (vM l'):=by
  intro r;induction r with
  |nil=>intro i l' hr h1 h2;have hi:ws.length<=i:=UO.1 hr;have h2:l'=oZ l ws:=h2;rw[←h2];exact enW mc ae h1 ae
  |cons p r ih=>
   intro i l' hr h1 h2;have hl:i<ws.length:=by
    by_cases q:i<ws.length
    ·exact q
    ·rw[Vc ae] at hr;cases hr
   have ha:ws[i]? =some p:=by have:=congrArg (fun q=>q[0]?) hr;simp only[Ue,UA,Ul] at this;exact this
   have kI:ws.drop (i+1)=r:=by have:=congrArg (UH 1) hr;rw[Up] at this;exact this
   obtain⟨w1,w2⟩:=hw p<|TY ha;have hx:=Ad vd ha 0 2 ae;have ct:p.1.toNat<l'.length:=by omega
   refine aln (c:=l'[p.1.toNat]) (x:=p.2) (aw:=p.1) mc (cR _) ae h1 ae ae ae ⟨w1,w2⟩ (TE ct) (by rw[show 0+(i:Int).toNat*2+0=i*2+0 by omega];exact hx) ?_;have:=ih (i+1) (l'.set p.1.toNat p.2) kI (by rw[T2];exact h1) h2;rw[show(((i+1:Nat)):Int)=(i:Int)+1 by omega] at this;exact this
 have:=SZ (l:=l) (N:=N) (o:=o) (m:=m) (P:=nm (ws.map aO).flatten) (L:=ws.length) mc hlen.2.1 ⟨hN,hf,hm.symm⟩<|key ws 0 ([]++l) rfl rfl rfl;rw[←hm] at this;exact this
end sS
namespace ve
open cj cY gw iL
variable {α:Type} {f:Nat->AV} {v:AV} {fz:jl} {k j:Nat} {enc:α->List AV}
structure cr where
 st:Int
 cl:Int
 tr:Int
 init:List Int
 aX:List<|List<|List St
def iI(l:List St):List AV:=[ar aM l]
def wT(l:List<|List St):List AV:=[ar iI l]
def dH(s:cr):List AV:=[.int .i64 s.st,.int .i64 s.cl,.int .i64 s.tr,ar encI s.init,ar wT s.aX]
theorem amz(l:List α):(ar enc l).eR=true:=aI.2<|cR _
theorem S4:kA 1 iI:=⟨fun _=>rfl,fun l=>by show((ar aM l).eR&&true)=true;rw[amz];rfl⟩
theorem S5:kA 1 wT:=⟨fun _=>rfl,fun l=>by show((ar iI l).eR&&true)=true;rw[amz];rfl⟩
theorem Em{K:Nat}(h:kA K enc)(hi:∀a b,enc a=enc b->a=b){l m:List α}(e:ar enc l=ar enc m):l=m:=by
 have q:dP enc K (ar enc l) m:=by rw[e];exact dP.ar h m
 exact dP.inj hi (dP.ar h l) q
theorem Xe{x y:AV}(h:[x]=[y]):x=y:=by injection h
theorem adN(a b:List St)(h:iI a=iI b):a=b:=Em lq Jw<|Xe h
theorem adO(a b:List<|List St)(h:wT a=wT b):a=b:=Em S4 adN<|Xe h
theorem Pf{s t:cr}(h:dH s=dH t):s=t:=by
 obtain⟨a,b,c,d,e⟩:=s;obtain⟨a',b',c',d',e'⟩:=t;unfold dH at h;injection h with h1 h;injection h with h2 h;injection h with h3 h;injection h with h4 h;injection h with h5 _
 injection h1 with _ h1;injection h2 with _ h2;injection h3 with _ h3
 have h4:=Em eI sa h4;have h5:=Em S5 adO h5;subst h1;subst h2;subst h3;subst h4;subst h5;rfl
def eG(n:Nat)(r:List Int):AV:=match r with
 |[]=>.slice none 0<|.known 0
 |x::l=>.slice (some (n,0)) (x::l).length<|.au (x::l).length 1
abbrev sN(n:Nat)(l:List Int):AV:=.slice (some (n,0)) l.length<|.au l.length 1
def sU(r:List Int):Option ah:=match r with
 |[]=>none
 |x::l=>some<|az encI<|x::l
abbrev gz:=Nat->List Int
def mY(rs:gz)(j:Nat):AV:=eG (300+j)<|rs j
def DH(rs:gz)(j:Nat):Option ah:=sU<|rs j
def cX(f:Nat->α)(g:Nat)(v:α)(j:Nat):α:=if j=g then v else f j
def pT(f:Nat->Option ah):List<|Nat×Option ah:=(Ui 6).map fun j=>(300+j,f j)
def p9(G:Nat)(f:Nat->AV):List AV:=(Ui G).map f
abbrev mZ(G:Nat)(f:Nat->AV):ah:=bt<|p9 G f
theorem sg{f:Nat->α}{g:Nat}{v:α}:cX f g v g=v:=if_pos rfl
theorem si{f:Nat->α}{g:Nat}{v:α}(h:j≠g):cX f g v j=f j:=if_neg h
theorem Xf{n:Nat}{r:List Int}(h:r≠[]):eG n r= .slice (some (n,0)) r.length (.au r.length 1):=by
 cases r with
 |nil=>exact absurd rfl h
 |cons=>rfl
theorem agx{r:List Int}(h:r≠[]):sU r=some (az encI r):=by
 cases r with
 |nil=>exact absurd rfl h
 |cons=>rfl
theorem BB(G:Nat)(f:Nat->AV):(p9 G f).length=G:=by unfold p9;rw[T3,Ws]
theorem Qv(cs:List AV):bt cs=az ny cs:=by unfold bt az;rw[Cw]
theorem GC{G:Nat}(h:j<G):(p9 G f)[j]? =some (f j):=by unfold p9;rw[Uc,Vt h];rfl
theorem ajS{G g:Nat}(hG:G<=1000)(h:g<G)(hv:f g=v):cellsOf (some<|mZ G f) ((g:Int).toNat*1) 1=some [v]:=by rw[Uy,Va];show cellsOf (some<|bt<|p9 G f) g 1=_;rw[Qv];exact WI Mi (by rw[GC h,hv])
theorem acG{G g:Nat}:(p9 G f).set g v=p9 G (cX f g v):=by
 refine U2 fun j=>?_;by_cases h:j<G
 ·rw[List.getElem?_set,GC h,GC h,BB];unfold cX;by_cases q:g=j
  ·rw[if_pos q,if_pos ae,if_pos q.symm]
  ·rw[if_neg q,if_neg fun e=>q e.symm]
 ·rw[Uf (by rw[T2,BB];omega),Uf (by rw[BB];omega)]
theorem ajT{G g:Nat}(hG:G<=1000)(h:g<G)(h1:v.bM=true):qf (some<|mZ G f) ((g:Int).toNat*1) [v]=some (mZ G<|cX f g v):=by rw[Uy,Va];show qf (some<|bt<|p9 G f) g [v]=some (bt<|p9 G<|cX f g v);rw[Qv,Qv, ←acG];exact WN (c:=f g) Mi (GC h) h1
def rX(a b c d aP k:Nat):Nat:=if k=a then b else if k=c then d else if k<400\/top<=k then k else max k aP
theorem Kp{f:Nat->Option ah}{p:Nat×Option ah}:p∈pT f↔∃j,j<6/\p=(300+j,f j):=by
 unfold pT;rw[TI];constructor
 ·rintro ⟨j,h,rfl⟩;exact⟨j,Uz.1 h,rfl⟩
 ·rintro ⟨j,h,rfl⟩;exact⟨j,Uz.2 h,rfl⟩
variable {a b c d aP:Nat} {r:Nat->Nat} {l0 l1:List<|Nat×AV} {x0 x1:List<|Nat×Option ah} {f0 f1:Nat->Option ah}
theorem rk(hr:r=rX a b c d aP)(h:k≠a/\k≠c:=by omega)(h2:k<400:=by omega):r k=k:=by rw[hr];unfold rX;rw[if_neg h.1,if_neg h.2,if_pos<|.inl h2]
theorem ra(hr:r=rX a b c d aP):r a=b:=by rw[hr];unfold rX;rw[if_pos rfl]
theorem rc(hr:r=rX a b c d aP)(h:c≠a:=by omega):r c=d:=by rw[hr];unfold rX;rw[if_neg h,if_pos rfl]
theorem S6(ha:(270<=a/\a<400)/\270<=c/\c<400)(hb:(270<=b/\b<aP)/\270<=d/\d<aP)(hs:aP<1000)(A6:b=d->a=c)(hl:∀r,r=rX a b c d aP->(∀k,top<=k->r k=k)->∀p∈l1,p.1<top/\∃x,(p.1,x)∈l0/\gE [] r x p.2)(hx:∀r,r=rX a b c d aP->(∀k,top<=k->r k=k)->∀p∈x1++pT f1,(270<=p.1/\p.1<400)/\((p.1=b\/p.1=d)->p.1≠a->p.1≠c->p.2=none)/\∀y,p.2=some y->y.iA=true/\∃x,(r p.1,some x)∈x0++pT f0/\fc x y/\dT [] r x y):
 fy FU 270 aP l0 (aq++(x0++pT f0)) l1 (aq++(x1++pT f1)) 400:=by
 have ht:1000<top:=by unfold top;omega
 let r:=rX a b c d aP;have rl:∀k,k<270->r k=k:=fun k hk=>rk (a:=a) (b:=b) (c:=c) (d:=d) (aP:=aP) rfl ae ae;have rt:∀k,top<=k->r k=k:=fun k hk=>by show rX a b c d aP k=k;unfold rX;rw[if_neg ae,if_neg ae,if_pos<|.inr hk]
 have rn:∀k,400<=k->k<top->aP<=r k/\r k<top:=fun k h1 h2=>by show aP<=rX a b c d aP k/\rX a b c d aP k<top;unfold rX;rw[if_neg ae,if_neg ae,if_neg ae];omega
 have rm:∀k,k<400->r k=if k=a then b else if k=c then d else k:=fun k hk=>by
  show rX a b c d aP k=_;unfold rX;split
  ·rfl
  ·split
   ·rfl
   ·rw[if_pos<|.inl hk]
 have xJ:∀p∈aq,p.1<270:=fun p hp=>by obtain⟨k,hk,e⟩:=TI.1 hp;rw[←e];exact jb k hk
 refine⟨[],r,rl,rn,rt,by omega,fun p hp=>hl r rfl rt p hp,fun p hp=>?_,fun p hp q hq n1 n2 e=>?_,fun p hp=>mz,fun p hp=>mz⟩
 ·rcases TP.1 hp with hp|hp
  ·have ct:=xJ p hp;refine⟨by omega,fun y hy=>?_⟩;rw[rl _ ae];refine⟨by omega,O3 p hp y hy,y,T7 _ HY,fc.refl _,(D9 (nx:=270) (fun k hk=>rl k ae) cf p hp y hy).z⟩
  ·obtain⟨eY,_,hh⟩:=hx r rfl rt p hp;refine⟨by omega,fun y hy=>?_⟩;obtain⟨c1,x,c2,c3,c4⟩:=hh y hy;exact⟨by rw[rm _ ae];split<;>(try split)<;>omega,c1,x,TU _ c2,c3,c4⟩
 ·have key:∀p∈aq++(x1++pT f1),p.2≠none->(p.1<270/\r p.1=p.1)\/((270<=p.1/\p.1<400)/\((p.1=b\/p.1=d)->p.1=a\/p.1=c)/\r p.1=if p.1=a then b else if p.1=c then d else p.1):=fun p hp hn=>by
   rcases TP.1 hp with hp|hp
   ·exact .inl ⟨xJ p hp,rl _<|xJ p hp⟩
   ·obtain⟨eY,hv,_⟩:=hx r rfl rt p hp;exact .inr ⟨eY,fun h=>Ut fun q=>hn<|hv h ae ae,rm _ eY.2⟩
  rcases key p hp n1 with⟨a1,a2⟩|⟨a1,a2,a3⟩<;>rcases key q hq n2 with⟨c1,c2⟩|⟨c1,c2,c3⟩
  ·rw[a2,c2] at e;exact e
  ·rw[a2,c3] at e;split at e<;>(try split at e)<;>omega
  ·rw[a3,c2] at e;split at e<;>(try split at e)<;>omega
  ·rw[a3,c3] at e;split at e<;>split at e<;>(try split at e)<;>(try split at e)<;>omega
def VF(fz:jl)(r:Nat->Nat):List (Nat×AV)->List (Nat×AV)->Prop
 |[],[]=>True
 |p::l,q::m=>(p.1=q.1/\p.1<200/\gE fz r p.2 q.2)/\VF fz r l m
 |_,_=>False
abbrev VZ:(Nat->Nat)->List (Nat×AV)->List (Nat×AV)->Prop:=VF []
theorem VF.at{r:Nat->Nat}:∀{l m:List<|Nat×AV},VF fz r l m->∀p∈m,p.1<top/\∃x,(p.1,x)∈l/\gE fz r x p.2
 |p::l,q::m,h,z,hz=>by
  obtain⟨⟨h1,h2,h3⟩,h4⟩:=h;rcases Ty.1 hz with rfl|hz
  ·exact⟨by unfold top;omega,p.2,by rw[←h1];exact TA,h3⟩
  ·obtain⟨k1,x,k2,k3⟩:=VF.at h4 z hz;exact⟨k1,x,TB _ k2,k3⟩
 |[],_::_,h,_,_=>h.elim
theorem kh{a b:AV}{l m:List<|Nat×AV}(h:gE fz r a b)(t:VF fz r l m)(hk:Tv k 200=true:=by rfl):VF fz r ((k,a)::l)<|(k,b)::m:=⟨⟨rfl,(blt_eq _ _).mp hk,h⟩,t⟩
theorem Kq{G:Nat}{f0 f1:Nat->AV}(h:∀j,j<G->gE [] r (f0 j) (f1 j))(h1:∀j,j<G->(f1 j).bM=true)(hG:G<=1000):dT [] r (mZ G f0)<|mZ G f1:=by
 have go:∀L:List Nat,(∀j∈L,gE [] r (f0 j)<|f1 j)->lz [] r (L.map f0) (L.map f1):=fun L=>by
  induction L with
  |nil=>intro _;trivial
  |cons c L ih=>intro h;exact⟨h c TA,ih fun c hc=>h c<|TB _ hc⟩
 refine dT.cells (l:=p9 G f0) (m:=p9 G f1) Mi (go (Ui G) fun j hj=>h j<|Uz.1 hj) ?_;unfold p9;rw[List.all_map];exact TG.2 fun j hj=>h1 j<|Uz.1 hj
theorem Cm{n m:Nat}{l:List Int}(h:l≠[]->r m=n):gE [] r (eG n l)<|eG m l:=by
 cases l with
 |nil=>exact(aZ.rZ).z
 |cons x l=>exact(aZ.slice<|h (by intro e;cases e)).z
theorem Pg(n:Nat)(l:List Int):(eG n l).bM=true:=by cases l<;>rfl
theorem Rc{l:List Int}(h:l.length<=1000000):dT [] r (az encI l)<|az encI l:=(lh.az (fun x=>⟨rfl,rfl⟩) (by rw[eI.length];unfold top;omega)).z
theorem CA{S:cr}(ht:∀k,top<=k->r k=k):dT fz r (bt<|dH S)<|bt<|dH S:=dT.cells (l:=dH S) (m:=dH S) (by show 5<=top;unfold top;omega) ⟨(aZ.int _ _).z,(aZ.int _ _).z,(aZ.int _ _).z,pa ht,pa ht,trivial⟩ rfl
theorem Ig{o0:List<|Nat×Option ah}{m n:Nat}{l:List Int}(hl:l.length<=1000000)(hm:l≠[]->(n,sU l)∈o0)(hr:l≠[]->r m=n):∀z,sU l=some z->z.iA=true/\∃x,(r m,some x)∈o0/\fc x z/\dT [] r x z:=fun z e=>by
 cases l with
 |nil=>cases e
 |cons x l=>exact lI (hm (by intro h;cases h)) (hr (by intro h;cases h)) lM (Rc hl) rfl z e
abbrev xM(S:cr)(G:Nat)(f:Nat->AV)(p out:List Int):List<|Nat×Option ah:=[(270,some<|bt<|dH S),(271,some<|mZ G f),(272,sU p),(273,sU out)]
abbrev M4(S:cr)(G:Nat)(f:Nat->AV)(fo:Nat->Option ah)(p out:List Int):List<|Nat×Option ah:=aq++(xM S G f p out++pT fo)
abbrev Mc(S:cr)(G:Nat)(rs:gz)(out:List Int):List<|Nat×Option ah:=M4 S G (mY rs) (DH rs) [] out
abbrev Mo(S:cr)(G:Nat)(rs:gz)(g:Nat)(p out:List Int):List<|Nat×Option ah:=M4 S G (cX (mY rs) g<|eG 272 p) (cX (DH rs) g none) p out
abbrev iC(G:Nat)(rs:gz)(g:Nat)(p:List Int)(v:AV):ah:=mZ G<|cX (cX (mY rs) g<|eG 272 p) g v
abbrev oP(S:cr)(G:Nat)(rs:gz)(g:Nat)(p r' ib:List Int)(n no:Nat):List<|Nat×Option ah:=aq++([(270,some<|bt<|dH S),(271,some<|iC G rs g p<|sN n r'),(no,sU ib),(n,some<|az encI r')]++pT (cX (DH rs) g none))
abbrev Bd(rs:gz):Prop:=∀j,(rs j).length<=1000000
theorem PW(rs:gz)(j:Nat):(mY rs j).bM=true:=Pg _ _
theorem four{P:Nat×Option ah->Prop}{o1 o2 o3 o4:Option ah}{f:Nat->Option ah}(h1:P (270,o1))(h2:P (271,o2))(h3:P (272,o3))(h4:P (273,o4))(h5:∀j,j<6->P (300+j,f j)):∀p∈[(270,o1),(271,o2),(272,o3),(273,o4)]++pT f,P p:=fun p hp=>by
 rcases TP.1 hp with hp|hp
 ·simp only[Ty,TV,or_false] at hp;rcases hp with rfl|rfl|rfl|rfl
  ·exact h1
  ·exact h2
  ·exact h3
  ·exact h4
 ·obtain⟨j,hj,rfl⟩:=Kp.1 hp;exact h5 j hj
variable {S:cr} {G:Nat} {rs:gz} {p out r' ib:List Int} {g n no:Nat}
theorem X5(hp:rs g=p)(hb:Bd rs)(ho:out.length<=1000000)(hG:G<=6)(hg:g<6)(hs:aP<1000)(kP:400<=aP)(hl:∀r,r=rX 272 (300+g) 272 (300+g) aP->(∀k,top<=k->r k=k)->VZ r l0 l1):fy FU 270 aP l0 (Mc S G rs out) l1 (Mo S G rs g p out) 400:=by
 subst hp;refine S6 ae ae hs (fun _=>rfl) (fun r hr ht=>(hl r hr ht).at) fun r hr ht=>four ⟨by omega,fun e=>by omega,lI (mi 0) (rk hr) lM (CA ht) rfl⟩ ⟨by show _/\_;omega,fun e=>by simp only at e;omega,lI (mi 1) (rk hr) lM (Kq (fun j hj=>?_) (fun j hj=>?_) ae) rfl⟩ ⟨by show _/\_;omega,fun e h1=>absurd rfl h1,Ig (hb g) (fun _=>TU _<|Kp.2 ⟨g,hg,rfl⟩) fun _=>ra hr⟩ ⟨by show _/\_;omega,fun e=>by simp only at e;omega,Ig ho (fun _=>mi 3) fun _=>rk hr⟩ fun j hj=>⟨by show _/\_;omega,fun e _ _=>?_,fun y e=>?_⟩
 ·by_cases q:j=g
  ·subst q;rw[sg];exact Cm fun _=>ra hr
  ·rw[si q];exact Cm fun _=>rk hr
 ·by_cases q:j=g
  ·subst q;rw[sg];exact Pg _ _
  ·rw[si q];exact PW rs j
 ·simp only at e;rw[show j=g by omega];exact sg
 ·by_cases q:j=g
  ·subst q;rw[show cX (DH rs) j none j=none from sg] at e;cases e
  ·rw[show cX (DH rs) g none j=DH rs j from si q] at e;exact Ig (hb j) (fun _=>TU _<|Kp.2 ⟨j,hj,rfl⟩) (fun _=>rk hr) y e
theorem YH(ML:r'≠[])(DA:r'.length<=1000000)(ho:ib.length<=1000000)(hb:Bd rs)(hG:G<=6)(hg:g<6)(hn4:(400<=n/\n<aP)/\((no=273\/400<=no)/\no<aP)/\n≠no)(hs:aP<1000)(hl:∀r,r=rX (300+g) n 273 no aP->(∀k,top<=k->r k=k)->VZ r l0 l1):
 fy FU 270 aP l0 (oP S G rs g p r' ib n no) l1 (Mc S G (cX rs g r') ib) 400:=by
 refine S6 ae ae hs (fun e=>by omega) (fun r hr ht=>(hl r hr ht).at) fun r hr ht=>four ⟨by omega,fun e=>by omega,lI (mi 0) (rk hr) lM (CA ht) rfl⟩ ⟨by show _/\_;omega,fun e=>by simp only at e;omega,lI (mi 1) (rk hr) lM (Kq (fun j hj=>?_) (fun j hj=>PW _ j) ae) rfl⟩ ⟨by show _/\_;omega,fun e=>by simp only at e;omega,fun y e=>by cases e⟩ ⟨by show _/\_;omega,fun e=>by simp only at e;omega,Ig ho (fun _=>mi 2) fun _=>rc hr⟩ fun j hj=>⟨by show _/\_;omega,fun e=>by simp only at e;omega,fun y e=>?_⟩
 ·by_cases q:j=g
  ·subst q;rw[sg];unfold mY;rw[sg,Xf ML];exact(aZ.slice<|ra hr).z
  ·rw[si q,si q];unfold mY;rw[si q];exact Cm fun _=>rk hr
 ·have e:sU (cX rs g r' j)=some y:=e;by_cases q:j=g
  ·subst q;rw[sg,agx ML] at e;exact lI (T7 _<|mi 3) (ra hr) lM (Rc DA) rfl y e
  ·rw[si q] at e;exact Ig (hb j) (n:=300+j) (fun _=>TU _<|Kp.2 ⟨j,hj,by rw[si q];rfl⟩) (fun _=>rk hr) y e
end ve
namespace xf
open cj cY oJ ve
variable {A:Prop} {i:Nat} {S:cr} {α:Type}
section
variable {L:bV} {B:aE} {f nt:Nat} {t:Tr AV} {K:List Item} {s:AS} {rs:List ResultVar} {R:AV->AS->Prop}
theorem vC(mc:Mt L B){F:AF}{S:AS}(H:av pg B 270 (Fin pg rs R) F S)(p:Pl){T:Prop}(x:T)(h:T=wp (en L) 900 6 (.fr f nt K t s) p rs (fun v s _=>R v s) (fun fr s1 _=>fr=F/\s1=S):=by as_aux_lemma=>kernel_rfl)(h0:Tw 270 s.nx=true:=by as_aux_lemma=>kernel_rfl):av pg B 270 (Fin pg rs R) ⟨f,t,nt,K,[],none⟩ s:=wC mc (C:=fun fr s1 _=>fr=F/\s1=S) HU p x h h0
end
theorem wN(z:Int)(k:Nat)(h:z=(k:Int):=by omega)(hk:k<=1000000000:=by omega):AV.int .i64 (IntKind.wrap .i64 z)=AV.int .i64 (k:Int):=by rw[h];exact wI _ ae
abbrev tO(sl:List<|Nat×AV)(o:List<|Nat×Option ah)(fr:AF)(s:AS):Prop:=(sl.map (fun q=>some q.2)=sl.map (fun q=>some q.2))/\(o.map (fun q=>q.2)=o.map (fun q=>q.2))/\(fr=fr/\s=s)
theorem vN{sl:List<|Nat×AV}{o:List<|Nat×Option ah}{fr:AF}{s:AS}:tO sl o fr s:=⟨rfl,rfl,rfl,rfl⟩
abbrev xR(lo aP nx:Nat)(l0:List<|Nat×AV)(o0:List<|Nat×Option ah)(l1:List<|Nat×AV)(o1:List<|Nat×Option ah)(fr:AF)(s:AS):Prop:=(l0.map (fun q=>some q.2)=l0.map (fun q=>some q.2))/\(o0.map (fun q=>q.2)=o0.map (fun q=>q.2))/\fy FU lo aP l0 o0 l1 o1 nx/\(fr=fr/\s=s)
theorem tP{lo aP nx:Nat}{l0 l1:List<|Nat×AV}{o0 o1:List<|Nat×Option ah}{fr:AF}{s:AS}(h:fy FU lo aP l0 o0 l1 o1 nx):xR lo aP nx l0 o0 l1 o1 fr s:=⟨rfl,rfl,h,rfl,rfl⟩
theorem ap1(enc:α->List AV)(l:List α)(c:α){K ln:Nat}{X:Prop}(h1:∀x,(enc x).length=K/\(enc x).all AV.bM=true)(h2:2*(l.length+1)*ln+4096*ln<=room)(h3:(l.length+1)*K<=Rn.top)(x:X):
 l.length=l.length/\l.length=l.length/\some (az enc l)=some (az enc l)/\some (ah.cells (enc c).length (Tr.fill (enc c) 0 .nil) [])=some (ah.cells (enc c).length (Tr.fill (enc c) 0 .nil) [])/\(∀x,(enc x).length=K/\(enc x).all AV.bM=true)/\2*(l.length+1)*ln+4096*ln<=room/\(l.length+1)*K<=Rn.top/\X:=
 ⟨rfl,rfl,rfl,rfl,h1,h2,h3,x⟩
theorem agy:(dH S).all AV.cN=true:=by show(true&&(true&&(true&&((ar encI S.init).cN&&((ar wT S.aX).cN&&true)))))=true;rw[show(ar encI S.init).cN=true from aI.2<|cR _,show(ar wT S.aX).cN=true from aI.2<|cR _];rfl
theorem PX:AV.hi (.agg<|dH S)=true:=by show((dH S).all AV.cN)=true;exact agy
abbrev mb(S:cr):List<|Nat×Option ah:=aq++[(270,some<|bt<|dH S)]
def bF(S:cr)(t:Nat):List<|List St:=S.aX.getD t []
def fF(S:cr)(t x:Nat):List St:=(bF S t).getD x []
theorem tY(c:Prop)(x:A)(h:c:=by omega):(c->A)/\(¬c->False):=⟨fun _=>x,fun n=>n h⟩
theorem tN(c:Prop)(x:A)(h:¬c:=by omega):(c->False)/\(¬c->A):=⟨h,fun _=>x⟩
theorem LP{enc:α->List AV}{K:Nat}(he:kA K enc){l:List α}{c:α}(h:l[i]? =some c):cZ FU (nm (l.map enc).flatten) (0+(i:Int).toNat*K) K=some (enc c):=by have:=Ad he h 0 K ae;rw[Ul] at this;rw[T6,Uy,this,T8, ←he.len c,UM]
theorem Cn(h:i<S.aX.length):S.aX[i]? =some (bF S i):=by unfold bF;rw[T9,TE h];rfl
theorem Co{k:Nat}(h:k<(bF S i).length):(bF S i)[k]? =some (fF S i k):=by unfold fF;rw[T9,TE h];rfl
abbrev Fz(enc:α->List AV)(K:Nat)(l:List α)(i:Nat)(cs:List AV)(A:Prop):Prop:=(0:Int)<=(i:Int)/\(i:Int)<(l.length:Int)/\top<=nm (l.map enc).flatten/\cZ FU (nm (l.map enc).flatten) (0+(i:Int).toNat*K) K=some cs/\A
theorem lJ(S:cr)(t:Nat)(x:A)(h:t<S.aX.length:=by omega):Fz wT 1 S.aX t [ar iI<|bF S t] A:=⟨by omega,by omega,cR _,LP S5<|Cn h,x⟩
theorem zC(S:cr)(t k:Nat)(x:A)(h:k<(bF S t).length:=by omega):Fz iI 1 (bF S t) k [ar aM<|fF S t k] A:=⟨by omega,by omega,cR _,LP S4<|Co h,x⟩
theorem jW{l:List<|Int×Int}{c:Int×Int}(h:l[i]? =some c)(x:A):Fz aO 2 l i (aO c) A:=by have:=(TZ.1 h).1;exact⟨by omega,by omega,cR _,LP sS.vd h,x⟩
theorem nW{l:List Int}{c:Int}(h:l[i]? =some c)(x:A):Fz encI 1 l i (encI c) A:=by have:=(TZ.1 h).1;exact⟨by omega,by omega,cR _,LP eI h,x⟩
end xf
namespace xg
open fq cY ia gJ lk gi iU lY nA AP pF
def Fg:St->Int| .mk _ t _ _ _ _=>t
def kZ:Nat->List St->Prop
 |0,l=>l=[]
 |d+1,l=>l.length<=1000000/\∀s∈l,(1<=fX s/\fX s<=8)/\(0<=Fg s/\Fg s<8)/\kZ d (bN s)/\kZ d (bK s)
theorem Xg:∀d,kZ d []
 |0=>rfl
 |d+1=>⟨TN _,fun s h=>by cases h⟩
def pU:List Fr->Nat
 |[]=>0
 |f::r=>pU r+(if f.cq=true then 1 else 0)
def xh:List Fr->Prop
 |[]=>True
 |f::r=>kZ (6 - r.length) f.block/\(0<=f.aw/\f.aw<=(f.block.length:Int))/\(0<=f.turns/\f.turns<=7)/\f.kept.length=8/\(f.cq=true->r≠[]/\∃ol,f.other=some ol/\kZ (6 - r.length) ol)/\xh r
structure Inv (st:List Fr) (b:bp):Prop where
 wf:xh st
 len:b.length=pU st+1
 buf:dz b
theorem agz{d:Nat}{l:List St}(h:kZ d l):l.length<=1000000:=by
 cases d with
 |zero=>have:l=[]:=h;subst this;exact TN _
 |succ d=>exact h.1
def xj:List Fr->Nat
 |[]=>0
 |f::r=>xj r+f.turns.toNat+1
theorem Gl:∀(k:Nat) (st:List Fr) (b:bp),Inv st b->xj st<k->∃br b',iH k st b=some (br,b')/\Inv br b'/\br.length<=st.length
 |0,_,_,_,h=>by omega
 |k+1,[],b,hi,_=>⟨[],b,rfl,hi,Tz _⟩
 |k+1,f::r,b,hi,hm=>by
  obtain⟨⟨h1,h2,h3,h4,h5,h6⟩,hl,hb⟩:=hi;unfold iH;by_cases c1:f.aw<(f.block.length:Int)
  ·rw[if_pos c1];exact⟨_,_,rfl,⟨⟨h1,h2,h3,h4,h5,h6⟩,hl,hb⟩,Tz _⟩
  ·rw[if_neg c1];by_cases c2:0<f.turns
   ·rw[if_pos c2];have i2:Inv ({f with aw:=0,turns:=f.turns - 1}::r) b:=⟨⟨h1,⟨by show(0:Int)<=0;omega,by show(0:Int)<=_;omega⟩,⟨by show 0<=f.turns - 1;omega,by show f.turns - 1<=7;omega⟩,h4,h5,h6⟩,hl,hb⟩;by_cases c3:0<(f.block.length:Int)
    ·rw[if_pos c3];exact⟨_,_,rfl,i2,Tz _⟩
    ·rw[if_neg c3];exact Gl k _ b i2 (by show xj r+(f.turns - 1).toNat+1<k;have:xj (f::r)=xj r+f.turns.toNat+1:=rfl;omega)
   ·rw[if_neg c2];have fG:xj r<k:=by have:xj (f::r)=xj r+f.turns.toNat+1:=rfl;omega
    have hlen:b.length=pU r+(if f.cq=true then 1 else 0)+1:=hl;by_cases c4:f.cq=true
    ·rw[if_pos c4];rw[if_pos c4] at hlen;have c5:2<=b.length:=by omega
     rw[if_pos c5];obtain⟨br,b',e,i,l⟩:=Gl k r (gA b) ⟨h6,by have:=I8 b c5;omega,JV hb c5⟩ fG;exact⟨br,b',e,i,by rw[TL];omega⟩
    ·rw[if_neg c4];rw[if_neg c4] at hlen;obtain⟨br,b',e,i,l⟩:=Gl k r b ⟨h6,hlen,hb⟩ fG;exact⟨br,b',e,i,by rw[TL];omega⟩
theorem PY:∀{st:List Fr},xh st->xj st<=8*st.length
 |[],_=>Tz _
 |f::r,h=>by have:=PY h.2.2.2.2.2;have h3:=h.2.2.1;show xj r+f.turns.toNat+1<=8*(r.length+1);omega
theorem X6:∀{st:List Fr},xh st->pU st+1<=st.length\/pU st=0
 |[],_=>.inr rfl
 |f::r,h=>by
  rcases X6 h.2.2.2.2.2 with q|q
  ·left;show pU r+(if f.cq=true then 1 else 0)+1<=r.length+1;split<;>omega
  ·by_cases c:f.cq=true
   ·obtain⟨hr,_⟩:=h.2.2.2.2.1 c;left;show pU r+(if f.cq=true then 1 else 0)+1<=r.length+1;rw[if_pos c];cases r with
    |nil=>exact absurd rfl hr
    |cons a r=>rw[TL];omega
   ·right;show pU r+(if f.cq=true then 1 else 0)=0;rw[if_neg c];exact q
structure mV (a:dX):Prop where
 inv:Inv a.fs.reverse a.b
 l:a.l.length=8
 top:a.fs.reverse=[]\/∃f r,a.fs.reverse=f::r/\f.aw<(f.block.length:Int)
 aN:a.aN.length<=1000
 vars:1<=a.vars/\a.vars<=32
theorem Cp{f:Fr}{r:List Fr}(h:xh<|f::r)(ht:f.aw<(f.block.length:Int)):∃d s,6 - r.length=d+1/\f.block[f.aw.toNat]? =some s/\(1<=fX s/\fX s<=8)/\(0<=Fg s/\Fg s<8)/\kZ d (bN s)/\kZ d (bK s):=by
 have h0:=h.2.1.1;have ct:f.aw.toNat<f.block.length:=by omega
 have hb:=h.1;cases e:6 - r.length with
 |zero=>rw[e] at hb;have:f.block=[]:=hb;rw[this] at ct;simp at ct
 |succ d=>rw[e] at hb;obtain⟨q1,q2,q3,q4⟩:=hb.2 _<|VD ct;exact⟨d,_,rfl,TE ct,q1,q2,q3,q4⟩
theorem X7:∀{st:List Fr},xh st->∀f∈st,((0<=f.turns/\f.turns<=1000000)/\f.kept.length=8)/\(0<=f.aw/\f.aw<=1000000)
 |[],_,f,h=>by cases h
 |g::r,h,f,hf=>by
  rcases Ty.1 hf with rfl|hf
  ·have:=agz h.1;have:=h.2.1;have:=h.2.2.1;exact⟨⟨by omega,h.2.2.2.1⟩,by omega⟩
  ·exact X7 h.2.2.2.2.2 f hf
section
variable {a:dX}
theorem mV.iQ(h:mV a):a.fs.length<=6:=by
 rw[←Vr];rcases h.top with e|⟨f,r,e,ht⟩
 ·rw[e];exact TN _
 ·rw[e];have hw:=h.inv.wf;rw[e] at hw;obtain⟨d,_,hd,_⟩:=Cp hw ht;rw[TL];omega
theorem mV.b6(h:mV a):a.b.length<=6:=by have h6:=h.iQ;rw[←Vr] at h6;have:=h.inv.len;rcases X6 h.inv.wf with q|q<;>omega
theorem mV.qv(h:mV a)(hs:0<=a.steps/\a.steps<=1000000000000):Good a:=by have hw:=X7 h.inv.wf;exact⟨⟨h.l,h.inv.buf,by have:=h.iQ;omega,h.aN,h.vars⟩,fun f hf=>(hw f<|Wy.2 hf).1,h.iQ,h.b6,hs,fun f hf=>(hw f<|Wy.2 hf).2⟩
theorem mV.ask(h:mV a)(hs:0<=a.steps/\a.steps<=1000000000000):Qt a:=by
 refine⟨h.qv hs,?_⟩;rcases h.top with e|⟨f,r,e,ht⟩
 ·exact .inl<|List.reverse_eq_nil_iff.1 e
 ·have hw:=h.inv.wf;rw[e] at hw;obtain⟨d,s,_,q,_⟩:=Cp hw ht;exact .inr ⟨f,r,s,e,hw.2.1.1,q⟩
end
theorem Ph:∀{st:List Fr} {g:Fr} {r':List Fr},xh st->below st=some (g,r')->xh (g::r')/\g.cq=true/\pU st=pU r'+1/\r'.length<st.length
 |[],_,_,_,h=>by cases h
 |f::r,g,r',hw,h=>by
  unfold lY.below at h;by_cases c:f.cq=true
  ·rw[if_pos c] at h;injection h with h;injection h with h1 h2
   subst h1;subst h2;exact⟨hw,c,by show pU r+(if f.cq=true then 1 else 0)=_;rw[if_pos c],by rw[TL];omega⟩
  ·rw[if_neg c] at h;obtain⟨a1,a2,a3,a4⟩:=Ph hw.2.2.2.2.2 h;exact⟨a1,a2,by show pU r+(if f.cq=true then 1 else 0)=_;rw[if_neg c];exact a3,by rw[TL];omega⟩
theorem ya{a:dX}{st:List Fr}{b:bp}(hl:a.l.length=8)(hg:a.aN.length<=1000)(hv:1<=a.vars/\a.vars<=32)(hi:Inv st b)(hn:st.length<=8):∃a',fin a st b=some a'/\mV a'/\a'.steps=a.steps/\a'.vars=a.vars/\a'.aN=a.aN:=by
 have hm:=PY hi.wf;obtain⟨br,b',e,i,l⟩:=Gl 1000 st b hi ae;refine⟨{a with fs:=br.reverse,b:=b'},by unfold fin;rw[e],⟨?_,hl,?_,hg,hv⟩,rfl,rfl,rfl⟩
 ·show Inv br.reverse.reverse b';rw[UC];exact i
 ·show br.reverse.reverse=[]\/∃f r,br.reverse.reverse=f::r/\_;rw[UC];exact DV _ _ _ _ _ e
theorem Jl(b:bp)(v x:Int):(lA b v x).length=b.length:=by
 rcases List.eq_nil_or_concat b with rfl|⟨l,m,rfl⟩
 ·rfl
 ·rw[List.concat_eq_append,ajp,TM,TM];rfl
variable {a:dX}
theorem adP(h:mV a):fm a=(1,0,0)\/(∃v,fm a=(2,v,0)/\0<=v/\v<a.vars)\/(∃x,fm a=(3,0,x))\/fm a=(4,0,0):=by
 unfold fm;rcases h.top with e|⟨f,r,e,ht⟩
 ·rw[e];exact .inr<|.inr<|.inl ⟨0,rfl⟩
 ·have hw:=h.inv.wf;rw[e] at hw ⊢;obtain⟨d,⟨kind,to,ea,eb,bd,el⟩,_,q,_⟩:=Cp hw ht;simp only[q]
  repeat' split
  ·exact .inr<|.inr<|.inl ⟨_,rfl⟩
  ·exact .inr<|.inr<|.inr rfl
  ·exact .inr<|.inl ⟨_,rfl,W5 h.vars.1⟩
  ·exact .inl rfl
theorem OS(h:mV a)(hs:0<=a.steps/\a.steps<=1000000000000)(hk:fm a=(1,0,0)):JZ a/\∃a',sw a=some a'/\mV a'/\a'.steps=a.steps+1/\a'.vars=a.vars/\a'.aN=a.aN:=by
 rcases h.top with e|⟨f,r,e,ht⟩
 ·exfalso;unfold fm at hk;rw[e] at hk;injection hk with q _;omega
 have hw:=h.inv.wf;have hlen:=h.inv.len;rw[e] at hw hlen;have h6:=h.iQ;rw[←Vr,e,TL] at h6;obtain⟨d,⟨kind,to,ea,eb,bd,el⟩,hd,q,k1,k2,k3,k4⟩:=Cp hw ht;have k1:1<=kind/\kind<=8:=k1;have k2:0<=to/\to<8:=k2;have k3:kZ d bd:=k3;have k4:kZ d el:=k4;have kE:=hk;unfold fm at kE;rw[e] at kE;simp only[q] at kE;have n8:kind≠8:=fun c=>by rw[if_pos c] at kE;injection kE with z _;omega
 rw[if_neg n8] at kE;have n6:kind=6->below (f::r)≠none:=fun c z=>by rw[if_pos ⟨c,z⟩] at kE;injection kE with z _;omega
 have w1:xh<|{f with aw:=f.aw+1}::r:=⟨hw.1,⟨by show 0<=f.aw+1;have:=hw.2.1.1;omega,by show f.aw+1<=(f.block.length:Int);omega⟩,hw.2.2⟩;have i1:∀b:bp,dz b->b.length=a.b.length->Inv ({f with aw:=f.aw+1}::r) b:=fun b hb hl=>⟨w1,by rw[hl];exact hlen,hb⟩;have S7:6 - (r.length+1)=d:=by omega
 have push:∀(g:Fr) (b:bp),kZ d g.block->g.aw=0->(0<=g.turns/\g.turns<=7)->g.kept.length=8->g.cq=false->dz b->b.length=a.b.length->Inv (g::{f with aw:=f.aw+1}::r) b:=fun g b g1 g2 g3 g4 g5 hb hl=>⟨⟨by rw[TL,S7];exact g1,by rw[g2];omega,g3,g4,fun c=>(by rw[g5] at c;cases c),w1⟩,by show b.length=pU ({f with aw:=f.aw+1}::r)+(if g.cq=true then 1 else 0)+1;rw[g5,hl];exact hlen,hb⟩;refine⟨⟨h.qv hs,hk,f,r,kind,to,ea,eb,bd,el,e,q,⟨hw.2.1.1,fun _=>k2,fun c g r' hb=>?_⟩⟩,?_⟩
 ·obtain⟨b1,b2,b3,_⟩:=Ph hw hb;obtain⟨b4,_⟩:=b1.2.2.2.2.1 b2;exact⟨b4,by omega⟩
 ·unfold sw;rw[e];simp only[q];have l8:∀(z:Int),(a.l.set to.toNat z).length=8:=fun z=>by rw[T2];exact h.l
  by_cases c1:kind=1
  ·rw[if_pos c1];exact ya (a:={a with l:=a.l.set to.toNat<|fP a ea,steps:=a.steps+1}) (l8 _) h.aN h.vars (i1 _ h.inv.buf rfl) HX
  rw[if_neg c1];by_cases c2:kind=2
  ·rw[if_pos c2];exact ya (a:={a with l:=a.l.set to.toNat (lD a.b<|jq (fP a ea) a.vars).1,steps:=a.steps+1}) (l8 _) h.aN h.vars (i1 _ h.inv.buf rfl) HX
  rw[if_neg c2];by_cases c3:kind=3
  ·rw[if_pos c3];exact ya (a:={a with steps:=a.steps+1}) h.l h.aN h.vars (i1 _ (OC h.inv.buf _ _)<|Jl _ _ _) HX
  rw[if_neg c3];by_cases c4:kind=4
  ·rw[if_pos c4];exact ya (a:={a with steps:=a.steps+1}) h.l h.aN h.vars (push _ _ (by show kZ d (if _ then bd else el);split;exact k3;exact k4) rfl ⟨by show(0:Int)<=0;omega,by show(0:Int)<=7;omega⟩ rfl rfl h.inv.buf rfl) Rz
  rw[if_neg c4];by_cases c5:kind=5
  ·rw[if_pos c5];by_cases z:0<lv (fP a ea)
   ·rw[if_pos z];have:=Pc<|fP a ea;exact ya (a:={a with steps:=a.steps+1}) h.l h.aN h.vars (push _ _ k3 rfl ⟨by show 0<=lv _ - 1;omega,by show lv _ - 1<=7;omega⟩ rfl rfl h.inv.buf rfl) Rz
   ·rw[if_neg z];exact ya (a:={a with steps:=a.steps+1}) h.l h.aN h.vars (i1 _ h.inv.buf rfl) HX
  rw[if_neg c5];by_cases c6:kind=6
  ·rw[if_pos c6];cases hb:below (f::r) with
   |none=>exact absurd hb<|n6 c6
   |some p=>
    obtain⟨⟨fb,fa,ft,fo,kept,S8⟩,r'⟩:=p;obtain⟨b1,b2,b3,b4⟩:=Ph hw hb;obtain⟨b5,ol,b6,b7⟩:=b1.2.2.2.2.1 b2;have b6:S8=some ol:=b6;subst b6;have SY:kept.length=8:=b1.2.2.2.1;refine ya (a:={a with l:=kept,steps:=a.steps+1}) SY h.aN h.vars ⟨⟨b7,⟨by show(0:Int)<=0;omega,by show(0:Int)<=_;omega⟩,⟨by show(0:Int)<=0;omega,by show(0:Int)<=7;omega⟩,rfl,fun c=>(by cases c),b1.2.2.2.2.2⟩,?_,PO h.inv.buf ae⟩ ?_
    ·rw[Wu];show _=pU r'+(if false=true then 1 else 0)+1;rw[if_neg (by intro c;cases c)];omega
    ·rw[TL];rw[TL] at b4;omega
  rw[if_neg c6];by_cases c7:kind=7
  ·rw[if_pos c7];have hb6:=h.b6;refine ya (a:={a with steps:=a.steps+1}) h.l h.aN h.vars ⟨⟨by rw[TL,S7];exact k3,⟨by show(0:Int)<=0;omega,by show(0:Int)<=_;omega⟩,⟨by show(0:Int)<=0;omega,by show(0:Int)<=7;omega⟩,h.l,fun _=>⟨(by intro c;cases c),el,rfl,by rw[TL,S7];exact k4⟩,w1⟩,?_,PN h.inv.buf ae⟩ Rz;rw[TM];show a.b.length+1=pU ({f with aw:=f.aw+1}::r)+(if true=true then 1 else 0)+1;rw[if_pos rfl,hlen];rfl
  ·exact absurd k1.2 ae
theorem agA(h:mV a)(hs:0<=a.steps/\a.steps<=1000000000000){v:Int}(hk:fm a=(2,v,0))(x:Int):Li a/\∃a',pc a x=some a'/\mV a'/\a'.steps=a.steps+1/\a'.vars=a.vars/\a'.aN=a.aN:=by
 rcases h.top with e|⟨f,r,e,ht⟩
 ·exfalso;unfold fm at hk;rw[e] at hk;injection hk with q _;omega
 have hw:=h.inv.wf;have hlen:=h.inv.len;rw[e] at hw hlen;have h6:=h.iQ;rw[←Vr,e,TL] at h6;obtain⟨d,⟨kind,to,ea,eb,bd,el⟩,hd,q,k1,k2,k3,k4⟩:=Cp hw ht;have k2:0<=to/\to<8:=k2;have w1:xh<|{f with aw:=f.aw+1}::r:=⟨hw.1,⟨by show 0<=f.aw+1;have:=hw.2.1.1;omega,by show f.aw+1<=(f.block.length:Int);omega⟩,hw.2.2⟩;refine⟨⟨h.qv hs,⟨v,hk⟩,f,r,kind,to,ea,eb,bd,el,e,hw.2.1.1,q,k2.1,k2.2⟩,?_⟩;unfold pc;rw[e];simp only[q];exact ya (a:={a with l:=a.l.set to.toNat x,steps:=a.steps+1}) (by rw[T2];exact h.l) h.aN h.vars ⟨w1,hlen,h.inv.buf⟩ HX
end xg
namespace Zs
open cj gw sR uL fq cY ia gJ jd jV lk iL qw
variable {u2:AV} {m2:Nat} {bD:List Fr} {B:aE} {A2:MN}
abbrev EJ(A2:MN)(m2 c2:Nat)(u2:AV)(bD:List Fr):List<|Nat×Option ah:=aq++[(270,some<|.cells 13 (Tr.fill (A2.row (.ptr<|some (271,0)) (.slice (some (272,0)) (m2)<|.au c2 13)<|i6 A2.steps) 0 .nil) []),(271,some<|.tok 3 u2),(272,some<|az aS bD)]
theorem ajU{c2:Nat}(mc:Mt [CS,zZ,LK,qT 60,Er] B):av pg B 270 (Rn.Fin pg (aC Tryd.f14) fun y s'=>y= .tuple [.ptr<|some (270,0),.int .i64 0]/\∀m o,(m,o)∈dW 270 3 (⟨⟨A2.pre,m2,(.au c2 13),[(i6 A2.steps)]⟩,u2,(bD.map aS).flatten⟩:VS)->s'.h.get m=some o) (⟨14,aA [(6,(.ptr<|some (270,0))),(7,i0)],34,(dh 14 [1,1,1,1,1]),[],none⟩:AF)<|aj (EJ A2 m2 c2 u2 bD) 273:=wS mc (.rt 1 .no)<|nw (st:=(⟨⟨A2.pre,m2,(.au c2 13),[(i6 A2.steps)]⟩,u2,(bD.map aS).flatten⟩:VS)) (s:=aj (aq++[(270,some<|.cells 13 (Tr.fill (A2.row (.ptr<|some (271,0)) (.slice (some (272,0)) (m2)<|.au c2 13)<|i6 A2.steps) 0 .nil) []),(271,(some<|.tok 3 u2)),(272,(some<|az aS bD))]) 273) (show((.tuple [(.ptr<|some (270,0)),i0]):AV)= .tuple [.ptr<|some (270,0),.int .i64 0] from rfl) cQ cQ cQ
abbrev Cq(vars:Int)(aN:List Int)(tx:List St):VS:=(⟨⟨[(i6 vars),(.ab (nm (aN.map encI).flatten) 0 aN.length),i0,i0,i0,i0,i0,i0,i0,i0],1,(.au 1 13),[.int .i64 0]⟩,(bZ [[]]),(([(⟨tx,0,0,false,[0,0,0,0,0,0,0,0],none⟩:Fr)]).map aS).flatten⟩:VS)
abbrev Qw(u2:AV)(A2:MN)(m2 c2:Nat)(bD:List Fr):List<|Nat×Option ah:=aq++[(270,(some<|.tok 3 u2)),(271,some<|.cells 13 (Tr.fill (A2.row (.ptr<|some (270,0)) (.slice (some (274,0)) (m2)<|.au c2 13)<|i6 A2.steps) 0 .nil) []),(274,(some<|az aS bD))]
theorem ah4{vars:Int}{G q:Nat}{tx:List St}{aN:List Int}{c2:Nat}(mc:Mt [CS,zZ,LK,qT 60,Er] B)(sO:bc (aK uM) [(.ab (nm (tx.map aM).flatten) 0 tx.length),.int .i64 (aN.length:Int)]=some (.bool true))(hv:1<=vars/\vars<=32)(pI:bc (aK yA) [(.ab G q aN.length)]=some (.ab (nm (aN.map encI).flatten) 0 aN.length))(S9:bc (aK<|qS 60) [(.ab (nm (tx.map aM).flatten) 0 tx.length)]=some (.ab (nm (tx.map aM).flatten) 0 tx.length))(II:CK Q4 []=some (some<|bZ [[]],fun p=>p))(hlen:bD.length<=1000000)(pB:(AV.ab A2.G A2.q A2.lg).cN=true)(k0:bT 10 (Cq vars aN tx)=true)(k1:eJ fK (Cq vars aN tx) []=some (.tuple [],(⟨⟨A2.pre,m2,(.au c2 13),[.int .i64 A2.steps]⟩,u2,(bD.map aS).flatten⟩:VS)))(k2:bT 10 (⟨⟨A2.pre,m2,(.au c2 13),[.int .i64 A2.steps]⟩,u2,(bD.map aS).flatten⟩:VS)=true):av pg B 270 (Rn.Fin pg (aC Tryd.f14) fun y s'=>y= .tuple [.ptr<|some (270,0),.int .i64 0]/\∀m o,(m,o)∈dW 270 3 (⟨⟨A2.pre,m2,(.au c2 13),[(i6 A2.steps)]⟩,u2,(bD.map aS).flatten⟩:VS)->s'.h.get m=some o) (sF 14 Tryd.f14 [(.ab (nm (tx.map aM).flatten) 0 tx.length),(i6 vars),(.ab G q aN.length)])<|aj aq 270:=by have ht:top=549755813888:=rfl;exact wC mc (C:=(fun fr s1 _=>fr=(⟨14,aA [(6,(.ptr<|some (270,0))),(7,i0)],34,(dh 14 [1,1,1,1,1]),[],none⟩:AF)/\s1=(aj (EJ A2 m2 c2 u2 bD) 273))) (fun fr s1 p hC=>by obtain⟨rfl,rfl⟩:=hC;exact ajU mc) (.st 5<|.rg<|.go 1<|.fk (.no)<|.go 2<|.fk (.no)<|.go 2<|.en<|.st 2<|.rg<|.go 3<|.kn (.bool true)<|.go 2<|.en<|.st 4<|.rg<|.go 2<|.kn (.ab (nm (aN.map encI).flatten) 0 aN.length)<|.nt (some<|bZ [[]]) (fun p=>p)<|.go 3<|.en<|.st 1<|.rg<|.go 2<|.kn (.ab (nm (tx.map aM).flatten) 0 tx.length)<|.go 1<|.il<|.st 4<|.rg<|.go 1<|.cg (.tuple []) (LL 270 dk dK 3 271 270 274 (⟨⟨A2.pre,m2,(.au c2 13),[.int .i64 A2.steps]⟩,u2,(bD.map aS).flatten⟩:VS)) (HC 270 dk dK 3 271 270 274<|Cq vars aN tx)<|.en<|.rt 1<|.en<|.st 2<|.rn [(6,(.ptr<|some (271,0))),(7,i0)] (Qw u2 A2 m2 c2 bD) [(6,(.ptr<|some (270,0))),(7,i0)] (EJ A2 m2 c2 u2 bD) 275 273 .no)<|bq (vars<1) iF fun _=>(bq (vars>32) iF fun _=>(ai sO<|ai pI<|ai II<|ai S9<|ai (PQ (P:=pg) (F:=FU) (sp:=sp [CS,zZ,LK,qT 60,Er]) (g:=40) (U:=270) (h0:=dk) (ns:=dK) (rest:=[]) (n:=5) (kp:=10) (k:=3) (val:=eJ fK) (a:=271) (r1:=270) (r2:=274) (st:=(Cq vars aN tx)) (br:=(⟨⟨A2.pre,m2,(.au c2 13),[.int .i64 A2.steps]⟩,u2,(bD.map aS).flatten⟩:VS)) (y:=.tuple []) cQ cQ cQ cQ rfl k0 k1 cQ k2)<|ahR (a:=bt<|eB ((Cq vars aN tx)).R 270 274) (b:=.tok 3 ((Cq vars aN tx)).u) (c:=bt ((Cq vars aN tx)).row)<|ai (mS [(6,(.ptr<|some (271,0))),(7,i0)])<|ai (mO<|Qw u2 A2 m2 c2 bD)<|ai (show fy FU 270 275 [(6,(.ptr<|some (271,0))),(7,i0)] (Qw u2 A2 m2 c2 bD) [(6,(.ptr<|some (270,0))),(7,i0)] (EJ A2 m2 c2 u2 bD) 273 from LJ (ps:=[(270,271),(271,270),(272,274)]) (lo:=270) (aP:=275) ae cQ cQ (fun r hr ht=>⟨⟨by unfold top;omega,_,(mi 0),((aZ.ptr<|rq hr)).z⟩,⟨⟨by unfold top;omega,_,(mi 1),vi⟩,trivial⟩⟩) fun r hr ht=>⟨lI (mi 1) (rq hr) lM<|ahO (l:=[(i6 A2.vars),(.ab A2.G A2.q A2.lg),(i6 A2.x0),(i6 A2.x1),(i6 A2.x2),(i6 A2.x3),(i6 A2.x4),(i6 A2.x5),(i6 A2.x6),(i6 A2.x7),(.ptr<|some (270,0)),(.slice (some (274,0)) (m2)<|.au c2 13),(i6 A2.steps)]) (m:=[(i6 A2.vars),(.ab A2.G A2.q A2.lg),(i6 A2.x0),(i6 A2.x1),(i6 A2.x2),(i6 A2.x3),(i6 A2.x4),(i6 A2.x5),(i6 A2.x6),(i6 A2.x7),(.ptr<|some (271,0)),(.slice (some (272,0)) (m2)<|.au c2 13),(i6 A2.steps)]) ⟨vi,⟨((Qe ht (by first|rfl|exact aI.2 (cR _)|assumption))).z,⟨vi,⟨vi,⟨vi,⟨vi,⟨vi,⟨vi,⟨vi,⟨vi,⟨((aZ.ptr<|rq hr)).z,⟨((aZ.slice<|rq hr)).z,⟨vi,trivial⟩⟩⟩⟩⟩⟩⟩⟩⟩⟩⟩⟩⟩,⟨lI (mi 0) (rq hr) (fc.refl _) Xa,⟨lI (mi 2) (rq hr) (fc.refl _)<|Ke ht hlen,trivial⟩⟩⟩) (show(⟨14,aA [(6,(.ptr<|some (270,0))),(7,i0)],34,(dh 14 [1,1,1,1,1]),[],none⟩:AF)=(⟨14,aA [(6,(.ptr<|some (270,0))),(7,i0)],34,(dh 14 [1,1,1,1,1]),[],none⟩:AF)/\(aj (EJ A2 m2 c2 u2 bD) 273)=(aj (EJ A2 m2 c2 u2 bD) 273) from⟨rfl,rfl⟩)))
end Zs
namespace wU
open cj gw LI sR mr uL fq cC cY ia gJ jV lk gi iU lY nA Zs
variable {p:Option AV×(AV->AV)}
theorem uC(l:List St):nm (bC l)=nm (l.map aM).flatten:=by rw[vZ]
def uP(tx:List St):Fr:=⟨tx,0,0,false,Z8,none⟩
def RN(e:Int)(p:AV):AV:=.tuple [p,.int .i64 e]
def Av(args:List AV)(p:Option AV×(AV->AV)):Prop:=∃(tx:List St) (vars:Int) (aN:List Int) (G q:Nat),args=[.ab (nm (tx.map aM).flatten) 0 tx.length,.int .i64 vars,.ab G q aN.length]/\dP encI 1 (.ab G q aN.length) aN/\aN.length<=1000/\(1<=vars/\vars<=32)/\pv 60 tx=true/\ks 60 tx=true/\oB tx (aN.length:Int) true/\ow 60 tx=true/\∃st bb,iH 1000 [uP tx] [[]]=some (st,bb)/\p=(some<|eS ⟨vars,aN,Z8,bb,st.reverse,0⟩,RN 0)
theorem ani{l:List St}{n:Int}{b b':Bool}(h:oB l n b)(h':oB l n b'):b=b':=by
 obtain⟨c1,c2,p,a1,a2,a3⟩:=h;obtain⟨c1',c2',p',b1,b2,b3⟩:=h';rw[a1] at b1;injection b1 with b1;injection b1 with _ q1 q2 _
 injection q1 with _ q1;injection q2 with _ q2
 rw[a2] at b2;injection b2 with b2
 rw[a3,b3,q1,q2,b2]
theorem Av.bJ{args:List AV}{p':Option AV×(AV->AV)}(h:Av args p)(h':Av args p'):p=p':=by
 obtain⟨tx,vars,aN,G,q,rfl,i1,_,_,_,_,_,_,st,bb,s1,rfl⟩:=h;obtain⟨tx',vars',Mm,G',q',e,i2,_,_,_,_,_,_,br,bb',s2,rfl⟩:=h';simp only[TQ,AV.ab.injEq,AV.int.injEq,true_and,_root_.and_true] at e;obtain⟨⟨e1,e2⟩,rfl,rfl,rfl,e3⟩:=e;rw[←uC, ←uC] at e1;have e1:=tV _ _<|uu (mg _) (mg _) e1;subst e1;rw[←e3] at i2;have e4:=dP.inj sa i1 (by rw[e3] at i2 ⊢;exact i2);subst e4;rw[s1] at s2;injection s2 with s2;injection s2 with g1 g2
 rw[g1,g2]
open Classical in
def Fh(args:List AV):Option<|Option AV×(AV->AV):=if h:∃p,Av args p then some h.choose else none
theorem adQ{args:List AV}(h:Fh args=some p):Av args p:=by
 unfold Fh at h;split at h
 ·rename_i q;injection h with h;rw[←h];exact q.choose_spec
 ·cases h
theorem aeZ{args:List AV}(h:Av args p):Fh args=some p:=by unfold Fh;have q:∃p,Av args p:=⟨p,h⟩;rw[dif_pos q];exact congrArg some<|Av.bJ q.choose_spec h
def YI:FuncId×KE:=(14,.new 4 Fh)
theorem ae0(tx:List St):iM [uP tx]:=fun f hf=>by rw[TC] at hf;subst hf;exact⟨⟨by show(0:Int)<=0;omega,by show(0:Int)<=1000000;omega⟩,rfl⟩
theorem ae1(hP:bY pg){L:bV}(h:aY L):aY<|YI::L:=by
 refine WE zt hP gW (aI.1 aV) jT jb h (WW hP<|ajm hP<|aeH hP<|ams hP 60<|akW hP dj) Tryd.func14 (body:=aL pg 14 []) aV aV fun args p e=>?_;obtain⟨tx,vars,aN,G,q,rfl,i1,hl,a,d1,d2,m,gc,st,bb,hs,rfl⟩:=adQ e;have cN:[AV.ab (nm (tx.map aM).flatten) 0 tx.length,.int .i64 (aN.length:Int)].all AV.hi=true:=by rw[TS, ←uC,uA];rfl
 have hm:∀b,pv 60 tx=true->ks 60 tx=true->oB tx (aN.length:Int) b->bc (aK uM) [.ab (nm (tx.map aM).flatten) 0 tx.length,.int .i64 (aN.length:Int)]=some (.bool b):=fun b h1 h2 h3=>eV (eQ uM.bJ ⟨tx,_,b,by rw[uC],h1,h2,h3,rfl⟩) cN rfl;refine⟨aI.1 aV,fun e0 B mc=>?_,fun v e0=>?_⟩
 ·cases e0
 ·injection e0 with e0
  subst e0;refine⟨Am.tup rfl,fun B mc=>?_⟩;rw[←gX];let A:MN:=⟨vars,nm (aN.map Ao).flatten,0,aN.length,aN,0,0,0,0,0,0,0,0,0⟩;have m0:eO A 1 1 [uP tx] [[]]:=⟨dP.ar M5 aN,Qj,ae0 tx,Tz 1,Tz 1,by show 1<=1000000;omega,a⟩;obtain⟨n',di,d⟩:=ug (st:=[uP tx]) m0 rfl hs;have pI:bc (aK yA) [.ab G q aN.length]=some (.ab (nm (aN.map encI).flatten) 0 aN.length):=eV (eQ yA.bJ ⟨G,q,aN,rfl,i1,by omega,rfl⟩) (by rw[TS,i1.hi];rfl) (dP.ar eI aN).hi;have S9:bc (aK<|qS 60) [.ab (nm (tx.map aM).flatten) 0 tx.length]=some (.ab (nm (tx.map aM).flatten) 0 tx.length):=eV (eQ qS.bJ ⟨tx,by rw[uC],gc,by rw[uC]⟩) (by rw[TS, ←uC,uA];rfl) (by rw[←uC];exact uA tx);have ok:yv ⟨vars,aN,Z8,bb,st.reverse,0⟩:=by refine⟨rfl,d.gh.buf,?_,hl,a⟩;show st.reverse.length<=1000;rw[←d.eq,UC,T4];have:=d.le;omega
  have key:=ah4 (vars:=vars) (G:=G) (q:=q) (tx:=tx) (aN:=aN) (A2:=A) (m2:=n') (c2:=1) (u2:=bZ bb) (bD:=di) mc (hm _ d1 d2 m) a pI S9 rfl d.gh.len d.gh.aN.cN Ry Ry Ry;have e1:di.take n'=st.reverse:=by rw[←d.eq,UC]
  have fC:(st.reverse).length=n':=by rw[←e1,T4];have:=d.gh.nX;omega
  have e2:di=st.reverse++di.drop n':=by rw[←e1,VP]
  refine Ms (Tz _) (Zl fun y1 s' q=>⟨q.1,gZ ⟨vars,aN,Z8,bb,st.reverse,0⟩ (di.drop n') 1,XT.uX _ ok _ _ ⟨by rw[fC];exact d.gh.rP,by rw[←e2];exact d.gh.len,fun f hf=>d.gh.oX f<|Wt hf⟩,?_⟩) key;have hx:=q.2;have e3:=anf ⟨vars,aN,Z8,bb,st.reverse,0⟩ (di.drop n') 1;rw[←e3];show ∀m o,(m,o)∈dW 270 3 (dB _ (st.reverse).length 1 (st.reverse++di.drop n') bb)->_;rw[fC, ←e2];exact hx
end wU
namespace Aw
open fj mr As uL cY Bh ia gi iU lY xg wU
variable {tx:List St}
def AR:Nat->Int->List St->Prop
 |0,_,_=>False
 |k+1,n,l=>∀s∈l,nh s n=true/\AR k n (bN s)/\AR k n (bK s)
theorem Xh{k:Nat}{n:Int}(he:∀l p,fZ gN k l (.int .i64 n) (.bool false)=some p->p.ret=true->AR k n l):∀r p,lr (fZ gN k) gN r (.int .i64 n) (.bool false)=some p->p.ret=true->∀s∈r,nh s n=true/\AR k n (bN s)/\AR k n (bK s)
 |[],_,_,_,s,hs=>by cases hs
 |t::r,p,h,hp,s,hs=>by
  unfold lr at h;split at h
  ·cases h
  rename_i p1 e1;obtain⟨n',⟨fC,_⟩,hq⟩:=PL e1;injection fC with _ fC
  subst fC;cases Ta:nh t n with
  |false=>
   rw[Ta,if_neg (by intro q;cases q)] at hq;subst hq;have h:some (pN n)=some p:=h;injection h with h;subst h
   cases hp
  |true=>
   rw[Ta,if_pos rfl] at hq;subst hq;have h:(match fZ gN k (bN t) (.int .i64 n) (.bool false) with
    |none=>none
    |some q=>match q.ret with
     |false=>some q
     |true=>match fZ gN k (bK t) q.v1 q.v2 with
      |none=>none
      |some u=>match u.ret with
       |false=>some u
       |true=>lr (fZ gN k) gN r u.v1 u.v2)=some p:=h
   split at h
   ·cases h
   rename_i q2 e2;rcases BF k _ _ e2 with rfl|rfl
   ·have h:(match fZ gN k (bK t) (.int .i64 n) (.bool false) with
     |none=>none
     |some u=>match u.ret with
      |false=>some u
      |true=>lr (fZ gN k) gN r u.v1 u.v2)=some p:=h
    split at h
    ·cases h
    rename_i q3 e3;rcases BF k _ _ e3 with rfl|rfl
    ·have h:lr (fZ gN k) gN r (.int .i64 n) (.bool false)=some p:=h;rcases Ty.1 hs with rfl|hs
     ·exact⟨Ta,he _ _ e2 rfl,he _ _ e3 rfl⟩
     ·exact Xh he r p h hp s hs
    ·have h:some (pN n)=some p:=h;injection h with h;subst h;cases hp
   ·have h:some (pN n)=some p:=h;injection h with h;subst h;cases hp
theorem BQ{n:Int}:∀k l p,fZ gN k l (.int .i64 n) (.bool false)=some p->p.ret=true->AR k n l
 |0,_,_,h,_=>by cases h
 |k+1,l,p,h,hp=>by
  unfold fZ at h;split at h
  ·exact Xh (BQ k) l p h hp
  ·cases h
theorem Kr(x y:Int):x<=cU x y/\y<=cU x y:=by
 unfold cU;split<;>rename_i q
 ·have:=of_decide_eq_true q;omega
 ·have:=of_decide_eq_false q;omega
theorem Re{k:Nat}:∀(l:List St) (m:Int),m<=l.foldl (fun m s=>jK (bN s).length (bK s).length m (fR k<|bN s)<|fR k<|bK s) m/\∀s∈l,(bN s≠[]->fR k (bN s)<=l.foldl (fun m s=>jK (bN s).length (bK s).length m (fR k<|bN s)<|fR k<|bK s) m)/\(bK s≠[]->fR k (bK s)<=l.foldl (fun m s=>jK (bN s).length (bK s).length m (fR k<|bN s)<|fR k<|bK s) m)
 |[],m=>⟨Vd _,fun s h=>by cases h⟩
 |t::l,m=>by
  have one:m<=jK (bN t).length (bK t).length m (fR k<|bN t) (fR k<|bK t)/\(bN t≠[]->fR k (bN t)<=jK (bN t).length (bK t).length m (fR k<|bN t) (fR k<|bK t))/\(bK t≠[]->fR k (bK t)<=jK (bN t).length (bK t).length m (fR k<|bN t) (fR k<|bK t)):=by
   have g1:=Kr m<|fR k<|bN t;have g2:=Kr (cU m<|fR k<|bN t)<|fR k<|bK t;have g3:=Kr m<|fR k<|bK t;unfold jK;by_cases c1:0<(bK t).length<;>by_cases c2:0<(bN t).length
   ·rw[if_pos c1,if_pos c2];exact⟨by omega,fun _=>by omega,fun _=>by omega⟩
   ·rw[if_pos c1,if_neg c2];exact⟨by omega,fun q=>absurd (V4.2 q) c2,fun _=>by omega⟩
   ·rw[if_neg c1,if_pos c2];exact⟨by omega,fun _=>by omega,fun q=>absurd (V4.2 q) c1⟩
   ·rw[if_neg c1,if_neg c2];exact⟨Vd _,fun q=>absurd (V4.2 q) c2,fun q=>absurd (V4.2 q) c1⟩
  obtain⟨a1,a2⟩:=Re (k:=k) l<|jK (bN t).length (bK t).length m (fR k<|bN t)<|fR k<|bK t;rw[Un];refine⟨VY one.1 a1,fun s hs=>?_⟩;rcases Ty.1 hs with rfl|hs
  ·exact⟨fun q=>VY (one.2.1 q) a1,fun q=>VY (one.2.2 q) a1⟩
  ·exact a2 s hs
theorem abS{s:St}{n:Int}(h:nh s n=true)(hk:0<=fX s):(1<=fX s/\fX s<=8)/\(0<=Fg s/\Fg s<8):=by
 obtain⟨kind,to,a,b,bd,el⟩:=s;have h:Bi (qF kind) to a b bd el n=true:=h;have hk:0<=kind:=hk;show(1<=kind/\kind<=8)/\(0<=to/\to<8);have IV:∀l,Bi l to a b bd el n=true->0<=to/\to<8:=fun l h=>by
  unfold Bi at h;split at h
  ·obtain⟨_,h⟩:=and_true.1 h;obtain⟨h,_⟩:=and_true.1 h;exact of_decide_eq_true h
  ·cases h
 refine⟨?_,IV _ h⟩;by_cases c:kind<=8
 ·refine⟨?_,c⟩;by_cases c0:kind=0
  ·subst c0;exfalso;have e:qF 0=[false,false,false,false,false,false]:=rfl;rw[e] at h;cases h
  ·omega
 ·exfalso;have e:qF kind=[false,false,false,false,false,false]:=by unfold qF;rw[T9,Uf (show M7.length<=kind.toNat by show 9<=kind.toNat;omega)];rfl
  rw[e] at h;cases h
def Ih:Nat->List St->Prop
 |0,_=>True
 |k+1,l=>∀s∈l,0<=fX s/\Ih k (bN s)/\Ih k (bK s)
theorem Rf{n:Int}:∀(d k:Nat) (l:List St),ks k l=true->AR k n l->Ih k l->fR k l<=d->kZ d l
 |_,0,_,h,_,_,_=>by cases h
 |0,k+1,l,_,_,_,h=>by have h:l.foldl _ 0+1<=(0:Int):=h;have:=(Re (k:=k) l 0).1;omega
 |d+1,k+1,l,hc,ha,hp,h=>by
  have h:l.foldl (fun m s=>jK (bN s).length (bK s).length m (fR k<|bN s)<|fR k<|bK s) 0+1<=((d+1:Nat):Int):=h;obtain⟨c1,c2⟩:=and_true.1 (show(decide (l.length<=1000000)&&l.all fun s=>ks k (bN s)&&ks k (bK s))=true from hc);refine⟨of_decide_eq_true c1,fun s hs=>?_⟩;obtain⟨a1,a2,a3⟩:=ha s hs;obtain⟨p1,p2,p3⟩:=hp s hs;obtain⟨e1,e2⟩:=and_true.1<|TG.1 c2 s hs;obtain⟨g1,g2⟩:=(Re (k:=k) l 0).2 s hs;obtain⟨q1,q2⟩:=abS a1 p1;refine⟨q1,q2,?_,?_⟩
  ·by_cases z:bN s=[]
   ·rw[z];exact Xg d
   ·have:=g1 z;exact Rf d k _ e1 a2 p2 ae
  ·by_cases z:bK s=[]
   ·rw[z];exact Xg d
   ·have:=g2 z;exact Rf d k _ e2 a3 p3 ae
theorem ah5{n:Int}(h:oB tx n true)(hc:ks 60 tx=true)(hp:Ih 60 tx):kZ 6 tx:=by obtain⟨c1,c2,p,_,e,hb⟩:=h;obtain⟨h1,h2⟩:=and_true.1 hb.symm;obtain⟨h2,_⟩:=and_true.1 h2;have h1:=of_decide_eq_true h1;exact Rf 6 60 tx hc (BQ 60 tx p e h2) hp h1.2.2.1
theorem agB{vars:Int}{aN:List Int}(h:kZ 6 tx)(hg:aN.length<=1000)(hv:1<=vars/\vars<=32):∃st bb,iH 1000 [uP tx] [[]]=some (st,bb)/\mV ⟨vars,aN,Z8,bb,st.reverse,0⟩:=by
 have hi:Inv [uP tx] [[]]:=⟨⟨h,⟨by show(0:Int)<=0;omega,by show(0:Int)<=_;omega⟩,⟨by show(0:Int)<=0;omega,by show(0:Int)<=7;omega⟩,rfl,fun c=>(by cases c),trivial⟩,rfl,Qj⟩;obtain⟨br,b',e,i,_⟩:=Gl 1000 _ _ hi (by have:=PY hi.wf;have l1:[uP tx].length=1:=rfl;omega);refine⟨br,b',e,?_,rfl,?_,hg,hv⟩
 ·show Inv br.reverse.reverse b';rw[UC];exact i
 ·show br.reverse.reverse=[]\/∃f r,br.reverse.reverse=f::r/\_;rw[UC];exact DV _ _ _ _ _ e
end Aw
namespace Ii
open cj fq pF Ie oJ
variable {L:bV}
abbrev tG(n:Nat):AS->AS:=Zp 270 dk dK n
abbrev tQ(k n:Nat)(u:AV):AS->Prop:=Zo 270 dk dK k n u
theorem tR{T:Prop}(L:bV)(g k n:Nat)(val:AV->List AV->Option AV)(rest:List AV)(v y:AV)(hv:val v rest=some y)(t:T)(h4:y.hi=true)(h1:sp L g=some (pG k val 270 dK dk):=by as_aux_lemma=>kernel_rfl)(h2:(rest.all AV.hi&&Tw 270 n)=true:=by as_aux_lemma=>kernel_rfl)(h3:Tv n top=true:=by as_aux_lemma=>kernel_rfl):
 (∀s,tQ k n v s->ba pg (sp L) FU 6 (.fn g) (.ptr (some (n,0))::rest) s= .ok y (tG n s))/\(true=true/\true=true/\some (ah.tok k v)=some (.tok k v))/\T:=
 ⟨agt (P:=pg) (F:=FU) (m:=5) h1 h2 h3 hv h4,⟨rfl,rfl,rfl⟩,t⟩
theorem YJ{a:dX}{bB:List Fr}{c:Nat}{s:AS}(h0:s.h.get 270=some (az iB<|Hu a c))(h1:s.h.get 271=some (.tok 3<|bZ a.b))(h2:s.h.get 272=some (az aS<|a.fs++bB)):∀m o,(m,o)∈gZ a bB c->s.h.get m=some o:=fun m o h=>by simp only[gZ,Ty,TV,or_false,Prod.mk.injEq] at h;rcases h with⟨rfl,rfl⟩|⟨rfl,rfl⟩|⟨rfl,rfl⟩<;>assumption
section
variable {B:aE} {a:dX} {bB:List Fr} {c:Nat}
theorem ah6(mc:Mt [Rb] B)(h:yv a)(hj:uv a bB c)(hl:(allM a.b).length<100000)(g0:(tG 271<|aj (aq++bf (gZ a bB c)) 273).h.get 270=some (az iB<|Hu a c):=by as_aux_lemma=>kernel_rfl)(g1:(tG 271<|aj (aq++bf (gZ a bB c)) 273).h.get 271=some (.tok 3<|bZ a.b):=by as_aux_lemma=>kernel_rfl)(g2:(tG 271<|aj (aq++bf (gZ a bB c)) 273).h.get 272=some (az aS<|a.fs++bB):=by as_aux_lemma=>kernel_rfl):
 av pg B 271 (kB XT pg (aC Tryd.f18) 4 (ar aO<|eC<|allM a.b)<|eS a) (sF 18 Tryd.f18 [.ptr<|some (270,0)]) (aj (aq++bf (gZ a bB c)) 273):=
 F1 mc (R:=fun y s=>rz 4 (ar aO<|eC<|allM a.b) (eS a) s y) (.st 8<|.rg<|.go 4<|.cg (ar aO<|eC<|allM a.b) (tG 271) (tQ 3 271<|bZ a.b)<|.go 1<|.en<|.rt 1 .no) (tR [Rb] 42 3 271 (px bZ Ra) [] (bZ a.b) (ar aO<|eC<|allM a.b) (by rw[J1 ua];exact if_pos hl) (T:=rz 4 (ar aO<|eC<|allM a.b) (eS a) (tG 271<|aj (aq++bf (gZ a bB c)) 273)<|ar aO<|eC<|allM a.b) ⟨rfl,_,.uX a h bB c hj,YJ g0 g1 g2⟩<|aI.2<|cR _) cf cf
theorem ah7(mc:Mt [] B)(h:yv a)(hj:uv a bB c)(g0:(aj (aq++bf (gZ a bB c)) 273).h.get 270=some (az iB<|Hu a c):=by as_aux_lemma=>kernel_rfl)(g1:(aj (aq++bf (gZ a bB c)) 273).h.get 271=some (.tok 3<|bZ a.b):=by as_aux_lemma=>kernel_rfl)(g2:(aj (aq++bf (gZ a bB c)) 273).h.get 272=some (az aS<|a.fs++bB):=by as_aux_lemma=>kernel_rfl):
 av pg B 271 (kB XT pg (aC Tryd.f19) 4 (.int .i64 a.steps)<|eS a) (sF 19 Tryd.f19 [.ptr<|some (270,0)]) (aj (aq++bf (gZ a bB c)) 273):=
 F1 mc (R:=fun y s=>rz 4 (.int .i64 a.steps) (eS a) s y) (.rt 10 .no) (T:=rz 4 (.int .i64 a.steps) (eS a) (aj (aq++bf (gZ a bB c)) 273)<|.int .i64 a.steps) ⟨rfl,_,.uX a h bB c hj,YJ g0 g1 g2⟩ cf cf
end
def IY:dX->List AV->Option AV
 |a,[]=>if(allM a.b).length<100000 then some (ar aO<|eC<|allM a.b) else none
 |_,_=>none
def Gb:dX->List AV->Option AV
 |a,[]=>some<|.int .i64 a.steps
 |_,_=>none
def Zt:FuncId×KE:=(18,.raw<|pG 4<|px eS IY)
def Zu:FuncId×KE:=(19,.raw<|pG 4<|px eS Gb)
theorem agC(hP:bY pg)(hs:Cl pg 60 61)(h:aY L):aY<|Zt::L:=by
 refine J0 zt hP gW qR jT jb mU mA h (aeX hP hs dj) Tryd.func18 (body:=aL pg 18 []) aV aV fun v rest y e=>?_;obtain⟨a,rfl,e1⟩:=JE e;unfold IY at e1;split at e1<;>(try split at e1)<;>cases e1;rename_i q;refine⟨aI.1 aV,fun L hx=>?_⟩;generalize hv:eS a=v at hx;cases hx with
 |uX b hb bB c hj=>have:=v7 _ _ hv;subst this;exact⟨273,by omega,aI.1 aV,GY,fun B mc=>ah6 mc hb hj q⟩
theorem agD(hP:bY pg)(h:aY L):aY<|Zu::L:=by
 refine J0 zt hP gW qR jT jb mU mA h dj Tryd.func19 (body:=aL pg 19 []) aV aV fun v rest y e=>?_;obtain⟨a,rfl,e1⟩:=JE e;unfold Gb at e1;split at e1<;>cases e1;refine⟨aI.1 aV,fun L hx=>?_⟩;generalize hv:eS a=v at hx;cases hx with
 |uX b hb bB c hj=>have:=v7 _ _ hv;subst this;exact⟨273,by omega,aI.1 aV,GY,fun B mc=>ah7 mc hb hj⟩
end Ii
namespace CX
open cj fq iL pF Ie oJ Ii sS wU
variable {x an xn:Int} {ws:List<|Int×Int} {aP a:Nat} {r:Nat->Nat} {fz:jl} {b:Bool} {t:Tr AV} {s:AS} {T:Prop} {K:List Item}
abbrev me:bV:=[YI,X1,YE,Zn,Zt,Zu,YG]
abbrev z0:AV:=.int .i64<|.ofNat 0
abbrev nl:AV:=.slice none 0<|.known 0
def Np:List AV:=[z0,.bool false,nl,nl,nl,z0]
def qI(M val rt rd ws:AV):List AV:=[M,.ptr<|some (271,0),val,rt,rd,ws,nl,z0]
def pV(um:AV)(c:List AV):List<|Nat×Option ah:=aq++[(270,some<|.cells 6 (Tr.fill Np 0 .nil) []),(271,some<|.tok 4 um),(272,some<|.cells 8 (Tr.fill c 0 .nil) [])]
def IZ:List (Int×Int)->AV
 |[]=>nl
 |p::r=>.slice (some (273,0)) (p::r).length<|.au (p::r).length 2
def oR:List (Int×Int)->List (Nat×Option ah)
 |[]=>[]
 |p::r=>[(273,some<|az aO<|p::r)]
def nR:List (Int×Int)->Nat
 |[]=>273
 |_::_=>274
def ki:List<|Nat×AV:=[(6,.ptr<|some (270,0)),(8,.ptr<|some (271,0)),(10,.ptr<|some (272,0))]
abbrev qJ:Nat:=max Tryd.f7.ntmps 3
def nY:AF:=⟨7,aA ki,qJ,[.code<|aL pg 7 [1,1,1,1,0,0],.inLoop<|aL pg 7 [1,1,1,1,0,0],.inBlock 0],[],none⟩
abbrev oD(um M:AV)(reads:List<|Int×Int):List<|Nat×Option ah:=pV um (qI M z0 (.bool false) (IZ reads) nl)++oR reads
abbrev fV(um M:AV)(reads:List<|Int×Int):AS:=aj (oD um M reads)<|nR reads
abbrev fW(B:aE)(v:AV)(fr:AF)(s:AS):Prop:=av pg B 270 (Fin pg (aC Tryd.f7) fun y _=>y=v) fr s
theorem Bt{nx:Nat}{l0 l:List<|Nat×AV}{o0 o:List<|Nat×Option ah}(hs:273<=aP/\aP<top)(ha:273<=a/\a<top)(hn:nx=274\/nx=273/\aP<=a)(hl:∀r:Nat->Nat,(∀k,k<273->r k=k)->(∀k,top<=k->r k=k)->r 273=a->∀p∈l,p.1<top/\∃x,(p.1,x)∈l0/\gE fz r x p.2)(ho:∀r:Nat->Nat,(∀k,k<273->r k=k)->(∀k,top<=k->r k=k)->r 273=a->∀p∈o,p.1<nx/\∀y,p.2=some y->y.iA=true/\∃x,(r p.1,some x)∈o0/\fc x y/\dT fz r x y)(hz:∀p∈fz,nx=273/\273<=p.1/\p.1<top/\FU p.2.1=some p.2.2/\∃N t z,(p.1,some<|.cells N t z)∈o0/\∀i x,p.2.2[i]? =some x->i<N/\cellAt t z i=some x/\x.bM=true/\x.cN=true):fy FU 270 aP l0 o0 l o nx:=by
 let r:Nat->Nat:=fun k=>if k<273\/top<=k then k else if k=273 then a else max k aP
 have r1:∀k,k<273->r k=k:=fun k hk=>if_pos<|.inl hk;have r2:∀k,top<=k->r k=k:=fun k hk=>if_pos<|.inr hk;have r3:r 273=a:=by show(if _ then _ else _)=_;rw[if_neg dV,if_pos rfl]
 have t0:274<top:=by unfold top;omega
 refine⟨fz,r,fun k hk=>r1 k ae,fun k c d=>?_,r2,by omega,hl r r1 r2 r3,fun p hp=>?_,fun p hp q hq _ _ e=>?_,fun p hp=>?_,fun p hp q hq _ e=>?_⟩
 ·by_cases q:k=273
  ·rw[q,r3];omega
  ·show aP<=(if _ then _ else _)/\(if _ then _ else _)<top;rw[if_neg ae,if_neg q];omega
 ·obtain⟨c,d⟩:=ho r r1 r2 r3 p hp;refine⟨by omega,fun y hy=>?_⟩;obtain⟨e1,x,e2,e3,e4⟩:=d y hy;refine⟨?_,e1,x,e2,e3,e4⟩;by_cases q:p.1=273
  ·rw[q,r3];exact ha.2
  ·rw[r1 _ ae];omega
 ·have c:=(ho r r1 r2 r3 p hp).1;have d:=(ho r r1 r2 r3 q hq).1;by_cases e1:p.1=273<;>by_cases e2:q.1=273
  ·rw[e1,e2]
  ·rw[e1,r3,r1 _ ae] at e;omega
  ·rw[e2,r3,r1 _ ae] at e;omega
  ·rw[r1 _ ae,r1 _ ae] at e;exact e
 ·exact(hz p hp).2.2
 ·have c:=(ho r r1 r2 r3 q hq).1;have d:=hz p hp;rw[r1 _ ae] at e;omega
theorem Qx(hr:∀k,k<273->r k=k){um:AV}{c c':List AV}(hc:lz fz r c c')(h8:c'.length=8)(h1:c'.all AV.bM=true):∀p∈pV um c',p.1<273/\∀y,p.2=some y->y.iA=true/\∃x,(r p.1,some x)∈pV um c/\fc x y/\dT fz r x y:=fun p hp=>by
 unfold pV at hp ⊢;rcases TP.1 hp with hp|hp
 ·obtain⟨a,b⟩:=yN (fz:=fz) (fun k hk=>hr k ae) p hp;refine⟨by omega,fun y hy=>?_⟩;obtain⟨d,e⟩:=b y hy;rw[hr _ ae];exact⟨d,y,T7 _ HY,fc.refl _,e⟩
 ·simp only[Ty,TV,or_false] at hp;rcases hp with rfl|rfl|rfl
  ·refine⟨by show 270<273;omega,fun y hy=>?_⟩;cases hy;rw[show r (270,some<|ah.cells 6 (Tr.fill Np 0 .nil) []).1=270 from hr 270 ae];exact⟨rfl,_,TU _ TA,fc.refl _,dT.cells (l:=Np) (m:=Np) (by show 6<=top;unfold top;omega) ⟨(aZ.int _ _).z,(aZ.bool _).z,aZ.rZ.z,aZ.rZ.z,aZ.rZ.z,(aZ.int _ _).z,trivial⟩ rfl⟩
  ·refine⟨by show 271<273;omega,fun y hy=>?_⟩;cases hy;rw[show r (271,some<|ah.tok 4 um).1=271 from hr 271 ae];exact⟨rfl,_,TU _<|TB _ TA,fc.refl _,fun _ _ _ _ _ _=>trivial⟩
  ·refine⟨by show 272<273;omega,fun y hy=>?_⟩;cases hy;rw[show r (272,some<|ah.cells 8 (Tr.fill c' 0 .nil) []).1=272 from hr 272 ae];have e8:c.length=8:=hc.length.trans h8;refine⟨rfl,.cells 8 (Tr.fill c 0 .nil) [],TU _<|TB _<|TB _ TA,lM,?_⟩;have:=dT.cells (fz:=fz) (r:=r) (l:=c) (m:=c') (by rw[e8];unfold top;omega) hc h1;rw[e8,h8] at this;exact this
abbrev Tb(o0:List<|Nat×Option ah)(um M:AV)(reads:List<|Int×Int)(aP:Nat):Prop:=(ki.map (fun q=>some q.2)=ki.map (fun q=>some q.2))/\(o0.map (fun q=>q.2)=o0.map (fun q=>q.2))/\fy FU 270 aP ki o0 ki (oD um M reads) (nR reads)/\(nY=nY/\fV um M reads=fV um M reads)
theorem Qy(hr:∀k,k<273->r k=k):∀p∈ki,p.1<top/\∃x,(p.1,x)∈ki/\gE fz r x p.2:=fun p hp=>by
 simp only[ki,Ty,TV,or_false] at hp;rcases hp with rfl|rfl|rfl
 ·exact⟨by show 6<top;unfold top;omega,_,mi 0,(aZ.ptr<|hr 270 ae).z⟩
 ·exact⟨by show 8<top;unfold top;omega,_,mi 1,(aZ.ptr<|hr 271 ae).z⟩
 ·exact⟨by show 10<top;unfold top;omega,_,mi 2,(aZ.ptr<|hr 272 ae).z⟩
variable {B:aE} {v um lK:AV} {N o L:Nat} {reads:List<|Int×Int}
theorem Qz(hr:∀k,k<273->r k=k)(ht:∀k,top<=k->r k=k)(hN:top<=N){val rt rd rd' ws S3:AV}(h1:gE fz r val val)(h2:gE fz r rt rt)(h3:gE fz r rd rd')(h4:gE fz r ws S3):lz fz r (qI (.ab N o L) val rt rd ws)<|qI (.ab N o L) val rt rd' S3:=⟨(aZ.ab (ht _ hN) ht).z,(aZ.ptr<|hr 271 ae).z,h1,h2,h3,h4,aZ.rZ.z,(aZ.int _ _).z,trivial⟩
theorem ah8(hN:top<=N)(hs:273<=aP/\aP<290):Tb (oD um (.ab N o L) []) um (.ab N o L) [] aP:=⟨rfl,rfl,Bt (a:=aP) (fz:=[]) ⟨hs.1,by unfold top;omega⟩ ⟨hs.1,by unfold top;omega⟩ (.inr ⟨rfl,Tz _⟩) (fun r r1 r2 r3=>Qy r1) (fun r r1 r2 r3 p hp=>by rw[show oD um (.ab N o L) []=pV um (qI (.ab N o L) z0 (.bool false) nl nl) from U8 _] at hp ⊢;exact Qx r1 (Qz r1 r2 hN (aZ.int _ _).z (aZ.bool _).z aZ.rZ.z aZ.rZ.z) rfl rfl p hp) (fun p hp=>by cases hp),rfl,rfl⟩
theorem QA{q:Int×Int}{r:List<|Int×Int}(hN:top<=N)(ha:273<=a/\a<290)(hs:273<=aP/\aP<290)(hl:(q::r).length<=1000000):Tb (pV um (qI (.ab N o L) z0 (.bool false) (.slice (some (a,0)) (q::r).length<|.au (q::r).length 2) nl)++[(a,some<|az aO<|q::r)]) um (.ab N o L) (q::r) aP:=
 ⟨rfl,rfl,Bt (a:=a) (fz:=[]) ⟨hs.1,by unfold top;omega⟩ ⟨ha.1,by unfold top;omega⟩ (.inl rfl) (fun r r1 r2 r3=>Qy r1) (fun f r1 r2 r3 p hp=>by
  rcases TP.1 hp with hp|hp
  ·obtain⟨c1,c2⟩:=Qx r1 (Qz r1 r2 hN (aZ.int _ _).z (aZ.bool _).z (aZ.slice (n:=a) r3).z aZ.rZ.z) rfl rfl p hp;refine⟨by show p.1<274;omega,fun y hy=>?_⟩;obtain⟨d1,x,d2,d3,d4⟩:=c2 y hy;exact⟨d1,x,T7 _ d2,d3,d4⟩
  ·rw[oR,TC] at hp;subst hp;refine⟨by show 273<274;omega,fun y hy=>?_⟩;cases hy;exact⟨rfl,_,TU _ (by show(f 273,_)∈_;rw[r3];exact TC.2 rfl),fc.refl _,(lh.az (fun x=>⟨rfl,rfl⟩)<|GP hl).z⟩) (fun p hp=>by cases hp),rfl,rfl⟩
abbrev pW(k:Int)(an xn:Int):AV:=.agg [.int .u8 k,.int .i64 an,.int .i64 xn]
abbrev vO:AV->List AV->Option AV:=px eS fun a rest=>(Mu a rest).map (·.1)
theorem cD(mc:Mt me B){M:AV}(H:fW B v nY<|fV lK M reads)(p:Pl)(x:T)(h:T=wp (en me) 900 6 (.fr 7 qJ K t s) p (aC Tryd.f7) (fun y _ _=>y=v) (fun fr s1 _=>fr=nY/\s1=fV lK M reads))(h0:Tw 270 s.nx=true):fW B v ⟨7,t,qJ,K,[],none⟩ s:=wC mc (C:=fun fr s1 _=>fr=nY/\s1=fV lK M reads) HU p x h h0
theorem jL(mc:Mt me B)(hN:top<=N)(hl:reads.length<=100000)(k1:vO um []=some (pW 1 an xn))(k2:iZ (ir eS HD) um []=some (.int .i64 0,lK))(H:fW B v nY<|fV lK (.ab N o L) reads):fW B v nY<|fV um (.ab N o L) reads:=by
 have rn:Tb (oD lK (.ab N o L) reads) lK (.ab N o L) reads<|nR reads+1:=by
  cases reads with
  |nil=>exact ah8 hN (by show 273<=274/\274<290;omega)
  |cons q r=>exact QA (a:=273) hN ae (by show 273<=275/\275<290;omega) ae
 have T:=tR me 15 4 271 vO [] um (pW 1 an xn) k1 (ai k2 rn) rfl;clear k1 k2 rn;exact cD mc H (.st 3<|.rg<|.go 1<|.cg (pW 1 an xn) (tG 271) (tQ 4 271 um)<|.go 2<|.en<|.st 7<|.rg<|.go 1<|.kt (.int .i64 0) lK<|.en<|.st 2<|.rn ki (oD lK (.ab N o L) reads) ki (oD lK (.ab N o L) reads) (nR reads+1) (nR reads) .no) T (by clear T H;cases reads<;>kernel_rfl) (by cases reads<;>kernel_rfl)
theorem alo(mc:Mt me B)(hN:top<=N)(k1:vO um []=some (pW 2 an xn))(ha:0<=an/\an<(L:Int))(hx:cZ FU N (o+an.toNat*1+0) 1=some [.int .i64 x])(k2:iZ (ir eS AQ) um [.int .i64 x]=some (.int .i64 0,lK))(H:fW B v nY<|fV lK (.ab N o L) [(an,x)]):fW B v nY<|fV um (.ab N o L) []:=cD mc H (.st 3<|.rg<|.go 1<|.cg (pW 2 an xn) (tG 271) (tQ 4 271 um)<|.go 2<|.en<|.st 10<|.rg<|.go 3<|.il<|.st 1<|.rg<|.go 5<|.cm<|.cn [.int .i64 x]<|.go 1<|.en<|.st 2<|.rg<|.go 5<|.kt (.int .i64 0) lK<|.en<|.rt 1<|.en<|.st 2<|.rn ki (pV lK (qI (.ab N o L) z0 (.bool false) (.slice (some (275,0)) [(an,x)].length<|.au [(an,x)].length 2) nl)++[(275,some<|az aO [(an,x)])]) ki (oD lK (.ab N o L) [(an,x)]) 276 274 .no) (tR me 15 4 271 vO [] um (pW 2 an xn) k1 (ai (show(0:Int)<=an from ha.1)<|ai (show an<(L:Int) from ha.2)<|ai hN<|ai hx<|ai k2<|QA (um:=lK) (o:=o) (L:=L) (q:=(an,x)) (r:=[]) (a:=275) (aP:=276) hN ae ae<|by simp) rfl) cf cf
theorem alp{q:Int×Int}{r:List<|Int×Int}(mc:Mt me B)(hN:top<=N)(hl:(q::r).length<=100000)(k1:vO um []=some (pW 2 an xn))(ha:0<=an/\an<(L:Int))(hx:cZ FU N (o+an.toNat*1+0) 1=some [.int .i64 x])(k2:iZ (ir eS AQ) um [.int .i64 x]=some (.int .i64 0,lK))(H:fW B v nY<|fV lK (.ab N o L)<|q::(r++[(an,x)])):fW B v nY<|fV um (.ab N o L)<|q::r:=cD mc H (.st 3<|.rg<|.go 1<|.cg (pW 2 an xn) (tG 271) (tQ 4 271 um)<|.go 2<|.en<|.st 10<|.rg<|.go 3<|.il<|.st 1<|.rg<|.go 5<|.cm<|.cn [.int .i64 x]<|.go 1<|.en<|.st 1<|.rg<|.go 10<|.ap (Int×Int) aO (q::r) (an,x)<|.go 4<|.en<|.rg<|.go 5<|.kt (.int .i64 0) lK<|.en<|.rt 1<|.en<|.st 2<|.rn ki (pV lK (qI (.ab N o L) z0 (.bool false) (.slice (some (276,0)) (q::(r++[(an,x)])).length<|.au (q::(r++[(an,x)])).length 2) nl)++[(276,some<|az aO<|q::(r++[(an,x)]))]) ki (oD lK (.ab N o L)<|q::(r++[(an,x)])) 277 274 .no) (tR me 15 4 271 vO [] um (pW 2 an xn) k1 (ai (show(0:Int)<=an from ha.1)<|ai (show an<(L:Int) from ha.2)<|ai hN<|ai hx<|Sv aO (q::r) (an,x) (K:=2) (ln:=16) Zr (by unfold room;omega) dV<|ai k2<|QA (um:=lK) (o:=o) (L:=L) (q:=q) (r:=r++[(an,x)]) (a:=276) (aP:=277) hN ae ae (by have e:(q::(r++[(an,x)])).length=(q::r).length+1:=(by simp only[TL,TM,Ub]);omega)) rfl) cf cf
def ga:AF:=⟨7,aA ki,qJ,[.code<|aL pg 7 [1,1,1,1,0,0,0,1,0],.code<|aL pg 7 [1,1,1,1,0,0,0,1,1],.inBlock 1,.inLoop<|aL pg 7 [1,1,1,1,0,0],.inBlock 0],[],none⟩
abbrev zD(um M:AV)(x:Int)(b:Bool)(reads ws:List<|Int×Int):AS:=aj (pV um<|qI M (.int .i64 x) (.bool b) (ar aO reads)<|ar aO ws) 273
abbrev Ga(o0:List<|Nat×Option ah)(um M:AV)(x:Int)(b:Bool)(reads ws:List<|Int×Int)(aP:Nat):Prop:=(ki.map (fun q=>some q.2)=ki.map (fun q=>some q.2))/\(o0.map (fun q=>q.2)=o0.map (fun q=>q.2))/\fy FU 270 aP ki o0 ki (pV um<|qI M (.int .i64 x) (.bool b) (ar aO reads)<|ar aO ws) 273/\(ga=ga/\zD um M x b reads ws=zD um M x b reads ws)
def Bu:List (Int×Int)->jl
 |[]=>[]
 |p::r=>[(273,nm ((p::r).map aO).flatten,((p::r).map aO).flatten)]
theorem ah9(ht:∀k,top<=k->r k=k):gE (Bu reads) r (IZ reads)<|ar aO reads:=by
 cases reads with
 |nil=>exact B0
 |cons p l=>exact BZ (TC.2 rfl) ht rfl
theorem X8{w0:AV}(hN:top<=N)(hs:273<=aP/\aP<290)(hl:reads.length<=100000)(hw:∀r:Nat->Nat,(∀k,top<=k->r k=k)->gE (Bu reads) r w0 (ar aO ws)):Ga (pV um (qI (.ab N o L) (.int .i64 x) (.bool b) (IZ reads) w0)++oR reads) um (.ab N o L) x b reads ws aP:=
 ⟨rfl,rfl,Bt (a:=aP) (fz:=Bu reads) ⟨hs.1,by unfold top;omega⟩ ⟨hs.1,by unfold top;omega⟩ (.inr ⟨rfl,Tz _⟩) (fun r r1 r2 r3=>Qy r1) (fun r r1 r2 r3 p hp=>by
  obtain⟨c1,c2⟩:=Qx r1 (Qz r1 r2 hN (aZ.int _ _).z (aZ.bool _).z (ah9 r2)<|hw r r2) rfl rfl p hp;refine⟨c1,fun y hy=>?_⟩;obtain⟨d1,x,d2,d3,d4⟩:=c2 y hy;exact⟨d1,x,T7 _ d2,d3,d4⟩) (fun p hp=>by
  cases reads with
  |nil=>cases hp
  |cons q l=>rw[Bu,TC] at hp;subst hp;exact⟨rfl,Tz _,Ei oJ.vd dV 273 dV<|TU _ TA⟩),rfl,rfl⟩
theorem cT(mc:Mt me B){M:AV}(H:fW B v ga<|zD um M x b reads ws)(p:Pl)(z:T)(h:T=wp (en me) 900 6 (.fr 7 qJ K t s) p (aC Tryd.f7) (fun y _ _=>y=v) (fun fr s1 _=>fr=ga/\s1=zD um M x b reads ws))(h0:Tw 270 s.nx=true):fW B v ⟨7,t,qJ,K,[],none⟩ s:=wC mc (C:=fun fr s1 _=>fr=ga/\s1=zD um M x b reads ws) HU p z h h0
theorem YK:273<=nR reads+1/\nR reads+1<290:=by
 cases reads with
 |nil=>show 273<=274/\274<290;omega
 |cons _ _=>show 273<=275/\275<290;omega
theorem pS(mc:Mt me B)(hN:top<=N)(hl:reads.length<=100000)(k1:vO um []=some (pW 3 an x))(k2:px eS IY um []=some (ar aO ws))(H:fW B v ga<|zD um (.ab N o L) x false reads ws):fW B v nY<|fV um (.ab N o L) reads:=by have T:=tR me 15 4 271 vO [] um (pW 3 an x) k1 (tR me 18 4 271 (px eS IY) [] um (ar aO ws) k2 (X8 (um:=um) (o:=o) (L:=L) (x:=x) (b:=false) (ws:=ws) (w0:=ar aO ws) hN (YK (reads:=reads)) hl fun r ht=>pa ht)<|aI.2<|cR _) rfl;clear k1 k2;exact cT mc H (.st 3<|.rg<|.go 1<|.cg (pW 3 an x) (tG 271) (tQ 4 271 um)<|.go 2<|.en<|.st 12<|.rg<|.go 5<|.cg (ar aO ws) (tG 271) (tQ 4 271 um)<|.go 8<|.en<|.st 2<|.rn ki (pV um (qI (.ab N o L) (.int .i64 x) (.bool false) (IZ reads)<|ar aO ws)++oR reads) ki (pV um<|qI (.ab N o L) (.int .i64 x) (.bool false) (ar aO reads)<|ar aO ws) (nR reads+1) 273 .no) T (by clear T H;cases reads<;>kernel_rfl) (by cases reads<;>kernel_rfl)
theorem Gb(mc:Mt me B)(hN:top<=N)(hl:reads.length<=100000)(k1:vO um []=some (pW 4 an xn))(H:fW B v ga<|zD um (.ab N o L) 0 true reads []):fW B v nY<|fV um (.ab N o L) reads:=by have T:=tR me 15 4 271 vO [] um (pW 4 an xn) k1 (X8 (um:=um) (o:=o) (L:=L) (x:=0) (b:=true) (ws:=[]) (w0:=nl) hN (YK (reads:=reads)) hl fun r _=>B0) rfl;clear k1;exact cT mc H (.st 3<|.rg<|.go 1<|.cg (pW 4 an xn) (tG 271) (tQ 4 271 um)<|.go 2<|.en<|.st 15<|.rn ki (pV um (qI (.ab N o L) (.int .i64 0) (.bool true) (IZ reads) nl)++oR reads) ki (pV um<|qI (.ab N o L) (.int .i64 0) (.bool true) (ar aO reads)<|ar aO []) (nR reads+1) 273 .no) T (by clear T H;cases reads<;>kernel_rfl) (by cases reads<;>kernel_rfl)
abbrev mC(x:Int)(b:Bool)(reads ws:List<|Int×Int)(mm:List Int)(st:Int):AV:=.tuple [.agg [.int .i64 x,.bool b,ar aO reads,ar aO ws,ar encI mm,.int .i64 st],.int .i64 0]
theorem tlD(mc:Mt me B){st:Int}{mm:List Int}(k1:px eS Ii.Gb um []=some (.int .i64 st))(k2:bc (aK Ff) [.ab N o L,ar aO ws]=some (ar encI mm)):fW B (mC x b reads ws mm st) ga<|zD um (.ab N o L) x b reads ws:=wS mc (R:=fun y _=>y=mC x b reads ws mm st) (.rg<|.go 3<|.cg (.int .i64 st) (tG 271) (tQ 4 271 um)<|.go 9<|.kn (ar encI mm)<|.go 8<|.en<|.rt 3 .no)<|tR me 19 4 271 (px eS Ii.Gb) [] um (.int .i64 st) k1 (ai k2<|rX<|mC x b reads ws mm st) rfl
abbrev Tc(e:Int):AV:=.tuple [.agg [z0,.bool false,nl,nl,nl,z0],.int .i64 e]
theorem s0K{X xo xl G go gl:Nat}(mc:Mt me B)(k:CK Fh [.ab X xo xl,.int .i64 (L:Int),.ab G go gl]=some (some um,RN 0))(H:fW B v nY<|fV um (.ab N o L) []):fW B v ⟨7,dZ [.ab X xo xl,.ab N o L,.ab G go gl],qJ,(dh 7 []),[],none⟩<|aj aq 270:=cD mc H (.st 3<|.rg<|.go 4<|.nt (some um) (RN 0)<|.go 5<|.en<|.st 9<|.ls ki (oD um (.ab N o L) []) 273 .no) (ai k (show(ki.map (fun q=>some q.2)=ki.map (fun q=>some q.2))/\((oD um (.ab N o L) []).map (fun q=>q.2)=(oD um (.ab N o L) []).map (fun q=>q.2))/\(nY=nY/\fV um (.ab N o L) []=fV um (.ab N o L) []) from⟨rfl,rfl,rfl,rfl⟩)) cf cf
end CX
namespace FA
open cj cC gi cY sk
variable {k N L N0 L0:Nat} {v:AV} {dp i ch n0 c:Int} {B:aE}
def sY(f:Ex->Int×Bool):List Ex->Int->Int×Bool
 |[],m=>(m,false)
 |a::r,m=>if(f a).2=true then(0,true) else if m+(f a).1>1000 then(0,true) else sY f r (m+(f a).1)
def eh:Nat->Ex->Int×Bool
 |0,_=>(0,true)
 |k+1,.mk _ _ args=>if k=0\/args.length>10 then(0,true) else sY (eh k) args 1
def qc(k:Nat)(args:List AV)(v:AV):Prop:=∃e:Ex,args=[.agg<|aH e,.int .i64<|22 - (k:Int)]/\(1<=k/\k<=22)/\v= .tuple [.int .i64 (eh k e).1,.bool (eh k e).2]
theorem qc.bJ(args:List AV)(v v':AV)(h:qc k args v)(h':qc k args v'):v=v':=by obtain⟨e,rfl,_,rfl⟩:=h;obtain⟨e',h1,_,rfl⟩:=h';simp only[TQ,AV.agg.injEq,_root_.and_true] at h1;rw[oe _ _ h1]
def ph(k:Nat):FuncId×KE:=(21,.val<|aK<|qc k)
def kN(f:List St->Int×Bool):List St->Int->Int×Bool
  |[],m=>(m,false)
  | s::r,m=>if(eh 22<|cw s).2=true\/(eh 22<|iP s).2=true\/(f<|bN s).2=true\/(f<|bK s).2=true then(0,true)
    else if m+1+(eh 22<|cw s).1+(eh 22<|iP s).1+(f<|bN s).1+(f<|bK s).1>3000 then(0,true)
    else kN f r (m+1+(eh 22<|cw s).1+(eh 22<|iP s).1+(f<|bN s).1+(f<|bK s).1)
def cK:Nat->List St->Int×Bool
 |0,_=>(0,true)
 |k+1,l=>if k=0\/l.length>500 then(0,true) else kN (cK k) l 0
def py(k:Nat)(args:List AV)(v:AV):Prop:=∃l:List St,args=[.ab (nm<|bC l) 0 l.length,.int .i64<|22 - (k:Int)]/\(1<=k/\k<=22)/\v= .tuple [.int .i64 (cK k l).1,.bool (cK k l).2]
theorem py.bJ(args:List AV)(v v':AV)(h:py k args v)(h':py k args v'):v=v':=by obtain⟨e,rfl,_,rfl⟩:=h;obtain⟨e',h1,_,rfl⟩:=h';simp only[TQ,AV.ab.injEq,true_and,_root_.and_true] at h1;rw[tV _ _<|uu (mg _) (mg _) h1.1]
def sC(k:Nat):FuncId×KE:=(9,.val<|aK<|py k)
def FB(dp m i:Int):List<|Nat×AV:=[(1,(i6 dp)),(2,(.ptr<|some (270,0))),(6,(i6 m)),(7,(i6 i))]
def s8(dp m i:Int):AF:=⟨21,aA<|FB dp m i,(max Tryd.f21.ntmps 2),[.code<|aL pg 21 [1,1,1,0,1,0,0],.inLoop<|aL pg 21 [1,1,1,0,1,0,0],.inBlock 0,.code<|aL pg 21 [1,1,1,1]],[],none⟩
def nZ(op n:Int)(N L:Nat):List<|Nat×Option ah:=(aq++[(270,some<|.cells 3 (Tr.fill [(u8<|op),(i6 n),(.ab N 0 L)] 0 .nil) [])])
theorem alq(dp m i op n:Int)(N L:Nat):((FB dp m i).map (fun q=>some q.2)=(FB dp m i).map (fun q=>some q.2))/\((nZ op n N L).map (fun q=>q.2)=(nZ op n N L).map (fun q=>q.2))/\(s8 dp m i=s8 dp m i/\aj (nZ op n N L) 271=aj (nZ op n N L) 271):=⟨rfl,rfl,rfl,rfl⟩
theorem sdT{op n m:Int}(mc:Mt [ph k] B)(hn:top<=N)(hi:0<=i)(hL:L<=10)(hm:0<=m/\m<=1000)(jF:0<=c/\c<=1000)(hd:0<=dp/\dp<=20)(hx:cZ FU N (0+i.toNat*3+0) 3=some [(u8<|ch),(i6 n0),(.ab N0 0 L0)])(h1:i<(L:Int))(hc:bc (aK<|qc k) [(.agg [(u8<|ch),(i6 n0),(.ab N0 0 L0)]),.int .i64<|dp+1]=some (.tuple [.int .i64 c,.bool true]))(hv:(.tuple [.int .i64 0,.bool true])=v):av pg B 270 (Fin pg (aC Tryd.f21) fun y _=>y=v) (s8 dp m i)<|aj (nZ op n N L) 271:=wS mc (.st 2<|.rg<|.go 4<|.fk (.en<|.st 5<|.rg<|.go 3<|.cm<|.cn [(u8<|ch),(i6 n0),(.ab N0 0 L0)]<|.go 1<|.vl (i6<|dp+1)<|.kn (.tuple [(i6 c),(.bool true)])<|.go 5<|.en<|.st 1<|.rg<|.go 2<|.vl (i6<|m+c)<|.go 1<|.en<|.rt 6 .no)<|.no)<|bq (i<(L:Int)) (fun _=>(gq i (L:Int)<|ai hn<|ai hx<|ai (wI<|dp+1)<|ai hc<|ai (wI<|m+c) (show(.tuple [i0,(.bool true)])=v from hv))) iF
theorem sdF{op n m:Int}(mc:Mt [ph k] B)(hn:top<=N)(hi:0<=i)(hL:L<=10)(hm:0<=m/\m<=1000)(jF:0<=c/\c<=1000)(hd:0<=dp/\dp<=20)(hx:cZ FU N (0+i.toNat*3+0) 3=some [(u8<|ch),(i6 n0),(.ab N0 0 L0)])(h1:i<(L:Int))(hc:bc (aK<|qc k) [(.agg [(u8<|ch),(i6 n0),(.ab N0 0 L0)]),.int .i64<|dp+1]=some (.tuple [.int .i64 c,.bool false]))(hv:m+c>1000->(.tuple [.int .i64 0,.bool true])=v)(H:¬((m+c)>(1000:Int))->av pg B 270 (Fin pg (aC Tryd.f21) fun y _=>y=v) (s8 dp (m+c)<|i+1) (aj (nZ op n N L) 271)):av pg B 270 (Fin pg (aC Tryd.f21) fun y _=>y=v) (s8 dp m i)<|aj (nZ op n N L) 271:=wC mc (C:=(fun fr s1 _=>fr=s8 dp (m+c) (i+1)/\s1=aj (nZ op n N L) 271/\¬((m+c)>(1000:Int)))) (fun fr s1 p hC=>by obtain⟨rfl,rfl,hq⟩:=hC;exact H hq) (.st 2<|.rg<|.go 4<|.fk (.en<|.st 5<|.rg<|.go 3<|.cm<|.cn [(u8<|ch),(i6 n0),(.ab N0 0 L0)]<|.go 1<|.vl (i6<|dp+1)<|.kn (.tuple [(i6 c),(.bool false)])<|.go 5<|.en<|.st 1<|.rg<|.go 2<|.vl (i6<|m+c)<|.go 1<|.en<|.st 1<|.rg<|.go 3<|.fk (.go 1<|.en<|.rt 4 .no)<|.go 1<|.en<|.st 3<|.rg<|.go 1<|.vl (i6<|i+1)<|.go 1<|.en<|.st 1<|.ls (FB dp (m+c)<|i+1) (nZ op n N L) 271 .no)<|.no)<|bq (i<(L:Int)) (fun _=>(gq i (L:Int)<|ai hn<|ai hx<|ai (wI<|dp+1)<|ai hc<|ai (wI<|m+c)<|bq ((m+c)>1000) (fun _=>(show(.tuple [i0,(.bool true)])=v from hv ae)) fun _=>(ai (wI<|i+1)<|ai (mS<|FB dp (m+c)<|i+1)<|ai (mO<|nZ op n N L) (show(s8 dp (m+c)<|i+1)=(s8 dp (m+c)<|i+1)/\(aj (nZ op n N L) 271)=(aj (nZ op n N L) 271)/\¬((m+c)>(1000:Int)) from⟨rfl,rfl,by omega⟩)))) iF
theorem sdE{op n m:Int}(mc:Mt [ph k] B)(h1:(L:Int)<=i)(hv:(.tuple [.int .i64 m,.bool false])=v):av pg B 270 (Fin pg (aC Tryd.f21) fun y _=>y=v) (s8 dp m i)<|aj (nZ op n N L) 271:=wS mc (.st 2<|.rg<|.go 4<|.fk (.no)<|.en<|.rt 5 .no) Y5
theorem sdG{op n:Int}(mc:Mt [ph k] B)(hd:dp<=20)(hL:L<=10)(H:av pg B 270 (Fin pg (aC Tryd.f21) fun y _=>y=v) (s8 dp 1 0)<|aj (nZ op n N L) 271):av pg B 270 (Fin pg (aC Tryd.f21) fun y _=>y=v) (sF 21 Tryd.f21 [(.agg [(u8<|op),(i6 n),(.ab N 0 L)]),(i6 dp)])<|aj aq 270:=wC mc (C:=(fun fr s1 _=>fr=s8 dp 1 0/\s1=aj (nZ op n N L) 271)) nC (.st 4<|.rg<|.go 1<|.fk (.no)<|.go 4<|.fk (.no)<|.go 1<|.en<|.st 9<|.ls (FB dp 1 0) (nZ op n N L) 271 .no)<|bq (dp>20) iF fun _=>(bq ((L:Int)>10) iF fun _=>(alq dp 1 0 op n N L))
theorem sdB{op n:Int}(mc:Mt [ph k] B)(hd:dp>20\/(L:Int)>10)(hv:(.tuple [.int .i64 0,.bool true])=v):av pg B 270 (Fin pg (aC Tryd.f21) fun y _=>y=v) (sF 21 Tryd.f21 [(.agg [(u8<|op),(i6 n),(.ab N 0 L)]),(i6 dp)])<|aj aq 270:=wS mc (.st 4<|.rg<|.go 1<|.fk (.go 6<|.en<|.rt 4 .no)<|.go 4<|.fk (.go 1<|.en<|.rt 4 .no)<|.no)<|bq (dp>20) (fun _=>(show(.tuple [i0,(.bool true)])=v from hv)) fun _=>(bq ((L:Int)>10) (fun _=>(show(.tuple [i0,(.bool true)])=v from hv)) iF)
def FC(N L:Nat)(dp m i:Int):List<|Nat×AV:=[(0,(.ab N 0 L)),(1,(i6 dp)),(6,(i6 m)),(7,(i6 i))]
def td(N L:Nat)(dp m i:Int):AF:=⟨9,aA<|FC N L dp m i,(max Tryd.f9.ntmps 2),[.code<|aL pg 9 [1,1,1,0,1,0,0],.inLoop<|aL pg 9 [1,1,1,0,1,0,0],.inBlock 0,.code<|aL pg 9 [1,1,1,1]],[],none⟩
theorem alr(N L:Nat)(dp m i:Int):((FC N L dp m i).map (fun q=>some q.2)=(FC N L dp m i).map (fun q=>some q.2))/\(aq.map (fun q=>q.2)=aq.map (fun q=>q.2))/\(td N L dp m i=td N L dp m i/\aj aq 270=aj aq 270):=⟨rfl,rfl,rfl,rfl⟩
theorem Nq{B:aE}{k N L Na La Nb Lb Nd Ld Ne Le:Nat}{kj na kl nb dp m i a b c d:Int}{x y z w:Bool}{v:AV}(hk:x=true\/(x=false/\y=true)\/(x=false/\y=false/\z=true)\/(x=false/\y=false/\z=false/\w=true))(mc:Mt [ph 22,sC k] B)(hn:top<=N)(hi:0<=i)(hL:L<=500)(hm:0<=m/\m<=3000)(hb:(0<=a/\a<=1000)/\(0<=b/\b<=1000)/\(0<=c/\c<=3000)/\(0<=d/\d<=3000))(hd:0<=dp/\dp<=20)(Td:cZ FU N (0+i.toNat*10+2) 3=some [(u8<|kj),(i6 na),(.ab Na 0 La)])(Te:cZ FU N (0+i.toNat*10+5) 3=some [(u8<|kl),(i6 nb),(.ab Nb 0 Lb)])(Tf:cZ FU N (0+i.toNat*10+8) 1=some [.ab Nd 0 Ld])(Tg:cZ FU N (0+i.toNat*10+9) 1=some [.ab Ne 0 Le])(h1:i<(L:Int))(ha:bc (aK<|qc 22) [(.agg [(u8<|kj),(i6 na),(.ab Na 0 La)]),.int .i64 0]=some (.tuple [.int .i64 a,.bool x]))(Th:bc (aK<|qc 22) [(.agg [(u8<|kl),(i6 nb),(.ab Nb 0 Lb)]),.int .i64 0]=some (.tuple [.int .i64 b,.bool y]))(Ti:bc (aK<|py k) [.ab Nd 0 Ld,.int .i64<|dp+1]=some (.tuple [.int .i64 c,.bool z]))(Tj:bc (aK<|py k) [.ab Ne 0 Le,.int .i64<|dp+1]=some (.tuple [.int .i64 d,.bool w]))(hv:(.tuple [.int .i64 0,.bool true])=v):av pg B 270 (Fin pg (aC Tryd.f9) fun y _=>y=v) (td N L dp m i)<|aj aq 270:=by
 have TT:=(bq (i<(L:Int)) (fun _=>(gq i (L:Int)<|ai hn<|ai Td<|ai ha<|gq i (L:Int)<|ai hn<|ai Te<|ai Th<|gq i (L:Int)<|ai hn<|ai Tf<|ai (wI<|dp+1)<|ai Ti<|gq i (L:Int)<|ai hn<|ai Tg<|ai (wI<|dp+1)<|ai Tj<|ai (wI<|m+1)<|ai (wI<|(m+1)+a)<|ai (wI<|((m+1)+a)+b)<|ai (wI<|(((m+1)+a)+b)+c)<|ai (wI<|((((m+1)+a)+b)+c)+d) (show(.tuple [i0,(.bool true)])=v from hv))) fun _=>(oF ae));let P:Pl:=(.st 2<|.rg<|.go 3<|.fk (.en<|.st 5<|.rg<|.go 2<|.cm<|.go 1<|.cn [(u8<|kj),(i6 na),(.ab Na 0 La)]<|.kn (.tuple [(i6 a),(.bool x)])<|.go 5<|.en<|.st 1<|.rg<|.go 2<|.cm<|.go 1<|.cn [(u8<|kl),(i6 nb),(.ab Nb 0 Lb)]<|.kn (.tuple [(i6 b),(.bool y)])<|.go 5<|.en<|.st 1<|.rg<|.go 2<|.cm<|.go 1<|.cn [(.ab Nd 0 Ld)]<|.go 1<|.vl (i6<|dp+1)<|.kn (.tuple [(i6 c),(.bool z)])<|.go 5<|.en<|.st 1<|.rg<|.go 2<|.cm<|.go 1<|.cn [(.ab Ne 0 Le)]<|.go 1<|.vl (i6<|dp+1)<|.kn (.tuple [(i6 d),(.bool w)])<|.go 5<|.en<|.st 1<|.rg<|.go 1<|.vl (i6<|m+1)<|.go 1<|.vl (i6<|(m+1)+a)<|.go 1<|.vl (i6<|((m+1)+a)+b)<|.go 1<|.vl (i6<|(((m+1)+a)+b)+c)<|.go 1<|.vl (i6<|((((m+1)+a)+b)+c)+d)<|.go 1<|.en<|.rt 6 .no)<|.no);rcases hk with rfl|⟨rfl,rfl⟩|⟨rfl,rfl,rfl⟩|⟨rfl,rfl,rfl,rfl⟩
 all_goals exact mM (E:=en [ph 22,sC k]) fw rfl bR mc.2.2.1 mc.2.2.2 900 P TT aV
theorem muN{B:aE}{k N L Na La Nb Lb Nd Ld Ne Le:Nat}{kj na kl nb dp m i a b c d:Int}{x y z w:Bool}{v:AV}(mc:Mt [ph 22,sC k] B)(hn:top<=N)(hi:0<=i)(hL:L<=500)(hm:0<=m/\m<=3000)(hb:(0<=a/\a<=1000)/\(0<=b/\b<=1000)/\(0<=c/\c<=3000)/\(0<=d/\d<=3000))(hd:0<=dp/\dp<=20)(Td:cZ FU N (0+i.toNat*10+2) 3=some [(u8<|kj),(i6 na),(.ab Na 0 La)])(Te:cZ FU N (0+i.toNat*10+5) 3=some [(u8<|kl),(i6 nb),(.ab Nb 0 Lb)])(Tf:cZ FU N (0+i.toNat*10+8) 1=some [.ab Nd 0 Ld])(Tg:cZ FU N (0+i.toNat*10+9) 1=some [.ab Ne 0 Le])(h1:i<(L:Int))(ha:bc (aK<|qc 22) [(.agg [(u8<|kj),(i6 na),(.ab Na 0 La)]),.int .i64 0]=some (.tuple [.int .i64 a,.bool false]))(Th:bc (aK<|qc 22) [(.agg [(u8<|kl),(i6 nb),(.ab Nb 0 Lb)]),.int .i64 0]=some (.tuple [.int .i64 b,.bool false]))(Ti:bc (aK<|py k) [.ab Nd 0 Ld,.int .i64<|dp+1]=some (.tuple [.int .i64 c,.bool false]))(Tj:bc (aK<|py k) [.ab Ne 0 Le,.int .i64<|dp+1]=some (.tuple [.int .i64 d,.bool false]))(hv:(((((m+1)+a)+b)+c)+d)>3000->(.tuple [.int .i64 0,.bool true])=v)(H:¬((((((m+1)+a)+b)+c)+d)>(3000:Int))->av pg B 270 (Fin pg (aC Tryd.f9) fun y _=>y=v) (td N L dp (((((m+1)+a)+b)+c)+d)<|i+1) (aj aq 270)):av pg B 270 (Fin pg (aC Tryd.f9) fun y _=>y=v) (td N L dp m i)<|aj aq 270:=wC mc (C:=(fun fr s1 _=>fr=td N L dp (((((m+1)+a)+b)+c)+d) (i+1)/\s1=aj aq 270/\¬((((((m+1)+a)+b)+c)+d)>(3000:Int)))) (fun fr s1 p hC=>by obtain⟨rfl,rfl,hq⟩:=hC;exact H hq) (.st 2<|.rg<|.go 3<|.fk (.en<|.st 5<|.rg<|.go 2<|.cm<|.go 1<|.cn [(u8<|kj),(i6 na),(.ab Na 0 La)]<|.kn (.tuple [(i6 a),(.bool false)])<|.go 5<|.en<|.st 1<|.rg<|.go 2<|.cm<|.go 1<|.cn [(u8<|kl),(i6 nb),(.ab Nb 0 Lb)]<|.kn (.tuple [(i6 b),(.bool false)])<|.go 5<|.en<|.st 1<|.rg<|.go 2<|.cm<|.go 1<|.cn [(.ab Nd 0 Ld)]<|.go 1<|.vl (i6<|dp+1)<|.kn (.tuple [(i6 c),(.bool false)])<|.go 5<|.en<|.st 1<|.rg<|.go 2<|.cm<|.go 1<|.cn [(.ab Ne 0 Le)]<|.go 1<|.vl (i6<|dp+1)<|.kn (.tuple [(i6 d),(.bool false)])<|.go 5<|.en<|.st 1<|.rg<|.go 1<|.vl (i6<|m+1)<|.go 1<|.vl (i6<|(m+1)+a)<|.go 1<|.vl (i6<|((m+1)+a)+b)<|.go 1<|.vl (i6<|(((m+1)+a)+b)+c)<|.go 1<|.vl (i6<|((((m+1)+a)+b)+c)+d)<|.go 1<|.en<|.st 1<|.rg<|.go 12<|.fk (.go 1<|.en<|.rt 4 .no)<|.go 1<|.en<|.st 3<|.rg<|.go 1<|.vl (i6<|i+1)<|.go 1<|.en<|.st 1<|.ls (FC N L dp (((((m+1)+a)+b)+c)+d)<|i+1) aq 270 .no)<|.no)<|bq (i<(L:Int)) (fun _=>(gq i (L:Int)<|ai hn<|ai Td<|ai ha<|gq i (L:Int)<|ai hn<|ai Te<|ai Th<|gq i (L:Int)<|ai hn<|ai Tf<|ai (wI<|dp+1)<|ai Ti<|gq i (L:Int)<|ai hn<|ai Tg<|ai (wI<|dp+1)<|ai Tj<|ai (wI<|m+1)<|ai (wI<|(m+1)+a)<|ai (wI<|((m+1)+a)+b)<|ai (wI<|(((m+1)+a)+b)+c)<|ai (wI<|((((m+1)+a)+b)+c)+d)<|bq ((((((m+1)+a)+b)+c)+d)>3000) (fun _=>(show(.tuple [i0,(.bool true)])=v from hv ae)) fun _=>(ai (wI<|i+1)<|ai (mS<|FC N L dp (((((m+1)+a)+b)+c)+d)<|i+1)<|ai (mO aq) (show(td N L dp (((((m+1)+a)+b)+c)+d)<|i+1)=(td N L dp (((((m+1)+a)+b)+c)+d)<|i+1)/\(aj aq 270)=(aj aq 270)/\¬((((((m+1)+a)+b)+c)+d)>(3000:Int)) from⟨rfl,rfl,by omega⟩)))) iF
theorem muE{m:Int}(mc:Mt [ph 22,sC k] B)(h1:(L:Int)<=i)(hv:(.tuple [.int .i64 m,.bool false])=v):av pg B 270 (Fin pg (aC Tryd.f9) fun y _=>y=v) (td N L dp m i)<|aj aq 270:=wS mc (.st 2<|.rg<|.go 3<|.fk (.no)<|.en<|.rt 5 .no) Y5
theorem muG(mc:Mt [ph 22,sC k] B)(hd:dp<=20)(hL:L<=500)(H:av pg B 270 (Fin pg (aC Tryd.f9) fun y _=>y=v) (td N L dp 0 0)<|aj aq 270):av pg B 270 (Fin pg (aC Tryd.f9) fun y _=>y=v) (sF 9 Tryd.f9 [(.ab N 0 L),(i6 dp)])<|aj aq 270:=wC mc (C:=(fun fr s1 _=>fr=td N L dp 0 0/\s1=aj aq 270)) nC (.st 4<|.rg<|.go 1<|.fk (.no)<|.go 3<|.fk (.no)<|.go 1<|.en<|.st 9<|.ls (FC N L dp 0 0) aq 270 .no)<|bq (dp>20) iF fun _=>(bq ((L:Int)>500) iF fun _=>(alr N L dp 0 0))
theorem muB(mc:Mt [ph 22,sC k] B)(hd:dp>20\/(L:Int)>500)(hv:(.tuple [.int .i64 0,.bool true])=v):av pg B 270 (Fin pg (aC Tryd.f9) fun y _=>y=v) (sF 9 Tryd.f9 [(.ab N 0 L),(i6 dp)])<|aj aq 270:=wS mc (.st 4<|.rg<|.go 1<|.fk (.go 5<|.en<|.rt 4 .no)<|.go 3<|.fk (.go 1<|.en<|.rt 4 .no)<|.no)<|bq (dp>20) (fun _=>(show(.tuple [i0,(.bool true)])=v from hv)) fun _=>(bq ((L:Int)>500) (fun _=>(show(.tuple [i0,(.bool true)])=v from hv)) iF)
end FA
namespace HE
open cj cC dD gi cY mr sk FA
variable {k i:Nat} {L:bV}
theorem Xi{f:Ex->Int×Bool}(hf:∀e,0<=(f e).1/\(f e).1<=1000):∀(l:List Ex) (m:Int),0<=m/\m<=1000->0<=(sY f l m).1/\(sY f l m).1<=1000
 |[],m,h=>h
 |a::r,m,h=>by
  unfold sY;have:=hf a;split
  ·show(0:Int)<=0/\(0:Int)<=1000;omega
  ·split
   ·show(0:Int)<=0/\(0:Int)<=1000;omega
   ·exact Xi hf r _ ae
theorem wg:∀(k:Nat) (e:Ex),0<=(eh k e).1/\(eh k e).1<=1000
 |0,_=>by show(0:Int)<=0/\(0:Int)<=1000;omega
 |k+1,.mk _ _ args=>by
  unfold eh;split
  ·show(0:Int)<=0/\(0:Int)<=1000;omega
  ·exact Xi (wg k) args 1 ae
theorem Xj{α:Type}{l r:List α}{a:α}(hr:l.drop i=a::r):i<l.length/\l[i]? =some a/\a∈l/\l.drop (i+1)=r:=by
 have ha:l[i]? =some a:=by have:=congrArg (fun q=>q[0]?) hr;simp only[Ue,UA,Ul] at this;exact this
 refine⟨(TZ.1 ha).1,ha,TY ha,?_⟩;have:=congrArg (UH 1) hr;rw[Up] at this;exact this
theorem acH(hP:bY pg)(h':aY [ph k])(h:aY L):aY<|ph (k+1)::L:=by
 refine gu hP h h' Tryd.func21 fun args v e=>?_;obtain⟨⟨op,n,l⟩,rfl,hk,rfl⟩:=fQ e;refine⟨aI.1 aV,fun B mc=>?_⟩;rw[←gX,aH];have ed:(22:Int) - ((k+1:Nat):Int)=21 - (k:Int):=by omega
 rw[ed];unfold eh;by_cases c:k=0\/l.length>10
 ·rw[if_pos c];exact sdB mc ae rfl
 ·rw[if_neg c];have ZP:k≠0:=fun q=>c<|.inl q;have hl:l.length<=10:=by
   by_cases q:l.length<=10
   ·exact q
   ·exact absurd (.inr ae) c
  have key:∀(r:List Ex) (i:Nat) (m:Int),l.drop i=r->0<=m/\m<=1000->
   av pg B 270 (Fin pg (aC Tryd.f21) fun y _=>y= .tuple [.int .i64 (sY (eh k) r m).1,.bool (sY (eh k) r m).2]) (s8 (21 - (k:Int)) m i) (aj (nZ op n (nm<|dC l) l.length) 271):=by
   intro r;induction r with
   |nil=>intro i m hr hm;have hi:l.length<=i:=UO.1 hr;exact sdE mc ae rfl
   |cons a r ih=>
    intro i m hr hm;obtain⟨hi,ha,rj,kI⟩:=Xj hr;obtain⟨ch,n0,l0⟩:=a;have hx:=zY ha (z:=(i:Int)) ae;have iN:=wg k<|.mk ch n0 l0;have bQ:bc (aK<|qc k) [.agg<|aH<|.mk ch n0 l0,.int .i64<|21 - (k:Int)+1]=some (.tuple [.int .i64 (eh k<|.mk ch n0 l0).1,.bool (eh k<|.mk ch n0 l0).2]):=eV (eQ qc.bJ ⟨.mk ch n0 l0,by rw[show(21:Int) - (k:Int)+1=22 - (k:Int) by omega],by omega,rfl⟩) sL rfl;rw[aH] at hx bQ;unfold sY;cases hb:(eh k<|.mk ch n0 l0).2 with
    |true=>rw[hb] at bQ;rw[if_pos rfl];exact sdT mc (cR _) ae hl hm iN ae hx ae bQ rfl
    |false=>
     rw[hb] at bQ;rw[if_neg (by intro q;cases q)];refine sdF mc (cR _) ae hl hm iN ae hx ae bQ (fun q=>?_) fun q=>?_
     ·rw[if_pos q]
     ·rw[if_neg q];exact ih (i+1) _ kI ae
  exact sdG mc ae hl<|key l 0 1 (by rw[T8]) ae
theorem amA(hP:bY pg):∀(k:Nat) {L:bV},aY L->aY (ph k::L)
 |0,L,h=>by refine gu hP h dj Tryd.func21 fun args v e=>?_;obtain⟨_,_,hk,_⟩:=fQ e;omega
 |k+1,L,h=>acH hP (amA hP k dj) h
theorem Xk{f:List St->Int×Bool}(hf:∀l,0<=(f l).1/\(f l).1<=3000):∀(l:List St) (m:Int),0<=m/\m<=3000->0<=(kN f l m).1/\(kN f l m).1<=3000
 |[],m,h=>h
 |s::r,m,h=>by
  unfold kN;have h1:=wg 22<|cw s;have h2:=wg 22<|iP s;have h3:=hf<|bN s;have h4:=hf<|bK s;split
  ·show(0:Int)<=0/\(0:Int)<=3000;omega
  ·split
   ·show(0:Int)<=0/\(0:Int)<=3000;omega
   ·exact Xk hf r _ ae
theorem uh:∀(k:Nat) (l:List St),0<=(cK k l).1/\(cK k l).1<=3000
 |0,_=>by show(0:Int)<=0/\(0:Int)<=3000;omega
 |k+1,l=>by
  unfold cK;split
  ·show(0:Int)<=0/\(0:Int)<=3000;omega
  ·exact Xk (uh k) l 0 ae
theorem Ks{l:List St}{s:St}(h:l[i]? =some s){z:Int}(hz:z.toNat=i)(j k:Nat)(hk:j+k<=10):cZ FU (nm<|bC l) (0+z.toNat*10+j) k=some (((aM s).drop j).take k):=by rw[vZ,hz,T6,Ad lq h j k hk]
theorem adR(hP:bY pg)(h':aY [ph 22,sC k])(h:aY L):aY<|sC (k+1)::L:=by
 refine gu hP h h' Tryd.func9 fun args v e=>?_;obtain⟨l,rfl,hk,rfl⟩:=fQ e;refine⟨aI.1 aV,fun B mc=>?_⟩;rw[←gX];have ed:(22:Int) - ((k+1:Nat):Int)=21 - (k:Int):=by omega
 rw[ed];unfold cK;by_cases c:k=0\/l.length>500
 ·rw[if_pos c];exact muB mc ae rfl
 ·rw[if_neg c];have ZP:k≠0:=fun q=>c<|.inl q;have hl:l.length<=500:=by
   by_cases q:l.length<=500
   ·exact q
   ·exact absurd (.inr ae) c
  have key:∀(r:List St) (i:Nat) (m:Int),l.drop i=r->0<=m/\m<=3000->
   av pg B 270 (Fin pg (aC Tryd.f9) fun y _=>y= .tuple [.int .i64 (kN (cK k) r m).1,.bool (kN (cK k) r m).2]) (td (nm<|bC l) l.length (21 - (k:Int)) m i) (aj aq 270):=by
   intro r;induction r with
   |nil=>intro i m hr hm;have hi:l.length<=i:=UO.1 hr;exact muE mc ae rfl
   |cons s r ih=>
    intro i m hr hm;obtain⟨hi,ha,rj,kI⟩:=Xj hr;have p1:=Ks ha (z:=(i:Int)) ae 2 3 ae;have p2:=Ks ha (z:=(i:Int)) ae 5 3 ae;have p3:=Ks ha (z:=(i:Int)) ae 8 1 ae;have p4:=Ks ha (z:=(i:Int)) ae 9 1 ae;obtain⟨kind,to,⟨kj,na,la⟩,⟨kl,nb,lb⟩,bd,el⟩:=s;have e1:((aM<|.mk kind to (.mk kj na la) (.mk kl nb lb) bd el).drop 2).take 3=aH (.mk kj na la):=by rw[aM,aH,aH];rfl
    have e2:((aM<|.mk kind to (.mk kj na la) (.mk kl nb lb) bd el).drop 5).take 3=aH (.mk kl nb lb):=by rw[aM,aH,aH];rfl
    have e3:((aM<|.mk kind to (.mk kj na la) (.mk kl nb lb) bd el).drop 8).take 1=[.ab (nm<|bC bd) 0 bd.length]:=by rw[aM,aH,aH];rfl
    have e4:((aM<|.mk kind to (.mk kj na la) (.mk kl nb lb) bd el).drop 9).take 1=[.ab (nm<|bC el) 0 el.length]:=by rw[aM,aH,aH];rfl
    rw[e1] at p1;rw[e2] at p2;rw[e3] at p3;rw[e4] at p4;have vu:=wg 22<|.mk kj na la;have vt:=wg 22<|.mk kl nb lb;have j8:=uh k bd;have Su:=uh k el;have hS:∀e:Ex,bc (aK<|qc 22) [.agg<|aH e,.int .i64 0]=some (.tuple [.int .i64 (eh 22 e).1,.bool (eh 22 e).2]):=fun e=>eV (eQ qc.bJ ⟨e,rfl,by omega,rfl⟩) sL rfl;have hM:∀q:List St,bc (aK<|py k) [.ab (nm<|bC q) 0 q.length,.int .i64<|21 - (k:Int)+1]=some (.tuple [.int .i64 (cK k q).1,.bool (cK k q).2]):=fun q=>eV (eQ py.bJ ⟨q,by rw[show(21:Int) - (k:Int)+1=22 - (k:Int) by omega],by omega,rfl⟩) (by rw[TS,uA];rfl) rfl;have s1:=hS<|.mk kj na la;have s2:=hS<|.mk kl nb lb;have m1:=hM bd;have m2:=hM el;rw[aH] at p1 p2 s1 s2;have hb:(0<=(eh 22<|.mk kj na la).1/\(eh 22<|.mk kj na la).1<=1000)/\(0<=(eh 22<|.mk kl nb lb).1/\(eh 22<|.mk kl nb lb).1<=1000)/\(0<=(cK k bd).1/\(cK k bd).1<=3000)/\(0<=(cK k el).1/\(cK k el).1<=3000):=⟨vu,vt,j8,Su⟩;show av pg B 270 (Fin pg (aC Tryd.f9) fun y _=>y= .tuple [.int .i64 (kN (cK k) (.mk kind to (.mk kj na la) (.mk kl nb lb) bd el::r) m).1,.bool (kN (cK k) (.mk kind to (.mk kj na la) (.mk kl nb lb) bd el::r) m).2]) _ _;unfold kN;show av pg B 270 (Fin pg (aC Tryd.f9) fun y _=>y= .tuple [.int .i64 (if(eh 22<|.mk kj na la).2=true\/(eh 22<|.mk kl nb lb).2=true\/(cK k bd).2=true\/(cK k el).2=true then(0,true) else if m+1+(eh 22<|.mk kj na la).1+(eh 22<|.mk kl nb lb).1+(cK k bd).1+(cK k el).1>3000 then(0,true) else kN (cK k) r (m+1+(eh 22<|.mk kj na la).1+(eh 22<|.mk kl nb lb).1+(cK k bd).1+(cK k el).1)).1,.bool (if(eh 22<|.mk kj na la).2=true\/(eh 22<|.mk kl nb lb).2=true\/(cK k bd).2=true\/(cK k el).2=true then(0,true) else if m+1+(eh 22<|.mk kj na la).1+(eh 22<|.mk kl nb lb).1+(cK k bd).1+(cK k el).1>3000 then(0,true) else kN (cK k) r (m+1+(eh 22<|.mk kj na la).1+(eh 22<|.mk kl nb lb).1+(cK k bd).1+(cK k el).1)).2]) _ _;cases x:(eh 22<|.mk kj na la).2 with
    |true=>rw[x] at s1;rw[if_pos<|.inl rfl];exact Nq (x:=true) (.inl rfl) mc (cR _) ae hl hm hb ae p1 p2 p3 p4 ae s1 s2 m1 m2 rfl
    |false=>
     rw[x] at s1;cases y:(eh 22<|.mk kl nb lb).2 with
     |true=>rw[y] at s2;rw[if_pos<|.inr<|.inl rfl];exact Nq (x:=false) (y:=true) (.inr<|.inl ⟨rfl,rfl⟩) mc (cR _) ae hl hm hb ae p1 p2 p3 p4 ae s1 s2 m1 m2 rfl
     |false=>
      rw[y] at s2;cases z:(cK k bd).2 with
      |true=>rw[z] at m1;rw[if_pos<|.inr<|.inr<|.inl rfl];exact Nq (x:=false) (y:=false) (z:=true) (.inr<|.inr<|.inl ⟨rfl,rfl,rfl⟩) mc (cR _) ae hl hm hb ae p1 p2 p3 p4 ae s1 s2 m1 m2 rfl
      |false=>
       rw[z] at m1;cases w:(cK k el).2 with
       |true=>rw[w] at m2;rw[if_pos<|.inr<|.inr<|.inr rfl];exact Nq (x:=false) (y:=false) (z:=false) (w:=true) (.inr<|.inr<|.inr ⟨rfl,rfl,rfl,rfl⟩) mc (cR _) ae hl hm hb ae p1 p2 p3 p4 ae s1 s2 m1 m2 rfl
       |false=>
        rw[w] at m2;rw[if_neg<|by simp];refine muN (x:=false) (y:=false) (z:=false) (w:=false) mc (cR _) ae hl hm hb ae p1 p2 p3 p4 ae s1 s2 m1 m2 (fun q=>?_) fun q=>?_
        ·rw[if_pos q]
        ·rw[if_neg q];exact ih (i+1) _ kI ae
  exact muG mc ae hl<|key l 0 0 (by rw[T8]) ae
theorem anj(hP:bY pg):∀(k:Nat) {L:bV},aY L->aY (sC k::L)
 |0,L,h=>by refine gu hP h dj Tryd.func9 fun args v e=>?_;obtain⟨_,_,hk,_⟩:=fQ e;omega
 |k+1,L,h=>adR hP (amA hP 22<|anj hP k dj) h
end HE
namespace LQ
open fu CQ gw fj mr As uL cC cY Bh uZ vB sk H8 LH gi iU xg Aw FA HE
variable {k:Nat}
theorem alJ{f:Ex->Int×Bool}:∀(l:List Ex) (m:Int),(sY f l m).2=false->(∀a∈l,(f a).2=false)/\(sY f l m).1=l.foldl (fun n a=>n+(f a).1) m/\(m<=1000->(sY f l m).1<=1000)
 |[],m,_=>⟨fun a h=>(by cases h),rfl,fun h=>h⟩
 |a::r,m,h=>by
  unfold sY at h ⊢;by_cases c1:(f a).2=true
  ·rw[if_pos c1] at h;cases h
  ·rw[if_neg c1] at h ⊢;by_cases c2:m+(f a).1>1000
   ·rw[if_pos c2] at h;cases h
   ·rw[if_neg c2] at h ⊢;obtain⟨h1,h2,h3⟩:=alJ r _ h;refine⟨fun b hb=>?_,by rw[h2,Un],fun _=>h3 ae⟩;rcases Ty.1 hb with rfl|hb
    ·exact UP.2 c1
    ·exact h1 b hb
theorem fold_congr{f g:Ex->Int}:∀(l:List Ex) (m:Int),(∀a∈l,f a=g a)->l.foldl (fun n a=>n+f a) m=l.foldl (fun n a=>n+g a) m
 |[],_,_=>rfl
 |a::l,m,h=>by rw[Un,Un,h a TA];exact fold_congr l _ fun b hb=>h b<|TB _ hb
theorem Jg:∀(k j:Nat) (e:Ex),k<=j->(eh k e).2=false->uJ j e=true/\lO j e=(eh k e).1
 |0,_,_,_,h=>by cases h
 |k+1,0,_,hj,_=>by omega
 |k+1,j+1,.mk op n l,hj,h=>by
  unfold eh at h ⊢;by_cases c:k=0\/l.length>10
  ·rw[if_pos c] at h;cases h
  ·rw[if_neg c] at h ⊢;obtain⟨h1,h2,_⟩:=alJ l 1 h;refine⟨TG.2 fun a ha=>(Jg k j a ae<|h1 a ha).1,?_⟩;rw[h2];exact fold_congr l 1 fun a ha=>(Jg k j a ae<|h1 a ha).2
theorem Jo{f:List St->Int×Bool}(hf:∀l,0<=(f l).1):∀(l:List St) (m:Int),(kN f l m).2=false->m<=(kN f l m).1/\∀s∈l,(eh 22<|cw s).2=false/\(eh 22<|iP s).2=false/\(f<|bN s).2=false/\(f<|bK s).2=false
 |[],m,_=>⟨Vd _,fun s h=>by cases h⟩
 |t::r,m,h=>by
  unfold kN at h ⊢;have a1:=wg 22<|cw t;have a2:=wg 22<|iP t;have a3:=hf<|bN t;have a4:=hf<|bK t;by_cases c1:(eh 22<|cw t).2=true\/(eh 22<|iP t).2=true\/(f<|bN t).2=true\/(f<|bK t).2=true
  ·rw[if_pos c1] at h;cases h
  ·rw[if_neg c1] at h ⊢;by_cases c2:m+1+(eh 22<|cw t).1+(eh 22<|iP t).1+(f<|bN t).1+(f<|bK t).1>3000
   ·rw[if_pos c2] at h;cases h
   ·rw[if_neg c2] at h ⊢;obtain⟨h1,h2⟩:=Jo hf r _ h;refine⟨by omega,fun s hs=>?_⟩;rcases Ty.1 hs with rfl|hs
    ·refine⟨UP.2 fun q=>c1<|.inl q,UP.2 fun q=>c1<|.inr<|.inl q,UP.2 fun q=>c1<|.inr<|.inr<|.inl q,UP.2 fun q=>c1<|.inr<|.inr<|.inr q⟩
    ·exact h2 s hs
theorem acI{l:List St}:cK (k+1) l=if k=0\/l.length>500 then(0,true) else kN (cK k) l 0:=rfl
theorem N8{l:List St}(h:(cK (k+1) l).2=false):l.length<=500/\(cK (k+1) l).1=(kN (cK k) l 0).1/\(kN (cK k) l 0).2=false/\∀s∈l,(eh 22<|cw s).2=false/\(eh 22<|iP s).2=false/\(cK k<|bN s).2=false/\(cK k<|bK s).2=false:=by
 rw[acI] at h ⊢;by_cases c:k=0\/l.length>500
 ·rw[if_pos c] at h;cases h
 ·rw[if_neg c] at h ⊢;refine⟨?_,rfl,h,(Jo (fun l=>(uh k l).1) l 0 h).2⟩;by_cases q:l.length<=500
  ·exact q
  ·exact absurd (.inr ae) c
theorem D0:∀(k j:Nat) (l:List St),k<=j->(cK k l).2=false->ks j l=true/\pv j l=true
 |0,_,_,_,h=>by cases h
 |k+1,0,_,hj,_=>by omega
 |k+1,j+1,l,hj,h=>by
  obtain⟨h1,_,_,h4⟩:=N8 h;have hl:decide (l.length<=1000000)=true:=decide_eq_true ae;constructor
  ·show(decide (l.length<=1000000)&&l.all fun s=>ks j (bN s)&&ks j (bK s))=true;rw[hl];exact TG.2 fun s hs=>and_true.2 ⟨(D0 k j _ ae (h4 s hs).2.2.1).1,(D0 k j _ ae (h4 s hs).2.2.2).1⟩
  ·show(decide (l.length<=1000000)&&l.all fun s=>((bN s).isEmpty||pv j (bN s))&&((bK s).isEmpty||pv j (bK s)))=true;rw[hl];exact TG.2 fun s hs=>and_true.2 ⟨by rw[(D0 k j _ ae (h4 s hs).2.2.1).2,Bool.or_true],by rw[(D0 k j _ ae (h4 s hs).2.2.2).2,Bool.or_true]⟩
theorem ank{k j:Nat}(he:∀l n1 n2,(cK j l).2=false->0<=n1/\n1+(cK j l).1<=1000000000->0<=n2/\n2+(cK j l).1<=1000000000->∃m1 m2,fZ (pO 60) k l (.int .i64 n1) (.int .i64 n2)=some ⟨true,.int .i64 m1,.int .i64 m2,none⟩/\(n1<=m1/\m1<=n1+(cK j l).1)/\n2<=m2/\m2<=n2+(cK j l).1):
 ∀(r:List St) (m n1 n2:Int),(kN (cK j) r m).2=false->0<=m->m<=3000->0<=n1->0<=n2->n1+((kN (cK j) r m).1 - m)<=1000000000->n2+((kN (cK j) r m).1 - m)<=1000000000->∃m1 m2,lr (fZ (pO 60) k) (pO 60) r (.int .i64 n1) (.int .i64 n2)=some ⟨true,.int .i64 m1,.int .i64 m2,none⟩/\(n1<=m1/\m1<=n1+((kN (cK j) r m).1 - m))/\n2<=m2/\m2<=n2+((kN (cK j) r m).1 - m)
 |[],m,n1,n2,_,_,_,_,_,_,_=>⟨n1,n2,rfl,by show n1<=n1/\n1<=n1+(m - m);omega,by show n2<=n2/\n2<=n2+(m - m);omega⟩
 |t::r,m,n1,n2,h,hm,da,h1,h2,h3,h4=>by
  unfold kN at h h3 h4 ⊢;have a1:=wg 22<|cw t;have a2:=wg 22<|iP t;have a3:=uh j<|bN t;have a4:=uh j<|bK t;by_cases c1:(eh 22<|cw t).2=true\/(eh 22<|iP t).2=true\/(cK j<|bN t).2=true\/(cK j<|bK t).2=true
  ·rw[if_pos c1] at h;cases h
  ·rw[if_neg c1] at h h3 h4 ⊢;by_cases c2:m+1+(eh 22<|cw t).1+(eh 22<|iP t).1+(cK j<|bN t).1+(cK j<|bK t).1>3000
   ·rw[if_pos c2] at h;cases h
   ·rw[if_neg c2] at h h3 h4 ⊢;have g:=(Jo (fun l=>(uh j l).1) r _ h).1;obtain⟨d1,e1⟩:=Jg 22 60 (cw t) ae<|UP.2 fun q=>c1<|.inl q;obtain⟨d2,e2⟩:=Jg 22 60 (iP t) ae<|UP.2 fun q=>c1<|.inr<|.inl q;have z1:0<=mN 60 (cw t)/\mN 60 (cw t)<=(eh 22<|cw t).1:=by have:=Gz 60 (cw t) d1;unfold mN;split<;>omega
    have z2:0<=mN 60 (iP t)/\mN 60 (iP t)<=(eh 22<|iP t).1:=by have:=Gz 60 (iP t) d2;unfold mN;split<;>omega
    have hc:QY 60 t n1 n2:=⟨by omega,by omega,d1,d2,by rw[e1];omega,by rw[e2];omega⟩;have hr:pO 60 t (.int .i64 n1) (.int .i64 n2)=some ⟨true,.int .i64<|n1+1,.int .i64<|n2+(mN 60 (cw t)+mN 60 (iP t)),none⟩:=if_pos hc;obtain⟨p1,p2,q1,q2,q3⟩:=he (bN t) (n1+1) (n2+(mN 60 (cw t)+mN 60 (iP t))) (UP.2 fun q=>c1<|.inr<|.inr<|.inl q) ae ae;obtain⟨u1,u2,w1,w2,w3⟩:=he (bK t) p1 p2 (UP.2 fun q=>c1<|.inr<|.inr<|.inr q) ae ae;obtain⟨y1,y2,x1,x2,x3⟩:=ank he r _ u1 u2 h ae ae ae ae ae ae;refine⟨y1,y2,?_,by omega,by omega⟩;unfold lr;rw[hr];simp only[q1,w1];exact x1
theorem alK:∀(k j:Nat) (l:List St) (n1 n2:Int),j<=k->(cK j l).2=false->0<=n1/\n1+(cK j l).1<=1000000000->0<=n2/\n2+(cK j l).1<=1000000000->∃m1 m2,fZ (pO 60) k l (.int .i64 n1) (.int .i64 n2)=some ⟨true,.int .i64 m1,.int .i64 m2,none⟩/\(n1<=m1/\m1<=n1+(cK j l).1)/\n2<=m2/\m2<=n2+(cK j l).1
 |_,0,_,_,_,_,h,_,_=>by cases h
 |0,j+1,_,_,_,hj,_,_,_=>by omega
 |k+1,j+1,l,n1,n2,hj,h,h1,h2=>by obtain⟨g1,g2,g3,_⟩:=N8 h;rw[g2] at h1 h2 ⊢;have g4:=(Jo (fun l=>(uh j l).1) l 0 g3).1;obtain⟨m1,m2,e,a,b⟩:=ank (k:=k) (fun l n1 n2 x y z=>alK k j l n1 n2 ae x y z) l 0 n1 n2 g3 ae ae h1.1 h2.1 ae ae;refine⟨m1,m2,?_,by omega,by omega⟩;unfold fZ;rw[show decide (l.length<=1000000)=true from decide_eq_true ae];exact e
def sD:Nat->List St->Prop
 |0,_=>True
 |k+1,l=>∀s∈l,(0<=fX s/\fX s<256)/\sD k (bN s)/\sD k (bK s)
theorem Pj:∀{k:Nat} {l:List St},sD k l->Ih k l
 |0,_,_=>trivial
 |k+1,l,h=>fun s hs=>⟨(h s hs).1.1,Pj (h s hs).2.1,Pj (h s hs).2.2⟩
theorem anl{k:Nat}{n:Int}(he:∀l,ks k l=true->sD k l->∃p,fZ gN k l (.int .i64 n) (.bool false)=some p):∀r:List St,(∀s∈r,(ks k (bN s)=true/\ks k (bK s)=true)/\(0<=fX s/\fX s<256)/\sD k (bN s)/\sD k (bK s))->∃p,lr (fZ gN k) gN r (.int .i64 n) (.bool false)=some p
 |[],_=>⟨_,rfl⟩
 |t::r,h=>by
  obtain⟨⟨d1,d2⟩,k1,k2,k3⟩:=h t TA;unfold lr;have e1:gN t (.int .i64 n) (.bool false)=some (if nh t n=true then pY n else pN n):=by
   show(if 0<=fX t/\fX t<256 then(match nh t n with
    |true=>some (⟨true,.int .i64 n,.bool false,none⟩:fT)
    |false=>some ⟨false,.int .i64 n,.bool false,some .ret⟩) else none)=_
   rw[if_pos k1];cases nh t n<;>rfl
  rw[e1];cases hs:nh t n with
  |false=>exact⟨_,rfl⟩
  |true=>
   rw[if_pos rfl];show ∃p,(match fZ gN k (bN t) (.int .i64 n) (.bool false) with
    |none=>none
    |some q=>match q.ret with
     |false=>some q
     |true=>match fZ gN k (bK t) q.v1 q.v2 with
      |none=>none
      |some u=>match u.ret with
       |false=>some u
       |true=>lr (fZ gN k) gN r u.v1 u.v2)=some p
   obtain⟨q1,w1⟩:=he _ d1 k2;rw[w1];rcases BF k _ _ w1 with rfl|rfl
   ·show ∃p,(match fZ gN k (bK t) (.int .i64 n) (.bool false) with
     |none=>none
     |some u=>match u.ret with
      |false=>some u
      |true=>lr (fZ gN k) gN r u.v1 u.v2)=some p
    obtain⟨q2,w2⟩:=he _ d2 k3;rw[w2];rcases BF k _ _ w2 with rfl|rfl
    ·exact anl he r fun s hs=>h s<|TB _ hs
    ·exact⟨_,rfl⟩
   ·exact⟨_,rfl⟩
theorem alL{n:Int}:∀(k:Nat) (l:List St),ks k l=true->sD k l->∃p,fZ gN k l (.int .i64 n) (.bool false)=some p
 |0,_,h,_=>by cases h
 |k+1,l,hd,hk=>by obtain⟨c1,c2⟩:=and_true.1 (show(decide (l.length<=1000000)&&l.all fun s=>ks k (bN s)&&ks k (bK s))=true from hd);unfold fZ;rw[c1];exact anl (alL k) l fun s hs=>⟨and_true.1<|TG.1 c2 s hs,hk s hs⟩
theorem acJ{s:St}{n:Int}(h:nh s n=true):pP 6 (cw s)=true/\pP 6 (iP s)=true:=by
 obtain⟨kind,to,a,b,bd,el⟩:=s;have h:Bi (qF kind) to a b bd el n=true:=h;have fit:∀(q:Bool) (e:Ex),u6 q e n=true->pP 6 e=true:=fun q e h=>by
  cases q with
  |true=>have h:(fh 6 e&&se 6 e n)=true:=h;exact Qd (and_true.1 h).1
  |false=>have h:decide (EZ e)=true:=h;have h:=of_decide_eq_true h;obtain⟨op,m,l⟩:=e;have hl:l=[]:=List.length_eq_zero_iff.1 h.2.2;subst hl;show(fh 6 (.mk op m [])||true)=true;rw[Bool.or_true]
 unfold Bi at h;split at h
 ·obtain⟨_,h⟩:=and_true.1 h;obtain⟨_,h⟩:=and_true.1 h;obtain⟨_,h⟩:=and_true.1 h;obtain⟨h1,h⟩:=and_true.1 h;obtain⟨h2,_⟩:=and_true.1 h;exact⟨fit _ _ h1,fit _ _ h2⟩
 ·cases h
theorem PZ{n:Int}:∀(k j i:Nat) (l:List St),k<=j->(cK k l).2=false->AR i n l->k<=i->ow j l=true
 |0,_,_,_,_,h,_,_=>by cases h
 |k+1,0,_,_,hj,_,_,_=>by omega
 |k+1,j+1,0,_,_,_,h,_=>by cases h
 |k+1,j+1,i+1,l,hj,h,ha,hi=>by obtain⟨h1,_,_,h4⟩:=N8 h;show(decide (l.length<=10000)&&l.all fun s=>pP 6 (cw s)&&(pP 6 (iP s)&&(ow j (bN s)&&ow j (bK s))))=true;rw[decide_eq_true (show l.length<=10000 by omega)];refine TG.2 fun s hs=>?_;obtain⟨a1,a2,a3⟩:=ha s hs;obtain⟨w1,w2⟩:=acJ a1;rw[w1,w2,PZ k j i _ ae (h4 s hs).2.2.1 a2 ae,PZ k j i _ ae (h4 s hs).2.2.2 a3 ae];rfl
theorem ae2{tx:List St}{n:Nat}(h:(cK 22 tx).2=false)(hk:sD 60 tx):∃b,oB tx (n:Int) b/\(b=true->ow 60 tx=true/\kZ 6 tx):=by obtain⟨d1,d2⟩:=D0 22 60 tx ae h;have iN:=uh 22 tx;obtain⟨m1,m2,e1,_,_⟩:=alK 60 22 tx 0 0 ae h ae ae;obtain⟨p,e2⟩:=alL (n:=(n:Int)) 60 tx d1 hk;have hm:oB tx (n:Int)<|decide (0<=(n:Int)/\(n:Int)<6/\fR 60 tx<=6/\gF 60 tx<=2000)&&(p.ret&&decide (m1<=40/\m2<=300)):=⟨m1,m2,p,e1,e2,rfl⟩;refine⟨_,hm,fun hb=>?_⟩;have hp:p.ret=true:=(and_true.1 (and_true.1 hb).2).1;refine⟨PZ 22 60 60 tx ae h (BQ 60 tx p e2 hp) ae,?_⟩;rw[hb] at hm;exact ah5 hm d1<|Pj hk
end LQ
namespace RO
open uL fq cY gi iU E3 lY AP wU xg Aw
variable {x:Int} {tx:List St} {st:List Fr}
def o5(f:List St->Nat)(s:St):Nat:=1+(if fX s=4 then max (f<|bN s) (f<|bK s) else if fX s=5 then 8*f (bN s) else if fX s=7 then f (bN s)+f (bK s) else 0)
def nB(f:List St->Nat):List St->Nat
 |[]=>0
 |s::r=>o5 f s+nB f r
def uc:Nat->List St->Nat
 |0,_=>0
 |d+1,l=>nB (uc d) l
theorem anm{f g:List St->Nat}:∀{l:List St},(∀s∈l,f (bN s)=g (bN s)/\f (bK s)=g (bK s))->nB f l=nB g l
 |[],_=>rfl
 |s::r,h=>by show o5 f s+nB f r=o5 g s+nB g r;rw[anm (l:=r) fun s hs=>h s<|TB _ hs];unfold o5;rw[(h s<|TA ..).1,(h s<|TA ..).2]
theorem G0:∀(d j k:Nat) (l:List St),kZ d l->d<=j->d<=k->uc j l=uc k l
 |0,j,k,l,h,_,_=>by have h:l=[]:=h;subst h;cases j<;>cases k<;>rfl
 |d+1,j+1,k+1,l,h,hj,hk=>anm fun s hs=>⟨G0 d j k _ (h.2 s hs).2.2.1 ae ae,G0 d j k _ (h.2 s hs).2.2.2 ae ae⟩
theorem agE(h:eM x 2001<=2000):eM x 2001=x:=by
 revert h;unfold eM;split
 ·intro h;omega
 ·intro _;rfl
theorem Xl:∀(k:Nat) (l:List St),gF k l<=2000->((uc k l:Nat):Int)<=gF k l
 |0,_,_=>by show(0:Int)<=0;omega
 |k+1,l,h=>by
  have ih:=Xl k;have go:∀(l:List St) (m:Int),0<=m->l.foldl (fun m s=>kg (fX s) m (gF k<|bN s)<|gF k<|bK s) m<=2000->m+((nB (uc k) l:Nat):Int)<=l.foldl (fun m s=>kg (fX s) m (gF k<|bN s)<|gF k<|bK s) m:=by
   intro l;induction l with
   |nil=>intro m _ _;show m+(0:Int)<=m;omega
   |cons s r ihr=>
    intro m hm hF;rw[Un] at hF ⊢;have c1:=El k<|bN s;have c2:=El k<|bK s;have a1:=ih<|bN s;have a2:=ih<|bK s;have hx:=Kr (gF k<|bN s)<|gF k<|bK s;have key:∀x:Int,0<=x->kg (fX s) m (gF k<|bN s) (gF k<|bK s)=eM x 2001->(x<=2000->m+((o5 (uc k) s:Nat):Int)<=x)->m+((nB (uc k) (s::r):Nat):Int)<=r.foldl (fun m s=>kg (fX s) m (gF k<|bN s)<|gF k<|bK s) (kg (fX s) m (gF k<|bN s)<|gF k<|bK s):=by intro x tC e hle;rw[e] at hF ⊢;have q:=ihr (eM x 2001) (WQ tC).1 hF;have q2:eM x 2001=x:=agE ae;rw[q2] at q hF ⊢;have:=hle ae;have:nB (uc k) (s::r)=o5 (uc k) s+nB (uc k) r:=rfl;omega
    by_cases k4:fX s=4
    ·refine key (m+1+cU (gF k<|bN s) (gF k<|bK s)) ae (by unfold kg;rw[if_pos k4]) fun hle=>?_;have:=a1 ae;have:=a2 ae;unfold o5;rw[if_pos k4];omega
    by_cases k5:fX s=5
    ·refine key (m+1+8*gF k (bN s)) ae (by unfold kg;rw[if_neg k4,if_pos k5]) fun hle=>?_;have:=a1 ae;unfold o5;rw[if_neg k4,if_pos k5];omega
    by_cases k7:fX s=7
    ·refine key (m+1+(gF k (bN s)+gF k (bK s))) ae (by unfold kg;rw[if_neg k4,if_neg k5,if_pos k7]) fun hle=>?_;have:=a1 ae;have:=a2 ae;unfold o5;rw[if_neg k4,if_neg k5,if_pos k7];omega
    ·refine key (m+1+0) ae (by unfold kg;rw[if_neg k4,if_neg k5,if_neg k7]) fun hle=>?_;unfold o5;rw[if_neg k4,if_neg k5,if_neg k7];omega
  have:=go l 0 ae h;show((nB (uc k) l:Nat):Int)<=l.foldl (fun m s=>kg (fX s) m (gF k<|bN s)<|gF k<|bK s) 0;omega
theorem ff:¬(false=true):=fun c=>by cases c
def eU:List Fr->Nat
 |[]=>0
 |f::r=>nB (uc 60) (f.block.drop f.aw.toNat)+f.turns.toNat*uc 61 f.block+(if f.cq=true then uc 61 (f.other.getD []) else 0)+eU r
theorem Gm:∀(k:Nat) (st:List Fr) (b:bp) (br:List Fr) (b':bp),iH k st b=some (br,b')->eU br<=eU st
 |0,_,_,_,_,h=>by cases h
 |k+1,[],b,br,b',h=>by
  unfold iH at h;injection h with h;injection h with h1 _
  rw[←h1];exact Tz _
 |k+1,f::r,b,br,b',h=>by
  unfold iH at h;by_cases c1:f.aw<(f.block.length:Int)
  ·rw[if_pos c1] at h;injection h with h;injection h with h1 _
   rw[←h1];exact Tz _
  ·rw[if_neg c1] at h;by_cases c2:0<f.turns
   ·rw[if_pos c2] at h;have e:eU ({f with aw:=0,turns:=f.turns - 1}::r)<=eU (f::r):=by
     show uc 61 f.block+(f.turns - 1).toNat*uc 61 f.block+(if f.cq=true then uc 61 (f.other.getD []) else 0)+eU r<=nB (uc 60) (f.block.drop f.aw.toNat)+f.turns.toNat*uc 61 f.block+(if f.cq=true then uc 61 (f.other.getD []) else 0)+eU r;have ht:f.turns.toNat=(f.turns - 1).toNat+1:=by omega
     rw[ht,Uo,UN];omega
    by_cases c3:0<(f.block.length:Int)
    ·rw[if_pos c3] at h;injection h with h;injection h with h1 _
     rw[←h1];exact e
    ·rw[if_neg c3] at h;exact TO (Gm k _ b _ _ h) e
   ·rw[if_neg c2] at h;have e:eU r<=eU (f::r):=Nat.le_add_left _ _;by_cases c4:f.cq=true
    ·rw[if_pos c4] at h;by_cases c5:2<=b.length
     ·rw[if_pos c5] at h;exact TO (Gm k _ _ _ _ h) e
     ·rw[if_neg c5] at h;cases h
    ·rw[if_neg c4] at h;exact TO (Gm k _ _ _ _ h) e
theorem yl{a a':dX}{b:bp}(h:fin a st b=some a'):eU a'.fs.reverse<=eU st:=by
 unfold fin at h;cases e:iH 1000 st b with
 |none=>rw[e] at h;cases h
 |some p=>
  rw[e] at h;injection h with h
  rw[←h];show eU p.1.reverse.reverse<=_;rw[UC];exact Gm 1000 st b p.1 p.2 e
theorem OH:∀{st:List Fr} {g:Fr} {r':List Fr},below st=some (g,r')->g.cq=true->uc 61 (g.other.getD [])+eU r'<=eU st
 |[],_,_,h,_=>by cases h
 |f::r,g,r',h,hg=>by
  unfold lY.below at h;by_cases c:f.cq=true
  ·rw[if_pos c] at h;injection h with h;injection h with h1 h2
   subst h1;subst h2;show _<=_+(if f.cq=true then uc 61 (f.other.getD []) else 0)+eU r;rw[if_pos c];omega
  ·rw[if_neg c] at h;have:=OH h hg;have:eU r<=eU (f::r):=Nat.le_add_left _ _;omega
theorem Xm{f:Fr}{r:List Fr}{s:St}(h0:0<=f.aw)(h:f.block[f.aw.toNat]? =some s):eU (f::r)=o5 (uc 60) s+eU ({f with aw:=f.aw+1}::r):=by
 have hl:f.aw.toNat<f.block.length:=by
  rcases UX f.aw.toNat f.block.length with q|q
  ·exact q
  ·rw[Uf q] at h;cases h
 have e:f.block.drop f.aw.toNat=s::f.block.drop (f.aw.toNat+1):=by
  rw[U6 hl];rw[TE hl] at h;injection h with h
  rw[h]
 show nB (uc 60) (f.block.drop f.aw.toNat)+_+_+_=o5 (uc 60) s+(nB (uc 60) (f.block.drop (f.aw+1).toNat)+_+_+_);rw[e,show(f.aw+1).toNat=f.aw.toNat+1 by omega];show o5 (uc 60) s+nB (uc 60) (f.block.drop<|f.aw.toNat+1)+f.turns.toNat*uc 61 f.block+(if f.cq=true then uc 61 (f.other.getD []) else 0)+eU r=o5 (uc 60) s+(nB (uc 60) (f.block.drop<|f.aw.toNat+1)+f.turns.toNat*uc 61 f.block+(if f.cq=true then uc 61 (f.other.getD []) else 0)+eU r);omega
theorem J3:∀{st:List Fr} {g:Fr} {r':List Fr},below st=some (g,r')->g.cq=true
 |[],_,_,h=>by cases h
 |f::r,g,r',h=>by
  unfold lY.below at h;by_cases c:f.cq=true
  ·rw[if_pos c] at h;injection h with h;injection h with h1 h2
   rw[←h1];exact c
  ·rw[if_neg c] at h;exact J3 h
section
variable {a a':dX}
theorem ae3(h:mV a)(hk:fm a=(1,0,0))(hs:sw a=some a'):eU a'.fs.reverse+1<=eU a.fs.reverse:=by
 rcases h.top with e|⟨f,r,e,ht⟩
 ·exfalso;unfold fm at hk;rw[e] at hk;injection hk with q _;omega
 have hw:=h.inv.wf;rw[e] at hw;obtain⟨d,⟨kind,to,ea,eb,bd,el⟩,hd,q,k1,_,k3,k4⟩:=Cp hw ht;have k3:kZ d bd:=k3;have k4:kZ d el:=k4;have u3:uc 61 bd=uc 60 bd:=G0 d 61 60 bd k3 ae ae;have u4:uc 61 el=uc 60 el:=G0 d 61 60 el k4 ae ae;have tp:=Xm (r:=r) hw.2.1.1 q;unfold sw at hs;rw[e] at hs ⊢;simp only[q] at hs;have hC:o5 (uc 60) (.mk kind to ea eb bd el)=1+(if kind=4 then max (uc 60 bd) (uc 60 el) else if kind=5 then 8*uc 60 bd else if kind=7 then uc 60 bd+uc 60 el else 0):=rfl;have Mv:∀(g:Fr) (r':List Fr),g.aw=0->eU (g::r')=uc 61 g.block+g.turns.toNat*uc 61 g.block+(if g.cq=true then uc 61 (g.other.getD []) else 0)+eU r':=fun g r' hg=>by show nB (uc 60) (g.block.drop g.aw.toNat)+_+_+_=_;rw[hg];rfl
 by_cases c1:kind=1
 ·rw[if_pos c1] at hs;have:=yl hs;omega
 rw[if_neg c1] at hs;by_cases c2:kind=2
 ·rw[if_pos c2] at hs;have:=yl hs;omega
 rw[if_neg c2] at hs;by_cases c3:kind=3
 ·rw[if_pos c3] at hs;have:=yl hs;omega
 rw[if_neg c3] at hs;by_cases c4:kind=4
 ·rw[if_pos c4] at hs;have p:=yl hs;rw[Mv _ _ rfl] at p;rw[if_pos c4] at hC;have p:eU a'.fs.reverse<=uc 61 (if fP a ea≠0 then bd else el)+(0:Int).toNat*uc 61 (if fP a ea≠0 then bd else el)+(if false=true then _ else 0)+eU ({f with aw:=f.aw+1}::r):=p;rw[if_neg ff,show(0:Int).toNat=0 from rfl,UE] at p;by_cases z:fP a ea≠0
  ·rw[if_pos z] at p;omega
  ·rw[if_neg z] at p;omega
 rw[if_neg c4] at hs;by_cases c5:kind=5
 ·rw[if_pos c5] at hs;rw[if_neg c4,if_pos c5] at hC;by_cases z:0<lv (fP a ea)
  ·rw[if_pos z] at hs;have t8:=Pc<|fP a ea;have p:=yl hs;rw[Mv _ _ rfl] at p;have p:eU a'.fs.reverse<=uc 61 bd+(lv (fP a ea) - 1).toNat*uc 61 bd+(if false=true then _ else 0)+eU ({f with aw:=f.aw+1}::r):=p;rw[if_neg ff,u3] at p;have m:(lv (fP a ea) - 1).toNat*uc 60 bd<=7*uc 60 bd:=UW _ ae;omega
  ·rw[if_neg z] at hs;have:=yl hs;omega
 rw[if_neg c5] at hs;by_cases c6:kind=6
 ·rw[if_pos c6] at hs;cases hb:below (f::r) with
  |none=>rw[hb] at hs;cases hs
  |some p=>
   obtain⟨⟨fb,fa,ft,fo,kept,S8⟩,r'⟩:=p;rw[hb] at hs;have ho:=J3 hb;cases S8 with
   |none=>cases hs
   |some ol=>
    have p:=yl hs;rw[Mv _ _ rfl] at p;have p:eU a'.fs.reverse<=uc 61 ol+(0:Int).toNat*uc 61 ol+(if false=true then _ else 0)+eU r':=p;rw[if_neg ff,show(0:Int).toNat=0 from rfl,UE] at p;have gS:below ({f with aw:=f.aw+1}::r)=some (⟨fb,fa,ft,fo,kept,some ol⟩,r')\/∃g':Fr,below ({f with aw:=f.aw+1}::r)=some (g',r')/\g'.other=some ol:=by
     unfold lY.below at hb ⊢;by_cases c:f.cq=true
     ·rw[if_pos c] at hb;injection hb with hb;injection hb with h1 h2
      refine .inr ⟨{f with aw:=f.aw+1},by rw[←h2];exact if_pos c,by show f.other=_;rw[h1]⟩
     ·rw[if_neg c] at hb;exact .inl (by rw[←hb];exact if_neg c)
    have:uc 61 ol+eU r'<=eU ({f with aw:=f.aw+1}::r):=by
     rcases gS with gS|⟨g',gS,eo⟩
     ·exact OH gS<|J3 gS
     ·have:=OH gS<|J3 gS;rw[eo] at this;exact this
    omega
 rw[if_neg c6] at hs;by_cases c7:kind=7
 ·rw[if_pos c7] at hs;rw[if_neg c4,if_neg c5,if_pos c7] at hC;have p:=yl hs;rw[Mv _ _ rfl] at p;have p:eU a'.fs.reverse<=uc 61 bd+(0:Int).toNat*uc 61 bd+(if true=true then uc 61 el else 0)+eU ({f with aw:=f.aw+1}::r):=p;rw[if_pos rfl,show(0:Int).toNat=0 from rfl,UE] at p;omega
 ·rw[if_neg c7] at hs;cases hs
theorem agF(h:mV a){v:Int}(hk:fm a=(2,v,0))(hs:pc a x=some a'):eU a'.fs.reverse+1<=eU a.fs.reverse:=by
 rcases h.top with e|⟨f,r,e,ht⟩
 ·exfalso;unfold fm at hk;rw[e] at hk;injection hk with q _;omega
 have hw:=h.inv.wf;rw[e] at hw;obtain⟨d,⟨kind,to,ea,eb,bd,el⟩,hd,q,_⟩:=Cp hw ht;have tp:=Xm (r:=r) hw.2.1.1 q;unfold pc at hs;rw[e] at hs ⊢;simp only[q] at hs;have:=yl hs;have:1<=o5 (uc 60) (.mk kind to ea eb bd el):=Ve _ _;omega
end
theorem agG(hw:kZ 6 tx)(hc:gF 60 tx<=2000){bb:bp}(h:iH 1000 [uP tx] [[]]=some (st,bb)):((eU st:Nat):Int)<=gF 60 tx:=by
 have p:=Gm 1000 _ _ _ _ h;have e:eU [uP tx]=uc 61 tx:=by show uc 61 tx+(0:Int).toNat*uc 61 tx+(if false=true then _ else 0)+0=_;rw[if_neg ff,show(0:Int).toNat=0 from rfl,UE];rfl
 have s:=G0 6 61 60 tx hw ae ae;have:=Xl 60 tx hc;omega
theorem ae4{n:Int}(h:oB tx n true):gF 60 tx<=2000:=by obtain⟨_,_,_,_,_,e⟩:=h;obtain⟨h1,_⟩:=and_true.1 e.symm;exact(of_decide_eq_true h1).2.2.2
end RO
