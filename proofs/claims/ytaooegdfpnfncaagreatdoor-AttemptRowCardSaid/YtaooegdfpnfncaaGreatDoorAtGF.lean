import Derived.Test.YtaooegdfpnfncaaGreatDoorAtGE
import Derived.Test.YtaooegdfpnfncaaGreatDoorRnGD
set_option maxRecDepth 100000
set_option maxHeartbeats 8000000
set_option linter.unusedSimpArgs false
set_option linter.unusedVariables false
section
open Go Go.Rn Go.RowKit Go.Proofs
namespace LC
open cr cS dj dA fc gK AE dL fQ yO wA yu qR nV Ie LB hI
variable {k:Nat}
theorem We(l:List St):AV.ab (nm<|bC l) 0 l.length=aD a9 l:=by rw[vu];rfl
theorem JT{l:List St}(h:qS k l=true):bp (ba<|qJ k) [.ab (nm<|bC l) 0 l.length]=some (.ab (nm<|bC l) 0 l.length):=fu (ff qJ.bR ⟨l,rfl,h,rfl⟩) (by rw[List.all_cons,uf];rfl)<|uf l
theorem ab0(hP:bB pg)(h':aV [sg 6,oO k]){L:bU}(h:aV L):aV<|oO (k+1)::L:=by
 refine g9 hP h h' Tryz.func44 fun args v e=>?_;obtain⟨l,rfl,hg,rfl⟩:=gf e;refine⟨aL.1 aY,fun B mc=>?_⟩;rw[←gN];have hg:(decide (l.length<=10000)&&l.all fun s=>pz 6 (iC s)&&(pz 6 (ib s)&&(qS k (ct s)&&qS k (cm s))))=true:=hg;rw[Bool.and_eq_true,decide_eq_true_eq,List.all_eq_true] at hg;obtain⟨hlen,hd⟩:=hg;have qk:∀s∈l,pz 6 (iC s)=true/\pz 6 (ib s)=true/\qS k (ct s)=true/\qS k (cm s)=true:=fun s hs=>by have:=hd s hs;rw[Bool.and_eq_true,Bool.and_eq_true,Bool.and_eq_true] at this;exact this
 refine go_c mc ?_;cases l with
 |nil=>have:=akA (N:=nm<|bC []) (L:=0) mc ah;rw[←We] at this;exact this
 |cons a0 l0=>
  have key:∀(r:List St) (i:Nat),(a0::l0).drop i=r->1<=i->i<=(a0::l0).length->av pg B 270 (Fin pg (aA Tryz.f44) fun y _=>y= .ab (nm<|bC<|a0::l0) 0 (a0::l0).length) (uJ (nm<|bC<|a0::l0) (a0::l0).length ((a0::l0).take i) i) (aj (aq++[(270,some<|aI a9<|(a0::l0).take i)]) 271):=by
   generalize hl:a0::l0=l at*;intro r;induction r with
   |nil=>intro i hr _ hle;have hi:l.length<=i:=List.drop_eq_nil_iff.1 hr;have e:l.take i=l:=List.take_of_length_le hi;rw[e];have:=akD (N:=nm<|bC l) (L:=l.length) (W:=l) (i:=(i:Int)) mc ah ah;rw[←We] at this;exact this
   |cons a r ih=>
    intro i hr h1 hle;have cF:i<l.length:=by
     by_cases q:i<l.length
     ·exact q
     ·rw[List.drop_of_length_le ah] at hr;cases hr
    have ha:l[i]? =some a:=by have:=congrArg (fun q=>q[0]?) hr;simp only[List.getElem?_drop,List.getElem?_cons_zero,Nat.add_zero] at this;exact this
    have hm:a∈l:=List.mem_of_getElem? ha;have lR:l.drop (i+1)=r:=by have:=congrArg (List.drop 1) hr;rw[List.drop_drop] at this;exact this
    have p6:=ih (i+1) lR ah ah;rw[List.take_add_one,ha] at p6;obtain⟨g1,g2,g3,g4⟩:=qk a hm;have hx:=GS ha (z:=(i:Int)) ah;obtain⟨kd,to,⟨oa,na,la⟩,⟨ob,nb,lb⟩,bd,el⟩:=a;have cA:=Ee (k:=6) g1;have cB:=Ee (k:=6) g2;have cD:=JT g3;have cE:=JT g4;simp only[iC,ib,ct,cm] at cA cB cD cE;rw[aM] at cA cB;rw[a9,aM,aM] at hx;exact akx (i:=(i:Int)) (W:=l.take i) mc (cU _) ah hlen hx cA cB cD cE (by rw[List.length_append,List.length_take];show _+1<=20000;omega) ah p6
  have p6:=key l0 1 rfl ah (by show 1<=l0.length+1;omega);rw[List.take_succ_cons,List.take_zero] at p6;obtain⟨g1,g2,g3,g4⟩:=qk a0 List.mem_cons_self;have hx:=GS (l:=a0::l0) (i:=0) (a:=a0) rfl (z:=(0:Int)) rfl;obtain⟨kd,to,⟨oa,na,la⟩,⟨ob,nb,lb⟩,bd,el⟩:=a0;have cA:=Ee (k:=6) g1;have cB:=Ee (k:=6) g2;have cD:=JT g3;have cE:=JT g4;simp only[iC,ib,ct,cm] at cA cB cD cE;rw[aM] at cA cB;rw[show a9 (St.mk kd to (Ex.mk oa na la) (Ex.mk ob nb lb) bd el)=_ from by rw[a9,aM,aM]] at hx;exact akv mc (cU _) hlen hx cA cB cD cE (by show 1<=20000;omega) (by show(0:Int)<((l0.length+1:Nat):Int);omega) p6
theorem Uz(hP:bB pg):∀(k:Nat) {L:bU},aV L->aV (oO k::L)
 |0,L,h=>by refine g9 hP h cO Tryz.func44 fun args v e=>?_;obtain⟨_,_,hd,_⟩:=gf e;cases hd
 |k+1,L,h=>ab0 hP (OW hP 6<|Uz hP k cO) h
end LC
end
section
open Go Go.Rn Go.RowKit Go.Proofs
namespace YF
open cr fQ hI
variable {left:List<|Int×Int} {cur:Option<|AV×AV} {v0 k0:Int}
noncomputable section
def l0:List<|Nat×AV:=[(0,.map<|some 270),(1,.map<|some 271),(6,.map<|some 271),(7,.ptr<|some (272,0))]
def lx(k v:Int):List<|Nat×AV:=[(0,.map<|some 270),(1,.map<|some 271),(4,.int .i64 k),(5,.int .i64 v),(6,.map<|some 271),(7,.ptr<|some (272,0)),(8,.tuple [.bool true,.int .i64 k,.int .i64 v]),(9,.bool true),(10,.tuple [.int .i64 k,.int .i64 v]),(11,.int .i64 k),(12,.int .i64 v),(13,.map<|some 270),(14,.int .i64 k),(15,.int .i64 v)]
def KN:List Item:=[.code<|aW pg 109 [1,0,0,1],.inLoop<|aW pg 109 [1,0,0],.inBlock 0]
def ou(t:Tr AV):AF:=⟨109,t,max Tryz.f109.ntmps 2,.code (aW pg 109 [1,0,0,0])::KN,[],none⟩
def jw(m2 d left:List<|Int×Int)(cur:Option<|AV×AV):AS:=aj (aq++[(270,some<|bL d),(271,some .jP),(272,some<|.iter 271 (dh m2) false (dh left) cur)]) 273
def IQ:Oper:=(opsOf<|aW pg 109 [1,0,0,0]).toList.headD default
def Ig:Array Oper:=opsOf<|aW pg 109 [1,0,0,0]
def HE:List Oper:=(opsOf<|aW pg 109 [1,0,0,0]).toList.tail
def nK(t:Tr AV)(v:AV)(b:Bool):AF:=⟨109,(t.put 8<|some v).put 9<|some<|.bool b,max Tryz.f109.ntmps 2,KN,[],none⟩
def R6:Env:=wx pg 270 eB dV [] 272 true
theorem asks(t:Tr AV):DW (ou t)=some (.tmp 7,IQ,Ig,HE,KN):=by kernel_rfl
theorem ai4{m2 d:List<|Int×Int}:vA (ou<|aP l0) (.tmp 7) (jw m2 d left cur)= .ok (272,.iter 271 (dh m2) false (dh left) cur) (jw m2 d left cur):=by kernel_rfl
theorem XO{m2 d:List<|Int×Int}{k v:Int}:vA (ou<|aP<|lx k v) (.tmp 7) (jw m2 d left cur)= .ok (272,.iter 271 (dh m2) false (dh left) cur) (jw m2 d left cur):=by kernel_rfl
theorem ai5{m2 d:List<|Int×Int}{SI:aO}:pO pg SI (ou<|aP l0) 272 271 (dh m2) false IQ Ig HE KN (jw m2 d left cur)= .ok (nK (aP l0) (.tuple [.bool false]) false) (aj (aq++[(270,some<|bL d),(271,some<|bL m2),(272,none)]) 273):=by kernel_rfl
theorem Lr{m2 d:List<|Int×Int}{SI:aO}{k v:Int}:pO pg SI (ou<|aP<|lx k v) 272 271 (dh m2) false IQ Ig HE KN (jw m2 d left cur)= .ok (nK (aP<|lx k v) (.tuple [.bool false]) false) (aj (aq++[(270,some<|bL d),(271,some<|bL m2),(272,none)]) 273):=by kernel_rfl
theorem is0{m2 d r:List<|Int×Int}{SI:aO}{k v:Int}:pQ pg SI (ou<|aP l0) 272 (.iter 271 (dh m2) false (dh r)<|some (.int .i64 k,.int .i64 v)) IQ Ig HE KN (.tuple [.bool true,.int .i64 k,.int .i64 v]) (jw m2 d left cur)= .ok (nK (aP l0) (.tuple [.bool true,.int .i64 k,.int .i64 v]) true) (jw m2 d r<|some (.int .i64 k,.int .i64 v)):=by kernel_rfl
theorem isX{m2 d r:List<|Int×Int}{SI:aO}{k v:Int}:pQ pg SI (ou<|aP<|lx k0 v0) 272 (.iter 271 (dh m2) false (dh r)<|some (.int .i64 k,.int .i64 v)) IQ Ig HE KN (.tuple [.bool true,.int .i64 k,.int .i64 v]) (jw m2 d left cur)= .ok (nK (aP<|lx k0 v0) (.tuple [.bool true,.int .i64 k,.int .i64 v]) true) (jw m2 d r<|some (.int .i64 k,.int .i64 v)):=by kernel_rfl
abbrev FM(m1 m2:List<|Int×Int):=Q8 270 pg (aA Tryz.f109) m1 m2
theorem KV:fH<=272:=Nat.le_trans gL ah
theorem YG(m2 d r:List<|Int×Int)(k v:Int)(fr:AF):(some (bL d)=some (bL d))/\(fr=fr/\jw m2 (gD d k v) r (some (.int .i64 k,.int .i64 v))=jw m2 (gD d k v) r (some (.int .i64 k,.int .i64 v))):=⟨rfl,rfl,rfl⟩
section
variable {B:aJ} {m1 m2 d r:List<|Int×Int} {k v:Int}
theorem ai6(mc:Mt [] B)(H:av pg B 272 (FM m1 m2) (ou<|aP<|lx k v)<|jw m2 (gD d k v) r<|some (.int .i64 k,.int .i64 v)):
 av pg B 272 (FM m1 m2) (nK (aP l0) (.tuple [.bool true,.int .i64 k,.int .i64 v]) true) (jw m2 d r<|some (.int .i64 k,.int .i64 v)):=
 x8 (E:=R6) (C:=fun fr s1 _=>fr=ou (aP<|lx k v)/\s1=jw m2 (gD d k v) r (some (.int .i64 k,.int .i64 v))) eH rfl bT mc.2.2.1 mc.2.2.2 KV rfl mc.1 nJ 900 (.st 6<|.rg<|.go 3<|.My d<|.en<|.st 3<|.cut .no) (YG m2 d r k v<|ou<|aP<|lx k v)
theorem ai7(mc:Mt [] B)(H:av pg B 272 (FM m1 m2) (ou<|aP<|lx k v)<|jw m2 (gD d k v) r<|some (.int .i64 k,.int .i64 v)):
 av pg B 272 (FM m1 m2) (nK (aP<|lx k0 v0) (.tuple [.bool true,.int .i64 k,.int .i64 v]) true) (jw m2 d r<|some (.int .i64 k,.int .i64 v)):=
 x8 (E:=R6) (C:=fun fr s1 _=>fr=ou (aP<|lx k v)/\s1=jw m2 (gD d k v) r (some (.int .i64 k,.int .i64 v))) eH rfl bT mc.2.2.1 mc.2.2.2 KV rfl mc.1 nJ 900 (.st 6<|.rg<|.go 3<|.My d<|.en<|.st 3<|.cut .no) (YG m2 d r k v<|ou<|aP<|lx k v)
theorem XP{m1 m2 d:List<|Int×Int}(hk:fZ m1)(hp:d.Perm<|jf m1 m2):gY FU 272 273 [(9,.bool false)] [(270,some<|bL d),(271,some<|bL m2)] [(9,.bool false)] [(270,some<|bL<|jf m1 m2),(271,some<|bL m2)] 272:=by
 let r:Nat->Nat:=fun k=>if k<272\/top<=k then k else max k 273
 have t0:272<top:=by unfold top;omega
 have rl:∀k,k<272->r k=k:=fun k hk=>if_pos<|.inl hk;refine⟨[],r,rl,fun k h1 h2=>?_,fun k hk=>if_pos<|.inr hk,by omega,fun p hp=>?_,fun p hp=>?_,fun p hp q hq _ _ e=>?_,fun p hp=>nZ,fun p hp=>nZ⟩
 ·show 273<=(if _ then _ else _)/\(if _ then _ else _)<top;rw[if_neg ah];have:273<top:=by unfold top;omega
  omega
 ·rw[List.mem_singleton] at hp;subst hp;exact⟨by show 9<top;omega,_,List.mem_singleton.2 rfl,(bz.bool _).z⟩
 ·rcases List.mem_cons.1 hp with rfl|hp
  ·refine⟨by show 270<top;omega,fun y hy=>?_⟩;cases hy;rw[rl 270 ah];exact⟨by omega,rfl,_,List.mem_cons_self,⟨fun _=>rfl,(fun e=>by cases e),fun e=>by cases e⟩,fun ρ fA N o _ h=>abN hk.merge (by assumption) h⟩
  ·rw[List.mem_singleton] at hp;subst hp;refine⟨by show 271<top;omega,fun y hy=>?_⟩;cases hy;rw[rl 271 ah];exact⟨by omega,rfl,_,List.mem_cons_of_mem _ List.mem_cons_self,fm.refl _,fun ρ fA N o _ h=>xG h⟩
 ·rcases List.mem_cons.1 hp with rfl|hp<;>rcases List.mem_cons.1 hq with rfl|hq
  ·rfl
  ·rw[List.mem_singleton] at hq;subst hq;rw[rl _ ah,rl _ ah] at e;exact e
  ·rw[List.mem_singleton] at hp;subst hp;rw[rl _ ah,rl _ ah] at e;exact e
  ·rw[List.mem_singleton] at hp hq;subst hp;subst hq;rfl
def akE(m1 m2:List<|Int×Int)(s':AS)(y:AV):Prop:=y= .tuple []/\s'.h.get 270=some (bL<|jf m1 m2)/\s'.h.get 271=some (bL m2)
theorem akF(m1 m2:List<|Int×Int):akE m1 m2 (aj [(270,some<|bL<|jf m1 m2),(271,some<|bL m2)] 272)<|.tuple []:=⟨rfl,by kernel_rfl,by kernel_rfl⟩
theorem YH(mc:Mt [] B):av pg B 272 (FM m1 m2) ⟨109,aP [(9,.bool false)],max Tryz.f109.ntmps 2,KN,[],none⟩<|aj [(270,some<|bL<|jf m1 m2),(271,some<|bL m2)] 272:=l6 (E:=R6) eH rfl bT mc.2.2.1 mc.2.2.2 900 (.rt 4 .no)<|akF m1 m2
theorem ai8(mc:Mt [] B)(hk:fZ m1)(hp:d.Perm<|jf m1 m2):av pg B 272 (FM m1 m2) (nK (aP l0) (.tuple [.bool false]) false)<|aj (aq++[(270,some<|bL d),(271,some<|bL m2),(272,none)]) 273:=av.rn (l0:=[(9,.bool false)]) (o0:=[(270,some<|bL d),(271,some<|bL m2)]) KV cC cC (by rw[mc.1];exact XP hk hp)<|YH mc
theorem ai9(mc:Mt [] B)(hk:fZ m1)(hp:d.Perm<|jf m1 m2):av pg B 272 (FM m1 m2) (nK (aP<|lx k0 v0) (.tuple [.bool false]) false)<|aj (aq++[(270,some<|bL d),(271,some<|bL m2),(272,none)]) 273:=av.rn (l0:=[(9,.bool false)]) (o0:=[(270,some<|bL d),(271,some<|bL m2)]) KV cC cC (by rw[mc.1];exact XP hk hp)<|YH mc
theorem Hb(h:dh left=[]):left=[]:=by cases left with|nil=>rfl|cons _ _=>cases h
theorem aja(mc:Mt [] B)(hk:fZ m1)(MK:fZ m2):∀(n:Nat) (left Gf d:List<|Int×Int) (k v:Int) (cur:Option<|AV×AV),left.length=n->m2.Perm (Gf++left)->d=jf m1 Gf->
 av pg B 272 (FM m1 m2) (ou<|aP<|lx k v) (jw m2 d left cur):=by
 intro n;induction n with
 |zero=>intro left Gf d k v cur hn hp hd;have hl:=List.eq_nil_of_length_eq_zero hn;subst hl;refine av.next mc.2.2.1 mc.2.2.2 (asks _) (by show 272<=273;omega) XO (fun _=>⟨_,_,Lr,ai9 mc hk ?_⟩) (fun x r h=>by cases h);rw[hd,List.append_nil] at*;exact abL hk ((hp.map (·.1)).nodup_iff.1 MK) hp.symm
 |succ n ih=>intro left Gf d k v cur hn hp hd;refine av.next mc.2.2.1 mc.2.2.2 (asks _) (by show 272<=273;omega) XO (fun h=>by rw[Hb h] at hn;cases hn) fun x r h=>?_;obtain⟨p,l',rfl,rfl,ML⟩:=Oh h;refine⟨_,_,isX,ai7 mc ?_⟩;refine ih l' (Gf++[p]) _ _ _ _ (by have:=ML.length_eq;rw[List.length_cons] at this;omega) ?_ (by rw[abM,hd]);rw[List.append_assoc];exact hp.trans<|ML.append_left Gf
theorem ajb(mc:Mt [] B)(hk:fZ m1)(MK:fZ m2):av pg B 272 (FM m1 m2) (ou<|aP l0)<|jw m2 m1 m2 none:=by
 refine av.next mc.2.2.1 mc.2.2.2 (asks _) (by show 272<=273;omega) ai4 (fun h=>⟨_,_,ai5,ai8 mc hk ?_⟩) fun x r h=>?_
 ·rw[Hb h];exact List.Perm.refl _
 ·obtain⟨p,l',rfl,rfl,ML⟩:=Oh h;refine⟨_,_,is0,ai6 mc ?_⟩;exact aja mc hk MK l'.length l' [p] _ _ _ _ rfl ML rfl
end
def Dn:FuncId×KE:=(109,.raw w6)
theorem ahs(hP:bB pg){L:bU}(h:aV L):aV<|Dn::L:=by refine agX hP gL (aL.1 aY) ir gZ kG ki h cO Tryz.func109 (body:=aW pg 109 []) aY aY fun m1 m2 k1 k2=>?_;refine⟨aL.1 aY,fun B mc=>?_⟩;exact av.chunk (k:=5) (aQ:=ou<|aP l0) (s1:=jw m2 m1 m2 none) bT mc.2.2.1 mc.2.2.2 cC (by show 272<=272;omega)<|ajb mc k1 k2
end
end YF
end
section
open Go Go.Rn Go.RowKit Go.Proofs
namespace kJ
open cr fQ hI fF
variable {r:Nat->Nat} {o0:List<|Nat×Option ae} {lo bF:Nat} {ps:List<|Nat×Nat} {b a:List<|Int×Int}
def mo(ps:List<|Nat×Nat)(lo bF k:Nat):Nat:=match ps.find? fun p=>Nat.beq p.1 k with
 |some p=>p.2
 |none=>if k<lo\/top<=k then k else max k bF
def xf(ps:List<|Nat×Nat)(lo bF nx:Nat)(names:List Nat):Bool:=ps.all (fun p=>Nat.ble lo p.1&&(Nat.blt p.1 nx&&(Nat.ble lo p.2&&Nat.blt p.2 top)))&&(Nat.ble lo nx&&(Nat.ble nx top&&(Nat.blt bF top&&(names.all fun m=>Nat.blt m lo||ps.any fun p=>Nat.beq p.1 m))))
def Fy(ps:List<|Nat×Nat):Bool:=ps.all fun p=>ps.all fun q=> !(Nat.beq p.2 q.2)||Nat.beq p.1 q.1
def Dp(r:Nat->Nat)(l0:List<|Nat×AV):List (Nat×AV)->Prop
 |[]=>True
 |p::l=>(p.1<top/\∃x,(p.1,x)∈l0/\lH [] r x p.2)/\Dp r l0 l
def xg(r:Nat->Nat)(o0:List<|Nat×Option ae):List (Nat×Option ae)->Prop
 |[]=>True
 |p::l=>(∀y,p.2=some y->y.lZ=true/\∃x,(r p.1,some x)∈o0/\fm x y/\fI [] r x y)/\xg r o0 l
theorem Dp.mem{l0:List<|Nat×AV}:∀{l:List<|Nat×AV},Dp r l0 l->∀p∈l,p.1<top/\∃x,(p.1,x)∈l0/\lH [] r x p.2
 |[],_,p,hp=>by cases hp
 |a::l,h,p,hp=>by
  rcases List.mem_cons.1 hp with rfl|hp
  ·exact h.1
  ·exact Dp.mem h.2 p hp
theorem xg.mem:∀{l:List<|Nat×Option ae},xg r o0 l->∀p∈l,∀y,p.2=some y->y.lZ=true/\∃x,(r p.1,some x)∈o0/\fm x y/\fI [] r x y
 |[],_,p,hp=>by cases hp
 |a::l,h,p,hp=>by
  rcases List.mem_cons.1 hp with rfl|hp
  ·exact h.1
  ·exact xg.mem h.2 p hp
theorem Ct{nx:Nat}{l0 l:List<|Nat×AV}{o:List<|Nat×Option ae}(gI:270<=lo)(hb:xf ps lo bF nx (o.map (·.1))=true)(hi:Fy ps=true)(hl:∀r,r=mo ps lo bF->(∀k,top<=k->r k=k)->Dp r l0 l)(ho:∀r,r=mo ps lo bF->(∀k,top<=k->r k=k)->xg r o0 o):
 gY FU lo bF l0 (aq++o0) l (aq++o) nx:=by
 unfold xf at hb;obtain⟨b1,hb⟩:=and_true.1 hb;obtain⟨b2,hb⟩:=and_true.1 hb;obtain⟨b3,hb⟩:=and_true.1 hb;obtain⟨b4,b5⟩:=and_true.1 hb;have b2:=aL.1 b2;have b3:=aL.1 b3;have b4:=(blt_eq _ _).mp b4;have uX:∀p∈ps,lo<=p.1/\p.1<nx/\lo<=p.2/\p.2<top:=fun p hp=>by have:=List.all_eq_true.1 b1 p hp;obtain⟨c1,c2⟩:=and_true.1 this;obtain⟨c2,c3⟩:=and_true.1 c2;obtain⟨c3,c4⟩:=and_true.1 c3;exact⟨aL.1 c1,(blt_eq _ _).mp c2,aL.1 c3,(blt_eq _ _).mp c4⟩
 have none_:∀k,(k<lo\/nx<=k)->(ps.find? fun p=>Nat.beq p.1 k)=none:=fun k hk=>by refine List.find?_eq_none.2 fun p hp=>?_;obtain⟨c1,c2,_⟩:=uX p hp;rw[eA];omega
 let r:=mo ps lo bF;have rl:∀k,k<lo->r k=k:=fun k hk=>by show mo ps lo bF k=k;unfold mo;rw[none_ k<|.inl hk];exact if_pos<|.inl hk
 have rt:∀k,top<=k->r k=k:=fun k hk=>by show mo ps lo bF k=k;unfold mo;rw[none_ k<|.inr ah];exact if_pos<|.inr hk
 have rn:∀k,nx<=k->k<top->bF<=r k/\r k<top:=fun k h1 h2=>by show bF<=mo ps lo bF k/\mo ps lo bF k<top;unfold mo;rw[none_ k<|.inr h1];show bF<=(if _ then _ else _)/\(if _ then _ else _)<top;rw[if_neg ah];omega
 have ZJ:∀k∈o.map (·.1),(k<lo/\r k=k)\/∃p∈ps,p.1=k/\r k=p.2:=fun k hk=>by
  have:=List.all_eq_true.1 b5 k hk;rcases Bool.or_eq_true_iff.1 this with this|this
  ·have:=(blt_eq _ _).mp this;exact .inl ⟨this,rl k this⟩
  right;obtain⟨p,hp,e⟩:=List.any_eq_true.1 this;cases q:ps.find? fun p=>Nat.beq p.1 k with
  |none=>exact absurd e (by simpa using List.find?_eq_none.1 q p hp)
  |some p'=>have h1:=List.find?_some q;refine⟨p',List.mem_of_find?_eq_some q,eA.1 h1,?_⟩;show mo ps lo bF k=_;unfold mo;rw[q]
 have Ge:∀p∈aq,p.1<270:=fun p hp=>by obtain⟨k,hk,e⟩:=List.mem_map.1 hp;rw[←e];exact gZ k hk
 have t0:270<top:=by unfold top;omega
 refine⟨[],r,rl,rn,rt,b3,(hl r rfl rt).mem,fun p hp=>?_,fun p hp q hq _ _ e=>?_,fun p hp=>nZ,fun p hp=>nZ⟩
 ·rcases List.mem_append.1 hp with hp|hp
  ·have cF:=Ge p hp;refine⟨by omega,fun y hy=>?_⟩;rw[rl _ ah];refine⟨by omega,Vi p hp y hy,y,?_,fm.refl _,(GQ (nx:=270) (fun k hk=>rl k ah) cC p hp y hy).z⟩;refine List.mem_append_left _ ?_;rw[←hy];exact hp
  ·have cF:p.1<top/\r p.1<top:=by
    rcases ZJ p.1 (List.mem_map.2 ⟨p,hp,rfl⟩) with⟨c1,c2⟩|⟨p',h1,h2,h3⟩
    ·rw[c2];omega
    ·obtain⟨c1,c2,c3,c4⟩:=uX p' h1;rw[h3];omega
   refine⟨cF.1,fun y hy=>?_⟩;obtain⟨d1,x,d2,d3,d4⟩:=(ho r rfl rt).mem p hp y hy;exact⟨cF.2,d1,x,List.mem_append_right _ d2,d3,d4⟩
 ·have key:∀p∈aq++o,(p.1<lo/\r p.1=p.1)\/∃q∈ps,q.1=p.1/\r p.1=q.2:=fun p hp=>by
   rcases List.mem_append.1 hp with hp|hp
   ·exact .inl ⟨by have:=Ge p hp;omega,rl _ (by have:=Ge p hp;omega)⟩
   ·exact ZJ p.1<|List.mem_map.2 ⟨p,hp,rfl⟩
  rcases key p hp with⟨a1,a2⟩|⟨a,a1,a2,a3⟩<;>rcases key q hq with⟨c1,c2⟩|⟨c,c1,c2,c3⟩
  ·rw[a2,c2] at e;exact e
  ·have:=(uX c c1).2.2.1;rw[a2,c3] at e;omega
  ·have:=(uX a a1).2.2.1;rw[a3,c2] at e;omega
  ·rw[a3,c3] at e;have h1:=List.all_eq_true.1 (List.all_eq_true.1 hi a a1) c c1;rw[Bool.or_eq_true] at h1;rcases h1 with h1|h1
   ·rw[e,show Nat.beq c.2 c.2=true from Nat.beq_refl _] at h1;cases h1
   ·rw[←a2, ←c2];exact Nat.eq_of_beq_eq_true h1
theorem UA{l m:List AV}{rest:List AV}(hl:(l++rest).length<=top)(h:mB [] r l m)(h1:m.all AV.cj=true):fI [] r (.cells (l++rest).length (Tr.fill (l++rest) 0 .nil) [])<|.cells m.length (Tr.fill m 0 .nil) []:=by
 have hlen:=h.length;have yW:l.length<=(l++rest).length:=by rw[List.length_append];omega
 intro ρ fA N o zc k;refine fI.cells ah h h1 ρ fA N o zc ?_;obtain⟨c,e,rfl,k1,k2,k3⟩:=k;refine⟨c,e,rfl,k1,by omega,fun i hi=>?_⟩;obtain⟨x,v,a1,a2,a3,a4⟩:=k3 i ah;refine⟨x,v,?_,a2,a3,a4⟩;unfold cellAt at a1 ⊢;rw[Tr.xy _ _ _ _ ah,if_pos ah,Nat.sub_zero] at a1;rw[Tr.xy _ _ _ _ ah,if_pos ah,Nat.sub_zero];rw[List.getElem?_append_left hi] at a1;exact a1
theorem Wf{n m o len mL e:Nat}(h:r m=n)(h1:mL<=lo)(h2:len<=mL):bz r (.slice (some (n,o)) len<|.ar lo e)<|.slice (some (m,o)) len<|.ar mL e:=by intro ρ v hv;simp only[VR] at hv ⊢;obtain⟨b,N,c,q1,q2,q3,q4,q5⟩:=hv;exact⟨b,N,c,by rw[h];exact q1,q2,by omega,q4,q5⟩
theorem akG{m:List<|Int×Int}:fI [] r (bL m)<|bL m:=fun _ _ _ _ _ h=>xG h
theorem XQ{m:List<|Int×Int}(hk:fZ m):fI [] r (HV m)<|bL m:=fun _ _ _ _ _ h=>adS hk h
theorem ajc:fm (bL a)<|bL b:=⟨fun _=>rfl,(fun e=>by cases e),fun e=>by cases e⟩
theorem W6:fm (HV a)<|bL b:=⟨fun _=>rfl,(fun e=>by cases e),fun e=>by cases e⟩
theorem qH{a b:Nat}{s t:Tr AV}{z w:List AV}:fm (.cells a s z)<|.cells b t w:=⟨fun _=>rfl,(fun e=>by cases e),fun e=>by cases e⟩
theorem mi{α:Type}{l:List α}{a:α}(j:Nat)(h:l[j]? =some a:=by rfl):a∈l:=List.mem_of_getElem? h
theorem rq{m n:Nat}(hr:r=mo ps lo bF)(h:mo ps lo bF m=n:=by as_aux_lemma=>kernel_rfl):r m=n:=by rw[hr];exact h
theorem vi{k:IntKind}{n:Int}:lH [] r (.int k n)<|.int k n:=(bz.int _ _).z
theorem mq{m n:Nat}{x y:ae}(hm:(n,some x)∈o0)(hr:r m=n)(kp:fm x y)(ent:fI [] r x y)(pl:y.lZ=true:=by rfl):∀z,some y=some z->z.lZ=true/\∃x,(r m,some x)∈o0/\fm x z/\fI [] r x z:=fun z e=>by cases e;exact⟨pl,x,by rw[hr];exact hm,kp,ent⟩
theorem KW{N M:Nat}{l m:List AV}(h:mB [] r l m)(hN:l.length=N:=by rfl)(hM:m.length=M:=by rfl)(hl:Nat.ble N top=true:=by as_aux_lemma=>kernel_rfl)(h1:m.all AV.cj=true:=by rfl):fI [] r (.cells N (Tr.fill l 0 .nil) [])<|.cells M (Tr.fill m 0 .nil) []:=by subst hN;subst hM;exact fI.cells (aL.1 hl) h h1
abbrev ZK(lo bF nx:Nat)(l0:List<|Nat×AV)(o0:List<|Nat×Option ae)(l1:List<|Nat×AV)(o1:List<|Nat×Option ae)(fr:AF)(s:AS):Prop:=(l0.map (fun q=>some q.2)=l0.map (fun q=>some q.2))/\((aq++o0).map (fun q=>q.2)=(aq++o0).map (fun q=>q.2))/\gY FU lo bF l0 (aq++o0) l1 (aq++o1) nx/\(fr=fr/\s=s)
end kJ
end
section
open Go Go.Rn Go.RowKit Go.Proofs
namespace Rc
open cr dj fQ fc hI kJ zk yO cS
variable {S N:Nat} {r:Nat->Nat} {dU:Int} {B:aJ} {init:List Int}
noncomputable section
def BF(S:Nat):ae:=(.cells (S*2) (Tr.fill ((List.replicate S (⟨-1,0⟩:Lk)).map nw).flatten 0 .nil) [.int .i64 0,.int .i64 0])
def hR:Tr ae:=fL<|aq++[(270,some<|.cells 2 (Tr.fill [.int .i64<|-1,.int .i64 0] 0 .nil) [])]
def aje(S:Nat)(v:AV)(st:AS):Prop:=v= .slice (some (271,0)) S (.known S)/\st.h=HW hR [(271,some<|BF S)]/\st.nx=272/\st.mark=0/\st.rd=[]/\st.wr=[]
def ajf(S k:Nat):Pl:=.st 8<|.rg<|.go 2<|.vl (.int .u64<|.ofNat 1)<|.go 1<|.vl (.int .u64<|.ofNat S)<|.il<|.st 6<|.rg<|.go 2<|.il<|.rt 25<|.go 5<|.en<|.rt 3<|.go 5<|.en<|.st 6<|.rg<|.go 1<|.vl (i6<|.ofNat S)<|.go 2<|.en<|.rt k .no
def ajg(_:1<=S/\S<=32):Pl:=ajf S<|[0,13,22,31,31,40,40,40,40,49,49,49,49,49,49,49,49,58,58,58,58,58,58,58,58,58,58,58,58,58,58,58,58].getD S 0
abbrev YI:Env:=wx pg 270 eB dV [] 270 false
theorem akI(S:Nat):AV.int .u64 (.ofNat 1)= .int .u64 (.ofNat 1)/\AV.int .u64 (.ofNat S)= .int .u64 (.ofNat S)/\AV.int .i64 (.ofNat S)= .int .i64 (.ofNat S)/\AV.slice (some (271,0)) S (.known S)= .slice (some (271,0)) S (.known S)/\HW hR [(271,some<|BF S)]=HW hR [(271,some<|BF S)]/\272=272/\0=0/\([]:List Nat)=[]/\([]:List Nat)=[]:=⟨rfl,rfl,rfl,rfl,rfl,rfl,rfl,rfl,rfl⟩
theorem ahv(hS:1<=S/\S<=32):mP YI 5 (aA Tryz.f21) (aje S) (sF 21 Tryz.f21 [.slice (some (270,0)) 1<|.known 1,.int .i64<|.ofNat S]) ⟨hR,271,0,[],[]⟩:=by
 have h:S=1\/S=2\/S=3\/S=4\/S=5\/S=6\/S=7\/S=8\/S=9\/S=10\/S=11\/S=12\/S=13\/S=14\/S=15\/S=16\/S=17\/S=18\/S=19\/S=20\/S=21\/S=22\/S=23\/S=24\/S=25\/S=26\/S=27\/S=28\/S=29\/S=30\/S=31\/S=32:=by omega
 have T:=akI S;rcases h with rfl|rfl|rfl|rfl|rfl|rfl|rfl|rfl|rfl|rfl|rfl|rfl|rfl|rfl|rfl|rfl|rfl|rfl|rfl|rfl|rfl|rfl|rfl|rfl|rfl|rfl|rfl|rfl|rfl|rfl|rfl|rfl
 all_goals exact v8 (C:=fun _ _ _=>False) eH rfl (fun _ _ _ h=>h.elim) 2000 (ajg hS) T
abbrev YJ(S:Nat):AS:=⟨HW hR [(271,some<|BF S)],272,0,[],[]⟩
theorem ad8(hS:1<=S/\S<=32):bg pg (sp []) FU 6 (.fn 21) [.slice (some (270,0)) 1<|.known 1,.int .i64<|.ofNat S] ⟨hR,271,0,[],[]⟩= .ok (.slice (some (271,0)) S<|.known S) (YJ S):=by obtain⟨v1,s2,q1,q2⟩:=mP.call (E:=YI) Tryz.func21 (xF Tryz.func21 cC)<|ahv hS;obtain⟨h2,nx2,anT,AP,wr2⟩:=s2;obtain⟨rfl,b1,b2,b3,b4,b5⟩:=q2;simp only at b1 b2 b3 b4 b5;subst b1;subst b2;subst b3;subst b4;subst b5;exact q1
theorem Vj{l z:List AV}(hr:∀k,top<=k->r k=k)(hl:l.length<=top)(hh:l.all AV.cq=true):fI [] r (.cells l.length (Tr.fill l 0 .nil) z)<|.cells l.length (Tr.fill l 0 .nil) []:=fun ρ fA N o m h=>by
 have key:OR ρ N (bt l) o:=by simp only[OR,bt] at h ⊢;obtain⟨c,e,rfl,h1,h2,h3⟩:=h;refine⟨c,e,rfl,h1,h2,fun i hi=>?_⟩;obtain⟨x,v,k1,k2,k3,k4⟩:=h3 i hi;refine⟨x,v,?_,k2,k3,k4⟩;unfold cellAt at k1 ⊢;rw[Tr.xy _ _ _ _ ah,if_pos ah] at k1 ⊢;rw[List.getElem?_eq_getElem ah] at k1 ⊢;exact k1
 exact Al (ρ:=ρ) (fun k x hk e=>by show fA (r k)=some x;rw[hr k hk];exact m.1 _ _ e) hl hh key
theorem ad9{l:List Int}(hr:∀k,top<=k->r k=k)(hl:l.length<=32):fI [] r (aI aG l)<|aI aG l:=by
 refine Vj hr ?_ ?_
 ·rw[eI.length];have:top=549755813888:=rfl;omega
 ·rw[List.all_eq_true];intro c hc;obtain⟨y,hy,hc⟩:=List.mem_flatten.1 hc;obtain⟨g,_,rfl⟩:=List.mem_map.1 hy;rw[show aG g=[.int .i64 g] from rfl,List.mem_singleton] at hc;subst hc;rfl
theorem Wi(S:Nat):((List.replicate S (⟨-1,0⟩:Lk)).map nw).flatten.length=S*2:=by
 have:=tD (K:=2) (l:=(List.replicate S (⟨-1,0⟩:Lk)).map nw) fun c hc=>by obtain⟨a,_,rfl⟩:=List.mem_map.1 hc;rfl
 rw[this,List.length_map,List.length_replicate]
theorem afK(hr:∀k,top<=k->r k=k)(hl:S<=32):fI [] r (BF S)<|aI nw<|List.replicate S (⟨-1,0⟩:Lk):=by unfold BF aI;rw[←Wi S];refine Vj hr (by rw[Wi];have:top=549755813888:=rfl;omega) ?_;rw[List.all_eq_true];intro c hc;obtain⟨y,hy,hc⟩:=List.mem_flatten.1 hc;obtain⟨g,_,rfl⟩:=List.mem_map.1 hy;rw[show nw g=[.int .i64 g.owner,.int .i64 g.version] from rfl] at hc;simp only[List.mem_cons,List.not_mem_nil,or_false] at hc;rcases hc with rfl|rfl<;>rfl
theorem afL{o m:Nat}{st:Int}(mc:Mt [] B)(hv:(m:Int)<1\/(m:Int)>32\/st<1\/st>(m:Int)\/dU<0\/dU>1099511627776):av pg B 270 (Rn.Fin pg (aA Tryz.f6) fun y _=>y= .tuple [.ptr none,.int .i64 1]) (sF 6 Tryz.f6 [(.ab N o m),(i6 st),(i6 dU)])<|aj aq 270:=wS mc (.st 4<|.rg<|.go 2<|.fk (.go 23<|.en<|.rt 4 .no)<|.go 3<|.fk (.go 19<|.en<|.rt 4 .no)<|.go 3<|.fk (.go 15<|.en<|.rt 4 .no)<|.go 5<|.fk (.go 9<|.en<|.rt 4 .no)<|.go 3<|.fk (.go 5<|.en<|.rt 4 .no)<|.go 3<|.fk (.go 1<|.en<|.rt 4 .no)<|.no)<|ax ((m:Int)<1) (fun _=>(show((.tuple [(.ptr none),(i6<|.ofNat 1)]):AV)= .tuple [.ptr none,.int .i64 1] from rfl)) fun _=>(ax ((m:Int)>32) (fun _=>(show((.tuple [(.ptr none),(i6<|.ofNat 1)]):AV)= .tuple [.ptr none,.int .i64 1] from rfl)) fun _=>(ax (st<1) (fun _=>(show((.tuple [(.ptr none),(i6<|.ofNat 1)]):AV)= .tuple [.ptr none,.int .i64 1] from rfl)) fun _=>(ax (st>(m:Int)) (fun _=>(show((.tuple [(.ptr none),(i6<|.ofNat 1)]):AV)= .tuple [.ptr none,.int .i64 1] from rfl)) fun _=>(ax (dU<0) (fun _=>(show((.tuple [(.ptr none),(i6<|.ofNat 1)]):AV)= .tuple [.ptr none,.int .i64 1] from rfl)) fun _=>(ax (dU>1099511627776) (fun _=>(show((.tuple [(.ptr none),(i6<|.ofNat 1)]):AV)= .tuple [.ptr none,.int .i64 1] from rfl)) eM)))))
noncomputable abbrev Ew(S:Nat)(dU:Int)(init:List Int):List<|Nat×Option ae:=aq++[(270,some<|.cells 4 (Tr.fill [(.slice (some (271,0)) (S)<|.known S),i0,(i6 dU),(.slice (some (272,0)) (init.length)<|.ar init.length 1)] 0 .nil) []),(271,some<|aI nw<|List.replicate S (⟨-1,0⟩:Lk)),(272,some<|aI aG init)]
theorem aea(mc:Mt [] B)(dm:ky (⟨(List.replicate S (⟨-1,0⟩:Lk)),0,dU,init⟩:cK)):av pg B 270 (mf XT pg (aA Tryz.f6) 2 (.tuple [.ptr<|some (270,0),.int .i64 0])<|aX (⟨(List.replicate S (⟨-1,0⟩:Lk)),0,dU,init⟩:cK)) (⟨6,aP [(6,(.ptr<|some (270,0))),(7,i0)],44,(dq 6 [1,1,1]),[],none⟩:AF)<|aj (Ew S dU init) 273:=wS mc (.rt 1 .no)<|Mc (a:=(⟨(List.replicate S (⟨-1,0⟩:Lk)),0,dU,init⟩:cK)) (nl:=S) (nv:=init.length) (.known S) (.ar init.length 1) dm (by rw[List.length_replicate]) rfl (show((.tuple [(.ptr<|some (270,0)),i0]):AV)= .tuple [.ptr<|some (270,0),.int .i64 0] from rfl) rfl 273
noncomputable abbrev PX(S:Nat)(init:List Int)(dU:Int):List<|Nat×Option ae:=aq++[(271,(some<|BF S)),(273,(some<|aI aG init)),(274,some<|.cells 4 (Tr.fill [(.slice (some (271,0)) (S)<|.known S),i0,(i6 dU),(.slice (some (273,0)) (init.length)<|.ar init.length 1)] 0 .nil) [])]
theorem afM{o m:Nat}(hS:1<=S/\S<=32)(hl:init.length<=32)(hSm:S<=m+1)(an3:0<=dU/\dU<=1099511627776)(hn:top<=N)(hf:top<=N/\cx FU N o ((m+1)*1)=some (init.map aG).flatten/\m+1=init.length)(mc:Mt [] B)(dm:ky (⟨(List.replicate S (⟨-1,0⟩:Lk)),0,dU,init⟩:cK)):av pg B 270 (mf XT pg (aA Tryz.f6) 2 (.tuple [.ptr<|some (270,0),.int .i64 0])<|aX (⟨(List.replicate S (⟨-1,0⟩:Lk)),0,dU,init⟩:cK)) (sF 6 Tryz.f6 [(.ab N o<|m+1),(i6<|(S:Int)),(i6 dU)])<|aj aq 270:=wC mc (C:=(fun fr s1 _=>fr=(⟨6,aP [(6,(.ptr<|some (270,0))),(7,i0)],44,(dq 6 [1,1,1]),[],none⟩:AF)/\s1=(aj (Ew S dU init) 273))) (fun fr s1 p hC=>by obtain⟨rfl,rfl⟩:=hC;exact aea mc dm) (.st 4<|.rg<|.go 2<|.fk (.no)<|.go 3<|.fk (.no)<|.go 3<|.fk (.no)<|.go 5<|.fk (.no)<|.go 3<|.fk (.no)<|.go 3<|.fk (.no)<|.go 1<|.en<|.st 3<|.rg<|.go 3<|.cu (.slice (some (271,0)) (S)<|.known S) (YJ S)<|.go 3<|.il<|.st 8<|.rg<|.go 2<|.al Int aG [] init<|.go 1<|.en<|.rt 1<|.go 4<|.en<|.rn [(6,(.ptr<|some (274,0))),(7,i0)] (PX S init dU) [(6,(.ptr<|some (270,0))),(7,i0)] (Ew S dU init) 275 273 .no)<|ax ((((m+1):Nat):Int)<1) eM fun _=>(ax ((((m+1):Nat):Int)>32) eM fun _=>(ax ((S:Int)<1) eM fun _=>(ax ((S:Int)>(((m+1):Nat):Int)) eM fun _=>(ax (dU<0) eM fun _=>(ax (dU>1099511627776) eM fun _=>(ai (ad8 hS)<|Gd aG [] init (K:=1) (j8:=8) hf (fun x=>⟨rfl,rfl⟩) Q3 Q4<|ai (mS [(6,(.ptr<|some (274,0))),(7,i0)])<|ai (mO<|PX S init dU)<|ai (show gY FU 270 275 [(6,(.ptr<|some (274,0))),(7,i0)] (PX S init dU) [(6,(.ptr<|some (270,0))),(7,i0)] (Ew S dU init) 273 from Ct (ps:=[(270,274),(271,271),(272,273)]) (lo:=270) (bF:=275) ah cn cn (fun r hr ht=>⟨⟨by unfold top;omega,_,(mi 0),((bz.ptr<|rq hr)).z⟩,⟨⟨by unfold top;omega,_,(mi 1),vi⟩,trivial⟩⟩) fun r hr ht=>⟨mq (mi 2) (rq hr) qH<|KW (l:=[(.slice (some (271,0)) (S)<|.known S),i0,(i6 dU),(.slice (some (273,0)) (init.length)<|.ar init.length 1)]) (m:=[(.slice (some (271,0)) (S)<|.known S),i0,(i6 dU),(.slice (some (272,0)) (init.length)<|.ar init.length 1)]) ⟨((bz.slice<|rq hr)).z,⟨vi,⟨vi,⟨((bz.slice<|rq hr)).z,trivial⟩⟩⟩⟩,⟨mq (mi 0) (rq hr) qH<|afK ht hS.2,⟨mq (mi 1) (rq hr) (fm.refl _)<|ad9 ht hl,trivial⟩⟩⟩) (show(⟨6,aP [(6,(.ptr<|some (270,0))),(7,i0)],44,(dq 6 [1,1,1]),[],none⟩:AF)=(⟨6,aP [(6,(.ptr<|some (270,0))),(7,i0)],44,(dq 6 [1,1,1]),[],none⟩:AF)/\(aj (Ew S dU init) 273)=(aj (Ew S dU init) 273) from⟨rfl,rfl⟩)))))))
end
end Rc
end
section
open Go Go.Rn Go.RowKit Go.Proofs
namespace iF
open cr fF fQ hI YF kJ uH
variable {x:Int} {r:Nat->Nat} {g nt i:Nat} {w2 w1:AV} {p:Option Code} {o0:List<|Nat×Option ae} {j9:bA} {oe:cM}
noncomputable section
section
variable {B:aJ} {ms:bA} {cap:cM}
theorem jc{l:bA}(h:1<=l.length/\l.length<=6):(∃m0,l=[m0])\/(∃m0 m1,l=[m0,m1])\/(∃m0 m1 m2,l=[m0,m1,m2])\/(∃m0 m1 m2 m3,l=[m0,m1,m2,m3])\/(∃m0 m1 m2 m3 m4,l=[m0,m1,m2,m3,m4])\/∃m0 m1 m2 m3 m4 m5,l=[m0,m1,m2,m3,m4,m5]:=by
 match l,h with
 |[a],_=>exact .inl ⟨_,rfl⟩
 |[a,b],_=>exact .inr<|.inl ⟨_,_,rfl⟩
 |[a,b,c],_=>exact .inr<|.inr<|.inl ⟨_,_,_,rfl⟩
 |[a,b,c,d],_=>exact .inr<|.inr<|.inr<|.inl ⟨_,_,_,_,rfl⟩
 |[a,b,c,d,e],_=>exact .inr<|.inr<|.inr<|.inr<|.inl ⟨_,_,_,_,_,rfl⟩
 |[a,b,c,d,e,f],_=>exact .inr<|.inr<|.inr<|.inr<|.inr ⟨_,_,_,_,_,_,rfl⟩
 |[],h=>simp at h
 |_::_::_::_::_::_::_::_,h=>simp at h
theorem XS{l:bA}(h:1<=l.length/\l.length<=7):l.length<=6\/∃m0 m1 m2 m3 m4 m5 m6,l=[m0,m1,m2,m3,m4,m5,m6]:=by
 match l,h with
 |[a,b,c,d,e,f,g],_=>exact .inr ⟨_,_,_,_,_,_,_,rfl⟩
 |[],_|[_],_|[_,_],_|[_,_,_],_|[_,_,_,_],_|[_,_,_,_,_],_|[_,_,_,_,_,_],_=>exact .inl (by simp)
 |_::_::_::_::_::_::_::_::l,h=>simp only[List.length_cons] at h;omega
theorem afN(h:fy ms){nx:Nat}:∀m p,(m,p)∈gE ms cap->(aj (aq++bO (gE ms cap)) nx).h.get m=some p:=fun m p hm=>by
 rcases(XS h.1).imp (fun q=>jc ⟨h.1.1,q⟩) id with(⟨m0,rfl⟩|⟨m0,m1,rfl⟩|⟨m0,m1,m2,rfl⟩|⟨m0,m1,m2,m3,rfl⟩|⟨m0,m1,m2,m3,m4,rfl⟩|⟨m0,m1,m2,m3,m4,m5,rfl⟩)|⟨m0,m1,m2,m3,m4,m5,m6,rfl⟩
 all_goals
  simp only[gE,qO,List.mem_cons,List.not_mem_nil,or_false] at hm
  repeat' (rcases hm with hm|hm)
  all_goals kernel_rfl
theorem Re(nx:Nat)(h:fy ms)(hc:uF ms.length cap)(y:AV):m7 3 y (cv ms) (aj (aq++bO (gE ms cap)) nx) y:=⟨rfl,_,.buf _ h cap hc,afN h⟩
def mD:bA->Int->Int->bA
 |[],_,_=>[]
 |[m],v,x=>[gD m v x]
 |m::m'::l,v,x=>m::mD (m'::l) v x
def gU:bA->bA
 |[]=>[]
 |[m]=>[m]
 |[m,m']=>[jf m m']
 |m::m'::IU::l=>m::gU (m'::IU::l)
def yx:bA->List (Int×Int)
 |[]=>[]
 |[m]=>m
 |_::l=>yx l
def gB(ms:bA)(v:Int):Nat->Option Int
 |0=>none
 |n+1=>if lM (ms.getD n []) v=true then some (getM (ms.getD n []) v) else gB ms v n
def lq(ms:bA)(v:Int):Int×Bool:=((gB ms v ms.length).getD 0,(gB ms v ms.length).isSome)
theorem afO{l:bA}{m:List<|Int×Int}{v:Int}(h:fy<|l++[m]):fy<|l++[gD m v x]:=by
 obtain⟨h1,h2⟩:=h;rw[List.length_append] at h1;refine⟨by rw[List.length_append];exact h1,fun q hq=>?_⟩;rcases List.mem_append.1 hq with hq|hq
 ·exact h2 q<|List.mem_append_left _ hq
 ·rw[List.mem_singleton] at hq;subst hq;exact fZ.set (h2 m<|List.mem_append_right _<|List.mem_singleton.2 rfl) v x
theorem TN{l:bA}{m:List<|Int×Int}{v:Int}:mD (l++[m]) v x=l++[gD m v x]:=by
 induction l with
 |nil=>rfl
 |cons y l ih=>
  cases l with
  |nil=>rfl
  |cons z l=>show y::mD (z::(l++[m])) v x=_;rw[show(z::(l++[m]):bA)=(z::l)++[m] from rfl,ih];rfl
theorem Ov{b:bA}(h:fy b)(v x:Int):fy<|mD b v x:=by
 have cz:b≠[]:=fun e=>by have:=h.1.1;rw[e] at this;simp only[List.length_nil] at this;omega
 rw[←List.dropLast_concat_getLast cz] at h ⊢;rw[TN];exact afO h
theorem Jt:∀(b:bA) (v x:Int),(mD b v x).length=b.length
 |[],_,_|[_],_,_=>rfl
 |m::m'::l,v,x=>congrArg (· +1)<|Jt (m'::l) v x
theorem Px(h:fy ms)(h6:ms.length<7):fy<|ms++[[]]:=by
 refine⟨by rw[List.length_append];show 1<=ms.length+1/\ms.length+1<=7;omega,fun m hm=>?_⟩;rcases List.mem_append.1 hm with hm|hm
 ·exact h.2 m hm
 ·rw[List.mem_singleton] at hm;subst hm;exact List.nodup_nil
theorem Py(h:fy ms)(h2:2<=ms.length):fy ms.dropLast:=by refine⟨by rw[List.length_dropLast];have:=h.1.2;omega,fun m hm=>h.2 m<|List.dropLast_subset _ hm⟩
theorem Ji:∀ms:bA,2<=ms.length->(gU ms).length+1=ms.length
 |[],h=>by simp at h
 |[_],h=>by simp at h
 |[_,_],_=>rfl
 |m::m'::IU::l,_=>by have:=Ji (m'::IU::l) (by simp);show(gU<|m'::IU::l).length+1+1=(m'::IU::l).length+1;rw[this]
theorem SN:∀ms:bA,(∀m∈ms,fZ m)->∀m∈gU ms,fZ m
 |[],h,m,hm=>by cases hm
 |[a],h,m,hm=>h m hm
 |[a,b],h,m,hm=>by rw[show gU [a,b]=[jf a b] from rfl,List.mem_singleton] at hm;subst hm;exact fZ.merge (h a<|by simp)
 |a::b::c::l,h,m,hm=>by
  have hm:m∈a::gU (b::c::l):=hm;rcases List.mem_cons.1 hm with rfl|hm
  ·exact h _ (by simp)
  ·exact SN (b::c::l) (fun q hq=>h q<|List.mem_cons_of_mem _ hq) m hm
theorem JV(h:fy ms)(h2:2<=ms.length):fy<|gU ms:=⟨by have:=Ji ms h2;have:=h.1.2;omega,SN ms h.2⟩
theorem aeb(h:fy ms):∀p∈gE ms cap,p.1<279:=fun p hp=>by
 have h6:=h.1.2;rcases List.mem_cons.1 hp with rfl|hp
 ·show 270<279;omega
 rcases List.mem_cons.1 hp with rfl|hp
 ·show 271<279;omega
 ·have:=(Oi hp).2.1;omega
abbrev SB(B:aJ)(g nt:Nat)(rs:List ResultVar)(args:List AV)(ms:bA)(cap:cM)(y:AV)(j9:bA):Prop:=av pg B 271 (mf XT pg rs 3 y<|cv j9) ⟨g,dZ<|.ptr (some (270,0))::args,nt,[.code<|aW pg g []],[],none⟩<|aj (aq++bO (gE ms cap)) 279
theorem akJ{v:Int}(mc:Mt [] B)(h:fy ms)(hc:uF ms.length cap)(k:((some (bL<|yx ms)=some (bL<|yx ms))/\m7 3 (.int .i64 0) (cv<|mD ms v x) (aj (aq++bO (gE (mD ms v x) cap)) 279) (.int .i64 0))=wp (rC []) 900 6 (.fr 98 (max Tryz.f98.ntmps 3) (dq 98 []) (dZ [.ptr<|some (270,0),.int .i64 v,.int .i64 x])<|aj (aq++bO (gE ms cap)) 279) (.st 8<|.rg<|.go 14<|.My (yx ms)<|.en<|.rt 3 .no) (aA Tryz.f98) (fun y s _=>m7 3 (.int .i64 0) (cv<|mD ms v x) s y) (fun _ _ _=>False):=by as_aux_lemma=>kernel_rfl):
 SB B 98 (max Tryz.f98.ntmps 3) (aA Tryz.f98) [.int .i64 v,.int .i64 x] ms cap (.int .i64 0) (mD ms v x):=
 oj mc _ ⟨rfl,Re 279 (Ov h v x) (by rw[Jt];exact hc)<|.int .i64 0⟩ k cC
theorem aec{v:Int}(mc:Mt [] B)(h:fy ms)(hc:uF ms.length cap)(h6:ms.length<=6):SB B 98 (max Tryz.f98.ntmps 3) (aA Tryz.f98) [.int .i64 v,.int .i64 x] ms cap (.int .i64 0)<|mD ms v x:=by rcases jc ⟨h.1.1,h6⟩ with⟨m0,rfl⟩|⟨m0,m1,rfl⟩|⟨m0,m1,m2,rfl⟩|⟨m0,m1,m2,m3,rfl⟩|⟨m0,m1,m2,m3,m4,rfl⟩|⟨m0,m1,m2,m3,m4,m5,rfl⟩<;>exact akJ mc h hc
abbrev KA(L:bU)(g:Nat)(f:Func)(ms:bA)(cap:cM)(path:List Nat)(j9:bA)(oe:cM)(p:Pl):Prop:=wp (rC L) 900 6 (.fr g (max f.ntmps 1) [.code<|aW pg g []] (dZ [.ptr<|some (270,0)])<|aj (aq++bO (gE ms cap)) 279) p f.results.toList (fun y s _=>m7 3 (.int .i64 0) (cv j9) s y) fun fr s1 _=>fr=⟨g,aP [(2,i0)],max f.ntmps 1,[.code<|aW pg g path],[],none⟩/\s1=aj (aq++bO (gE j9 oe)) 279
abbrev MM(j9:bA)(oe:cM):Prop:=m7 3 (.int .i64 0) (cv j9) (aj (aq++bO (gE j9 oe)) 279)<|.int .i64 0
abbrev KB(L:bU)(g:Nat)(f:Func)(path:List Nat)(j9:bA)(oe:cM):Prop:=wp (rC L) 900 6 (.fr g (max f.ntmps 1) [.code<|aW pg g path] (aP [(2,i0)])<|aj (aq++bO (gE j9 oe)) 279) (.rt 1 .no) f.results.toList (fun y s _=>m7 3 (.int .i64 0) (cv j9) s y) fun _ _ _=>False
theorem PY{L:bU}{f:Func}(path:List Nat)(mc:Mt L B)(h':fy j9)(Sg:uF j9.length oe)(p:Pl){T:Prop}(x:T)(k:T=KA L g f ms cap path j9 oe p:=by as_aux_lemma=>kernel_rfl)(k2:MM j9 oe=KB L g f path j9 oe:=by as_aux_lemma=>kernel_rfl):
 SB B g (max f.ntmps 1) f.results.toList [] ms cap (.int .i64 0) j9:=
 IL mc (fun fr s1 _ hC=>by obtain⟨rfl,rfl⟩:=hC;exact oj mc _ (Re 279 h' Sg _) k2 cC) p x k cC
abbrev IV(bF:Nat)(o0:List<|Nat×Option ae)(j9:bA)(oe:cM)(g nt:Nat)(path:List Nat):Prop:=ZK 271 bF 279 [(2,i0)] o0 [(2,i0)] (bO<|gE j9 oe) ⟨g,aP [(2,i0)],nt,[.code<|aW pg g path],[],none⟩<|aj (aq++bO (gE j9 oe)) 279
theorem YK{ps:List<|Nat×Nat}{bF:Nat}{path:List Nat}(h:∀r,r=mo ps 271 bF->xg r o0 (bO<|gE j9 oe))(h1:xf ps 271 bF 279 ((bO<|gE j9 oe).map (·.1))=true:=by as_aux_lemma=>kernel_rfl)(h2:Fy ps=true:=by as_aux_lemma=>kernel_rfl):IV bF o0 j9 oe g nt path:=⟨rfl,rfl,Ct (ps:=ps) ah h1 h2 (fun r hr ht=>⟨⟨by unfold top;omega,_,mi 0,vi⟩,trivial⟩) fun r hr _=>h r hr,rfl,rfl⟩
def Gg(n:Nat):List<|Nat×Nat:=(271,281)::(272+n,279)::(List.range n).map fun i=>(272+i,272+i)
def Sh(ms:bA):List<|Nat×Option ae:=(270,some<|aI kf [.slice (some (281,0)) (ms.length+1)<|.ar (ms.length+1) 1])::(281,some<|aI kf<|mG ms.length++[.map<|some 279])::(279,some<|HV [])::bO (qO 272 ms)
theorem KX(l:List AV):(l.map kf).flatten=l:=Cp l
theorem Ij{l m:List AV}(h:mB [] r l m)(hl:l.length<=8)(h1:m.all AV.cj=true):fI [] r (aI kf l)<|aI kf m:=by show fI [] r (.cells (l.map kf).flatten.length (Tr.fill (l.map kf).flatten 0 .nil) [])<|.cells (m.map kf).flatten.length (Tr.fill (m.map kf).flatten 0 .nil) [];rw[KX,KX];exact fI.cells eX h h1
theorem Vk(n:Nat):(mG n).all AV.cj=true:=by rw[mG,List.all_map,List.all_eq_true];exact fun _ _=>rfl
theorem Vl(n:Nat):(mG n).length=n:=by rw[mG,List.length_map,List.length_range]
theorem ZP{m:Nat}{l:List<|Int×Int}(q:r m=m)(hm:(m,some<|bL l)∈o0:=by repeat first|exact List.mem_cons_self|apply List.mem_cons_of_mem):∀z,some (bL l)=some z->z.lZ=true/\∃x,(r m,some x)∈o0/\fm x z/\fI [] r x z:=mq hm q ajc akG
theorem ajh(mc:Mt [] B)(h:fy<|ms++[[]])(w1:∀r,r=mo (Gg ms.length) 271 282->mB [] r (mG ms.length++[.map<|some 279]) (mG (ms++[[]]).length))(w2:∀r,r=mo (Gg ms.length) 271 282->xg r (Sh ms) (bO<|qO 272<|ms++[[]]))(k:IV 282 (Sh ms) (ms++[[]]) (.ar (ms.length+1) 1) 100 (max Tryz.f100.ntmps 1) [1,1,1,1]=KA [] 100 Tryz.f100 ms cap [1,1,1,1] (ms++[[]]) (.ar (ms.length+1) 1) (.st 11<|.rn [(2,i0)] (aq++Sh ms) [(2,i0)] (aq++bO (gE (ms++[[]])<|.ar (ms.length+1) 1)) 282 279 .no):=by as_aux_lemma=>kernel_rfl)(h1:xf (Gg ms.length) 271 282 279 ((bO<|gE (ms++[[]])<|.ar (ms.length+1) 1).map (·.1))=true:=by as_aux_lemma=>kernel_rfl)(h2:Fy (Gg ms.length)=true:=by as_aux_lemma=>kernel_rfl)(q0:mo (Gg ms.length) 271 282 270=270:=by as_aux_lemma=>kernel_rfl)(q1:mo (Gg ms.length) 271 282 271=281:=by as_aux_lemma=>kernel_rfl)(k2:MM (ms++[[]]) (.ar (ms.length+1) 1)=KB [] 100 Tryz.f100 [1,1,1,1] (ms++[[]]) (.ar (ms.length+1) 1):=by as_aux_lemma=>kernel_rfl):
 SB B 100 (max Tryz.f100.ntmps 1) (aA Tryz.f100) [] ms cap (.int .i64 0) (ms++[[]]):=by
 have hl:(ms++[[]]).length=ms.length+1:=by rw[List.length_append];rfl
 have h7:=h.1.2;refine PY [1,1,1,1] mc h (.inl<|by rw[hl]) _ (YK (fun r hr=>⟨mq (mi 0) (rq hr q0) qH<|Ij (l:=[.slice (some (281,0)) (ms.length+1)<|.ar (ms.length+1) 1]) ⟨?_,trivial⟩ (by simp) rfl,mq (mi 1) (rq hr q1) qH<|Ij (w1 r hr) ?_<|Vk _,w2 r hr⟩) h1 h2) k k2
 ·rw[hl];exact(bz.slice<|rq hr q1).z
 ·rw[List.length_append,Vl];show ms.length+1<=8;omega
theorem acW(mc:Mt [] B)(h:fy ms)(hc:uF ms.length cap)(h6:ms.length<=6):SB B 100 (max Tryz.f100.ntmps 1) (aA Tryz.f100) [] ms cap (.int .i64 0)<|ms++[[]]:=by
  have h2:=Px h ah
  rcases jc ⟨h.1.1,h6⟩ with⟨m0,rfl⟩|⟨m0,m1,rfl⟩|⟨m0,m1,m2,rfl⟩|⟨m0,m1,m2,m3,rfl⟩|⟨m0,m1,m2,m3,m4,rfl⟩|⟨m0,m1,m2,m3,m4,m5,rfl⟩
  all_goals rcases hc with rfl|⟨e,rfl⟩
  all_goals first
    |(cases e;done)
    | (refine ajh mc h2 (fun r hr=>?_) fun r hr=>?_
       · repeat' first|exact trivial|refine⟨(bz.map<|rq hr).z,?_⟩
       · repeat' first|exact trivial|refine⟨mq (n:=279) (mi 2) (rq hr) W6<|XQ List.nodup_nil,?_⟩|refine⟨ZP<|rq hr,?_⟩)
theorem Vm{α:Type}{f g:α->AV}:∀{l:List α},(∀i∈l,lH [] r (f i)<|g i)->mB [] r (l.map f) (l.map g)
 |[],_=>trivial
 |_::_,h=>⟨h _ List.mem_cons_self,Vm fun i hi=>h i<|List.mem_cons_of_mem _ hi⟩
theorem YL{r:Nat->Nat}{o0:List<|Nat×Option ae}:∀{ms:bA} {k:Nat},(∀p∈qO k ms,(p.1,some p.2)∈o0)->(∀i,i<ms.length->r (k+i)=k+i)->xg r o0 (bO<|qO k ms)
 |[],_,_,_=>trivial
 |m::ms,k,h,q=>⟨ZP (m:=k) (q 0<|Nat.succ_pos _)<|h _ List.mem_cons_self,YL (fun p hp=>h p<|List.mem_cons_of_mem _ hp) fun i hi=>by have:=q (i+1)<|Nat.succ_lt_succ hi;rwa[show k+1+i=k+(i+1) by omega]⟩
theorem Vn:∀{l:List<|Nat×ae} {p:Nat×ae},p∈l->(p.1,some p.2)∈bO l
 |_::l,p,h=>by
  rcases List.mem_cons.1 h with rfl|h
  ·exact List.mem_cons_self
  ·exact List.mem_cons_of_mem _<|Vn h
def MO:List<|Nat×Nat:=[(271,271),(272,272),(273,273),(274,274),(275,275),(276,276),(277,277)]
theorem XU(hr:r=mo MO 271 279)(i:Nat)(h:i<6):r (272+i)=272+i:=by rcases(by omega:i=0\/i=1\/i=2\/i=3\/i=4\/i=5) with rfl|rfl|rfl|rfl|rfl|rfl<;>exact rq hr
def IW(ms:bA):List<|Nat×Option ae:=(270,some<|aI kf [.slice (some (271,0)) ms.length<|.ar (ms.length+1) 1])::(271,some<|aI kf<|mG<|ms.length+1)::bO (qO 272 ms)
theorem Wj{path:List Nat}(h:fy ms)(h6:ms.length<=6)(h1:xf MO 271 279 279 ((bO<|gE ms<|.ar ms.length 1).map (·.1))=true:=by as_aux_lemma=>kernel_rfl):IV 279 (IW ms) ms (.ar ms.length 1) g nt path:=by refine YK (fun r hr=>⟨mq (mi 0) (rq hr) qH<|Ij (l:=[.slice (some (271,0)) ms.length<|.ar (ms.length+1) 1]) ⟨(Wf (rq hr) ah ah).z,trivial⟩ (by simp) rfl,mq (mi 1) (rq hr) qH ?_,YL (fun p hp=>List.mem_cons_of_mem _<|List.mem_cons_of_mem _<|Vn hp) fun i hi=>XU hr i ah⟩) h1;show fI [] r (.cells ((mG<|ms.length+1).map kf).flatten.length (Tr.fill ((mG<|ms.length+1).map kf).flatten 0 .nil) [])<|.cells ((mG ms.length).map kf).flatten.length (Tr.fill ((mG ms.length).map kf).flatten 0 .nil) [];rw[KX,KX,show mG (ms.length+1)=mG ms.length++[.map<|some<|272+ms.length] by rw[mG,List.range_succ,List.map_append];rfl];exact UA (by rw[List.length_append,Vl];show ms.length+1<=top;unfold top;omega) (Vm fun i hi=>(bz.map<|XU hr i (by have:=List.mem_range.1 hi;omega)).z)<|Vk _
theorem aji(mc:Mt [] B)(h:fy ms.dropLast)(h6:ms.dropLast.length<=6)(h1:xf MO 271 279 279 ((bO<|gE ms.dropLast<|.ar ms.dropLast.length 1).map (·.1))=true:=by as_aux_lemma=>kernel_rfl)(k:IV 279 (IW ms.dropLast) ms.dropLast (.ar ms.dropLast.length 1) 99 (max Tryz.f99.ntmps 1) [1,1,1]=KA [] 99 Tryz.f99 ms cap [1,1,1] ms.dropLast (.ar ms.dropLast.length 1) (.st 3<|.rg<|.go 1<|.il<|.rt 19<|.go 5<|.en<|.st 2<|.rn [(2,i0)] (aq++IW ms.dropLast) [(2,i0)] (aq++bO (gE ms.dropLast<|.ar ms.dropLast.length 1)) 279 279 .no):=by as_aux_lemma=>kernel_rfl)(k2:MM ms.dropLast (.ar ms.dropLast.length 1)=KB [] 99 Tryz.f99 [1,1,1] ms.dropLast (.ar ms.dropLast.length 1):=by as_aux_lemma=>kernel_rfl):
 SB B 99 (max Tryz.f99.ntmps 1) (aA Tryz.f99) [] ms cap (.int .i64 0) ms.dropLast:=
 PY [1,1,1] mc h (.inl rfl) _ (Wj h h6 h1) k k2
theorem acX(mc:Mt [] B)(h:fy ms)(hc:uF ms.length cap)(h2:2<=ms.length)(h6:ms.length<=6):SB B 99 (max Tryz.f99.ntmps 1) (aA Tryz.f99) [] ms cap (.int .i64 0) ms.dropLast:=by
 have q:=Py h h2;have q6:ms.dropLast.length<=6:=by rw[List.length_dropLast];omega
 rcases hc with rfl|⟨e,_⟩
 rotate_left
 ·omega
 rcases jc ⟨h.1.1,h6⟩ with⟨m0,rfl⟩|⟨m0,m1,rfl⟩|⟨m0,m1,m2,rfl⟩|⟨m0,m1,m2,m3,rfl⟩|⟨m0,m1,m2,m3,m4,rfl⟩|⟨m0,m1,m2,m3,m4,m5,rfl⟩
 ·simp at h2
 all_goals exact aji mc q q6
def mcS(a b:Nat)(m1 m2:List<|Int×Int)(s:AS):AS:=fB b (some<|bL m2)<|fB a (some<|bL<|jf m1 m2)<|bc b<|bc a<|dK 270 dV eB s
def Dr(ms:bA):AS:=⟨fL<|aq++(270,some<|aI kf [.slice (some (271,0)) (ms.length - 1)<|.ar ms.length 1])::(271,some<|aI kf<|mG ms.length)::bO (qO 272 ms),279,279,[],[]⟩
abbrev ZQ(ms:bA):AS:=mcS (272+(ms.length - 2)) (272+(ms.length - 1)) (yx ms.dropLast) (yx ms)<|Dr ms
theorem Ow:∀{ms:bA},(∀m∈ms,fZ m)->fZ (yx ms)
 |[],_=>List.nodup_nil
 |[m],h=>h m List.mem_cons_self
 |_::m::l,h=>Ow (ms:=m::l) fun q hq=>h q<|List.mem_cons_of_mem _ hq
theorem ahw(mc:Mt [Dn] B)(h0:fy ms)(hn:2<=ms.length)(h:fy<|gU ms)(h6:(gU ms).length<=6)(h1:xf MO 271 279 279 ((bO<|gE (gU ms)<|.ar (gU ms).length 1).map (·.1))=true:=by as_aux_lemma=>kernel_rfl)(hk:qg 270 dV eB (Dr ms)=true:=by as_aux_lemma=>kernel_rfl)(ha:Nat.blt (272+(ms.length - 2)) (dK 270 dV eB<|Dr ms).nx=true:=by as_aux_lemma=>kernel_rfl)(hb:Nat.blt (272+(ms.length - 1)) (dK 270 dV eB<|Dr ms).nx=true:=by as_aux_lemma=>kernel_rfl)(g1:(dK 270 dV eB<|Dr ms).h.get (272+(ms.length - 2))=some (bL<|yx ms.dropLast):=by as_aux_lemma=>kernel_rfl)(g2:(dK 270 dV eB<|Dr ms).h.get (272+(ms.length - 1))=some (bL<|yx ms):=by as_aux_lemma=>kernel_rfl)(k:(bg pg (sp [Dn]) FU 6 (.fn 109) [.map<|some<|272+(ms.length - 2),.map<|some<|272+(ms.length - 1)] (Dr ms)= .ok (.tuple []) (ZQ ms)/\IV 279 (IW<|gU ms) (gU ms) (.ar (gU ms).length 1) 96 (max Tryz.f96.ntmps 1) [1,1,1,1])=KA [Dn] 96 Tryz.f96 ms cap [1,1,1,1] (gU ms) (.ar (gU ms).length 1) (.st 3<|.rg<|.go 1<|.il<|.rt 19<|.go 5<|.en<|.st 4<|.rg<|.go 13<|.cu (.tuple []) (ZQ ms)<|.en<|.st 2<|.rn [(2,i0)] (aq++IW (gU ms)) [(2,i0)] (aq++bO (gE (gU ms)<|.ar (gU ms).length 1)) 279 279 .no):=by as_aux_lemma=>kernel_rfl)(k2:MM (gU ms) (.ar (gU ms).length 1)=KB [Dn] 96 Tryz.f96 [1,1,1,1] (gU ms) (.ar (gU ms).length 1):=by as_aux_lemma=>kernel_rfl):
 SB B 96 (max Tryz.f96.ntmps 1) (aA Tryz.f96) [] ms cap (.int .i64 0) (gU ms):=
 have h7:=h0.1.2
 PY [1,1,1,1] mc h (.inl rfl) _ ⟨ae6 (P:=pg) (sp:=sp [Dn]) aY hk ah ha hb L9 L9 g1 g2 (Ow fun m hm=>h0.2 m<|List.dropLast_subset _ hm)<|Ow h0.2,Wj h h6 h1⟩ k k2
theorem NK(mc:Mt [Dn] B)(h:fy ms)(hc:uF ms.length cap)(h2:2<=ms.length):SB B 96 (max Tryz.f96.ntmps 1) (aA Tryz.f96) [] ms cap (.int .i64 0)<|gU ms:=by
 have q:=JV h h2;have q6:(gU ms).length<=6:=by have:=Ji ms h2;have:=h.1.2;omega
 rcases hc with rfl|⟨e,_⟩
 rotate_left
 ·omega
 rcases(XS h.1).imp (fun q=>jc ⟨h.1.1,q⟩) id with(⟨m0,rfl⟩|⟨m0,m1,rfl⟩|⟨m0,m1,m2,rfl⟩|⟨m0,m1,m2,m3,rfl⟩|⟨m0,m1,m2,m3,m4,rfl⟩|⟨m0,m1,m2,m3,m4,m5,rfl⟩)|⟨m0,m1,m2,m3,m4,m5,m6,rfl⟩
 ·simp at h2
 all_goals exact ahw mc h h2 q q6
def IX:Code:=aW pg 64 [1,1,0,1,0,0]
def Ds:Code:=aW pg 64 [1,1,0,1,0,1]
def tj:List<|Nat×AV:=[(3,(.ptr<|some (279,0))),(4,(.ptr<|some (280,0))),(5,(.ptr<|some (281,0))),(12,(.func (.func 105) [] [(.ptr<|some (282,0))]))]
def oG(n:Nat)(cap:cM)(x:Nat->Option ae)(v:Int)(w1 w2:AV):List<|Nat×Option ae:=aq++[(270,some<|Yz n cap),(271,some<|aI kf<|mG n),(272,x 0),(273,x 1),(274,x 2),(275,x 3),(276,x 4),(277,x 5),(279,some<|eO<|.int .i64 v),(280,some<|eO w1),(281,some<|eO w2),(282,some<|.cells 1 (Tr.fill [.ptr<|some (270,0)] 0 .nil) [])]
def sG(n:Nat)(cap:cM)(x:Nat->Option ae)(v:Int)(w1 w2:AV)(st:LoopState)(p:Option Code):AS:=aj (oG n cap x v w1 w2++[(283,some .defs),(284,some<|.loop st p 64 (aP tj) 22 [13] IX Ds 283)]) 285
abbrev rE(n:Nat)(cap:cM)(x:Nat->Option ae)(v:Int):AS:=sG n cap x v (.int .i64 0) (.bool false) .ready none
def pB(n:Nat)(cap:cM)(x:Nat->Option ae)(v:Int):Option Int->AS
 |none=>rE n cap x v
 |some z=>sG n cap x v (.int .i64 z) (.bool true) .done<|some .ret
def oI(b:Bool)(z:Int):Option Int:=match b with
 |true=>some z
 |false=>none
def bP(b:Bool)(p q:Prop):Prop:=match b with
 |true=>p
 |false=>q
theorem rgT{A L:Prop}{m:List<|Int×Int}{v:Int}(b:Bool)(a:A)(hh:lM m v=b)(l:L):A/\((lM m v=true->bP b L False)/\(lM m v=false->bP b False L)):=by subst hh;refine⟨a,fun h=>?_,fun h=>?_⟩<;>(rw[h];exact l)
abbrev zm(n:Nat)(cap:cM)(x:Nat->Option ae)(v:Int)(i:Nat)(s:AS)(y:AV):Prop:=bg pg (sp []) FU 5 (.round 284) [.map<|some<|272+i] (rE n cap x v)= .ok y s
theorem rgW{n:Nat}{cap:cM}{x:Nat->Option ae}{v:Int}{m:List<|Int×Int}(b:Bool)(hx:x i=some (bL m))(hh:lM m v=b)(k1:getLoop 284 (rE n cap x v)= .ok (.loop .ready none 64 (aP tj) 22 [13] IX Ds 283) (rE n cap x v):=by as_aux_lemma=>kernel_rfl)(k2:eg pg (bg pg (sp []) FU 4) 2 ⟨64,je [13] [.map<|some<|272+i]<|aP tj,22,[.code IX,.beginRound,.code Ds],[],some 284⟩ (rE n cap x v)= .ok (.go ⟨64,((je [13] [.map<|some<|272+i]<|aP tj).put 6<|some<|.map<|some<|272+i),22,[.code Ds],[],some 284⟩) (sG n cap x v (.int .i64 0) (.bool false) .busy none):=by as_aux_lemma=>kernel_rfl)(k:((x i=some (bL m))/\((lM m v=true->bP b ((none:Option Nat)=none/\([]:List Nat)=[]/\(some (.bool !b,pB n cap x v<|oI b<|getM m v):Option<|AV×AS)=some (.bool !b,pB n cap x v<|oI b<|getM m v)) False)/\(lM m v=false->bP b False ((none:Option Nat)=none/\([]:List Nat)=[]/\(some (.bool !b,pB n cap x v<|oI b<|getM m v):Option<|AV×AS)=some (.bool !b,pB n cap x v<|oI b<|getM m v)))))=wp (fp []) 900 4 (.fr 64 22 [.code Ds] ((je [13] [.map<|some<|272+i]<|aP tj).put 6<|some<|.map<|some<|272+i)<|sG n cap x v (.int .i64 0) (.bool false) .busy none) (.st 2<|.rg<|.go 2<|.Zk m (@Bool.rec (fun _=>Pl) .no (.go 5<|.en<|.st 5<|.cut .no) b)<|@Bool.rec (fun _=>Pl) (.go 5<|.en<|.st 5<|.cut .no) .no b) [] (fun _ _ _=>False)
 (fun fr s1 _=>fr.round=none/\fr.defers=[]/\zN pg (bg pg (sp []) FU 4) 284 fr s1=some (.bool !b,pB n cap x v<|oI b<|getM m v)):=by as_aux_lemma=>kernel_rfl):zm n cap x v i (pB n cap x v<|oI b<|getM m v)<|.bool !b:=
 DN k1 rfl (Chunk.ev 2 _ _ _ _ k2<|zG (E:=fp []) eH rfl (fun fr s p h=>DM h.1 h.2.1 h.2.2) 900 _ (rgT b hx hh<|IM _ _) k)
theorem Wk{n:Nat}{cap:cM}{x:Nat->Option ae}{v:Int}{m:List<|Int×Int}(b:Bool)(hi:i<6)(hx:x i=some (bL m))(hh:lM m v=b):zm n cap x v i (pB n cap x v<|oI b<|getM m v)<|.bool !b:=by rcases(by omega:i=0\/i=1\/i=2\/i=3\/i=4\/i=5) with rfl|rfl|rfl|rfl|rfl|rfl<;>cases b<;>exact rgW _ hx hh
def pD(s0 sE:AS)(b:Bool):Nat->Nat->Pl
 |j,0=> @Bool.rec (fun _=>Pl) (.rt 11 .no) (.st j<|.rg<|.go 8<|.cy (.bool false) sE<|.go 1<|.en<|.rt 2 .no) b
 |j,k+1=>.st j<|.rg<|.go 8<|.cy (.bool true) s0<|.go 1<|.en<|pD s0 sE b 13 k
def TD(n:Nat)(cap:cM)(x:Nat->Option ae)(v z:Int)(b:Bool):Nat->Nat->Prop
 |i,0=>bP b (zm n cap x v (i - 1) (pB n cap x v<|some z) (.bool false)/\(AV.tuple []= .tuple []/\pB n cap x v (some z)=pB n cap x v (some z)))<|AV.tuple []= .tuple []/\rE n cap x v=rE n cap x v
 |i,k+1=>zm n cap x v (i - 1) (rE n cap x v) (.bool true)/\TD n cap x v z b (i - 1) k
def xB(ms:bA)(i:Nat):Option ae:=(ms[i]?).map bL
theorem Wl{n:Nat}{v:Int}(h6:ms.length<=6):∀i,i<=ms.length->∃k b z,((b=true/\k<i)\/(b=false/\k=i))/\gB ms v i=oI b z/\TD n cap (xB ms) v z b i k
 |0,_=>⟨0,false,0,.inr ⟨rfl,rfl⟩,rfl,rfl,rfl⟩
 |i+1,hi=>by
  have hx:xB ms i=some (bL<|ms.getD i []):=by unfold xB;rw[List.getD_eq_getElem?_getD,List.getElem?_eq_getElem ah];rfl
  cases hh:lM (ms.getD i []) v with
  |true=>exact⟨0,true,getM (ms.getD i []) v,.inl ⟨rfl,by omega⟩,by unfold gB;rw[hh];rfl,Wk true ah hx hh,rfl,rfl⟩
  |false=>obtain⟨k,b,z,h1,h2,h3⟩:=Wl (n:=n) h6 i ah;exact⟨k+1,b,z,h1.imp (fun h=>⟨h.1,by omega⟩) fun h=>⟨h.1,by omega⟩,by rw[←h2,gB,hh];rfl,Wk false ah hx hh,h3⟩
abbrev Si(s0 sE:AS):Prop:=bg pg (sp []) FU 6 (.fn 105) [.yield 284,.ptr<|some (282,0)] s0= .ok (.tuple []) sE
theorem ZR{n:Nat}{x:Nat->Option ae}{v z:Int}{b:Bool}{k:Nat}(h:TD n cap x v z b n k)(q:TD n cap x v z b n k=wp (fp []) 900 5 (.fr 105 (max Tryz.f105.ntmps 2) (dq 105 []) (dZ [.yield 284,.ptr<|some (282,0)])<|rE n cap x v) (pD (rE n cap x v) (pB n cap x v<|some z) b 12 k) (aA Tryz.f105) (fun y s _=>y= .tuple []/\s=pB n cap x v (oI b z)) (fun _ _ _=>False):=by as_aux_lemma=>kernel_rfl):Si (rE n cap x v)<|pB n cap x v<|oI b z:=by obtain⟨y,s2,q1,rfl,rfl⟩:=mP.call (E:=fp []) (n:=5) (args:=[.yield 284,.ptr<|some (282,0)]) Tryz.func105 (xF Tryz.func105 cC)<|v8 (R:=fun y s=>y= .tuple []/\s=pB n cap x v (oI b z)) (C:=fun _ _ _=>False) eH rfl (fun _ _ _ h=>h.elim) 900 _ h q;exact q1
theorem afP{v:Int}(h:1<=ms.length/\ms.length<=6):Si (rE ms.length cap (xB ms) v)<|pB ms.length cap (xB ms) v<|gB ms v ms.length:=by
 obtain⟨k,b,z,h1,h2,h3⟩:=Wl (n:=ms.length) (cap:=cap) (v:=v) h.2 ms.length<|Nat.le_refl _;rw[h2];revert h1 h3;generalize xB ms=x;generalize ms.length=n at h;intro h1 h3;rcases(by omega:n=1\/n=2\/n=3\/n=4\/n=5\/n=6) with rfl|rfl|rfl|rfl|rfl|rfl<;>rcases h1 with⟨rfl,h1⟩|⟨rfl,rfl⟩
 all_goals first
  |(rcases(by omega:k=0\/k=1\/k=2\/k=3\/k=4\/k=5) with rfl|rfl|rfl|rfl|rfl|rfl<;>first|(exfalso;omega)|exact ZR h3)
  |exact ZR h3
def Sj:List Item:=[.inBlock 0,.code<|aW pg 64 [1,1,1]]
def Dt:AF:=⟨64,aP tj,max Tryz.f64.ntmps 2,.code (aW pg 64 [1,1,0,1,0])::Sj,[],none⟩
theorem ajj:aW pg 64 [1,1,0,1,0]= .rangeFunc (.tmp 12) #[13] IX Ds:=by kernel_rfl
def sZ(n:Nat)(cap:cM)(x:Nat->Option ae)(v:Int)(w1 w2:AV)(o:Option ae)(p:Option Code):AS:=aj (oG n cap x v w1 w2++[(283,o),(284,some<|.loop .exhausted p 64 (aP tj) 22 [13] IX Ds 283)]) 285
theorem afQ{v:Int}{o:Option ae}(h:1<=ms.length/\ms.length<=6):∀m q,(m,q)∈gE ms cap->(sZ ms.length cap (xB ms) v w1 w2 o p).h.get m=some q:=fun m q hm=>by
 rcases jc h with⟨m0,rfl⟩|⟨m0,m1,rfl⟩|⟨m0,m1,m2,rfl⟩|⟨m0,m1,m2,m3,rfl⟩|⟨m0,m1,m2,m3,m4,rfl⟩|⟨m0,m1,m2,m3,m4,m5,rfl⟩
 all_goals
  simp only[gE,qO,List.mem_cons,List.not_mem_nil,or_false] at hm
  repeat' (rcases hm with hm|hm)
  all_goals kernel_rfl
theorem ZS{Y:AV}{v:Int}(mc:Mt [] B)(hb:fy ms)(h6:ms.length<=6)(hc:uF ms.length cap){sE:AS}(dn:Si (rE ms.length cap (xB ms) v) sE)(h5:lf 284 sE= .ok p (sZ ms.length cap (xB ms) v w1 w2 (some .defs) p))(hd:yM pg (bg pg (sp []) FU 6) (aA Tryz.f64) 8 283 ⟨64,aP tj,max Tryz.f64.ntmps 2,andThen p Sj,[],none⟩ (sZ ms.length cap (xB ms) v w1 w2 (some .defs) p)=some (Y,sZ ms.length cap (xB ms) v w1 w2 none p)):
 av pg B 271 (mf XT pg (aA Tryz.f64) 3 Y<|cv ms) Dt (aj (oG ms.length cap (xB ms) v (.int .i64 0)<|.bool false) 283):=by
 unfold Dt;rw[ajj];exact av.chunk bT mc.2.2.1 mc.2.2.2 (GR (gv:=.func (.func 105) [] [.ptr<|some (282,0)]) (s1:=aj (oG ms.length cap (xB ms) v (.int .i64 0) (.bool false)++[(283,some .defs)]) 284) cC cC cC dn h5) (by show 271<=283;omega)<|(OV (l:=283) (k:=8) (fr:=⟨64,aP tj,max Tryz.f64.ntmps 2,andThen p Sj,[],none⟩) bT mc.2.2.1 mc.2.2.2 rfl rfl hd ⟨rfl,_,.buf _ hb cap hc,afQ ⟨hb.1.1,h6⟩⟩).2.2 (by show 271<=285;omega)
theorem goG{v:Int}{y v':AV}(mc:Mt [] B)(H:av pg B 271 (mf XT pg (aA Tryz.f64) 3 y v') Dt<|aj (oG ms.length cap (xB ms) v (.int .i64 0)<|.bool false) 283)(k:((tj.map (fun q=>some q.2)=tj.map (fun q=>some q.2))/\((oG ms.length cap (xB ms) v (.int .i64 0)<|.bool false).map (fun q=>q.2)=(oG ms.length cap (xB ms) v (.int .i64 0)<|.bool false).map (fun q=>q.2))/\(Dt=Dt/\aj (oG ms.length cap (xB ms) v (.int .i64 0)<|.bool false) 283=aj (oG ms.length cap (xB ms) v (.int .i64 0)<|.bool false) 283))=wp (rC []) 900 6 (.fr 64 (max Tryz.f64.ntmps 2) (dq 64 []) (dZ [.ptr<|some (270,0),.int .i64 v])<|aj (aq++bO (gE ms cap)) 279)
 (.st 9<|.rg<|.go 1<|.il<|.rt 5<|.en<|.st 1<|.ls tj (oG ms.length cap (xB ms) v (.int .i64 0)<|.bool false) 283 .no) (aA Tryz.f64) (fun Y s _=>m7 3 y v' s Y) (fun fr s1 _=>fr=Dt/\s1=aj (oG ms.length cap (xB ms) v (.int .i64 0)<|.bool false) 283):=by as_aux_lemma=>kernel_rfl):
 av pg B 271 (mf XT pg (aA Tryz.f64) 3 y v') (sF 64 Tryz.f64 [.ptr<|some (270,0),.int .i64 v]) (aj (aq++bO (gE ms cap)) 279):=
 IL mc (fun fr s1 _ hC=>by obtain⟨rfl,rfl⟩:=hC;exact H) _ ⟨rfl,rfl,rfl,rfl⟩ k cC
theorem aed{v:Int}(mc:Mt [] B)(hb:fy ms)(hc:uF ms.length cap)(h6:ms.length<=6):SB B 64 (max Tryz.f64.ntmps 2) (aA Tryz.f64) [.int .i64 v] ms cap (.tuple [.int .i64 (lq ms v).1,.bool (lq ms v).2]) ms:=by
 have dn:=afP (cap:=cap) (v:=v) ⟨hb.1.1,h6⟩;have H:av pg B 271 (mf XT pg (aA Tryz.f64) 3 (.tuple [.int .i64 (lq ms v).1,.bool (lq ms v).2])<|cv ms) Dt<|aj (oG ms.length cap (xB ms) v (.int .i64 0)<|.bool false) 283:=by
  unfold lq;revert dn;cases gB ms v ms.length with
  |none=>exact fun dn=>ZS mc hb h6 hc dn (w1:=.int .i64 0) (w2:=.bool false) (p:=none) cC cC
  |some z=>exact fun dn=>ZS mc hb h6 hc dn (w1:=.int .i64 z) (w2:=.bool true) (p:=some .ret) cC cC
 rcases jc ⟨hb.1.1,h6⟩ with⟨m0,rfl⟩|⟨m0,m1,rfl⟩|⟨m0,m1,m2,rfl⟩|⟨m0,m1,m2,m3,rfl⟩|⟨m0,m1,m2,m3,m4,rfl⟩|⟨m0,m1,m2,m3,m4,m5,rfl⟩<;>exact goG mc H
end
section
variable {L:bU}
theorem G3{L0:bU}{fn:Func}{F:bA->List AV->Option (AV×bA)}(hP:bB pg)(h:aV L)(h0:aV L0)(ch:Tryz.prog.funcs[g]? =some fn)(H:∀a rest y a',F a rest=some (y,a')->max fn.ntmps (rest.length+1)<=top/\∀B cap,Mt L0 B->fy a->uF a.length cap->SB B g (max fn.ntmps<|rest.length+1) fn.results.toList rest a cap y a')(cw:fn.body=some (aW pg g []):=by kernel_rfl)(hn:(fn.name == "runtime.NumGoroutine")=false:=by kernel_rfl):aV<|(g,.tok 3<|eW cv F)::L:=by
 refine Ea rD hP gL pW ir gZ kG ki h h0 ch cw hn fun v rest y v' e=>?_;obtain⟨a,a',rfl,e1,rfl⟩:=BC e;obtain⟨q1,q2⟩:=H a rest y a' e1;refine⟨q1,fun L hx=>?_⟩;generalize hv:cv a=v at hx;cases hx with
 |buf b hb cap hc=>have:=xH _ _ hv;subst this;exact⟨279,by omega,aL.1 aY,aeb hb,fun B mc=>q2 B cap mc hb hc⟩
def HJ:bA->List AV->Option (AV×bA)
 |a,[.int .i64 v,.int .i64 x]=>if a.length<=6 then some (.int .i64 0,mD a v x) else none
 |_,_=>none
def Cu:bA->List AV->Option (AV×bA)
 |a,[.int .i64 v]=>if a.length<=6 then some (.tuple [.int .i64 (lq a v).1,.bool (lq a v).2],a) else none
 |_,_=>none
def KY:bA->List AV->Option (AV×bA)
 |a,[]=>if a.length<7 then some (.int .i64 0,a++[[]]) else none
 |_,_=>none
def KZ:bA->List AV->Option (AV×bA)
 |a,[]=>if 2<=a.length/\a.length<=6 then some (.int .i64 0,a.dropLast) else none
 |_,_=>none
def Kf:bA->List AV->Option (AV×bA)
 |a,[]=>if 2<=a.length then some (.int .i64 0,gU a) else none
 |_,_=>none
def HK:FuncId×KE:=(98,.tok 3<|eW cv HJ)
def PZ:FuncId×KE:=(100,.tok 3<|eW cv KY)
def P0:FuncId×KE:=(99,.tok 3<|eW cv KZ)
def Ef:FuncId×KE:=(96,.tok 3<|eW cv Kf)
def lk:FuncId×KE:=(64,.tok 3<|eW cv Cu)
theorem aee(hP:bB pg)(h:aV L):aV<|HK::L:=G3 hP h cO Tryz.func98 fun a rest y a' e=>by unfold HJ at e;split at e<;>(try split at e)<;>cases e;exact⟨aL.1 aY,fun B cap mc hb hc=>aec mc hb hc ‹_›⟩
theorem acY(hP:bB pg)(h:aV L):aV<|PZ::L:=G3 hP h cO Tryz.func100 fun a rest y a' e=>by unfold KY at e;split at e<;>(try split at e)<;>cases e;exact⟨aL.1 aY,fun B cap mc hb hc=>acW mc hb hc<|Nat.le_of_lt_succ ‹_›⟩
theorem acZ(hP:bB pg)(h:aV L):aV<|P0::L:=G3 hP h cO Tryz.func99 fun a rest y a' e=>by unfold KZ at e;split at e<;>(try split at e)<;>cases e;rename_i q;exact⟨aL.1 aY,fun B cap mc hb hc=>acX mc hb hc q.1 q.2⟩
theorem ab1(hP:bB pg)(h:aV L):aV<|Ef::L:=G3 hP h (ahs hP cO) Tryz.func96 fun a rest y a' e=>by unfold Kf at e;split at e<;>(try split at e)<;>cases e;exact⟨aL.1 aY,fun B cap mc hb hc=>NK mc hb hc ‹_›⟩
theorem JW(hP:bB pg)(h:aV L):aV<|lk::L:=G3 hP h cO Tryz.func64 fun a rest y a' e=>by unfold Cu at e;split at e<;>(try split at e)<;>cases e;exact⟨aL.1 aY,fun B cap mc hb hc=>aed mc hb hc ‹_›⟩
def QB:List AV->Option (Option AV×(AV->AV))
 |[]=>some (some<|cv [[]],fun p=>p)
 |_=>none
def EX:FuncId×KE:=(42,.new 3 QB)
def oN:List<|Nat×Option ae:=[(270,some<|HV []),(271,some<|aI kf [.map<|some 270]),(272,some<|aI kf [.slice (some (271,0)) 1<|.known 1])]
theorem P1:fy [[]]:=⟨by show 1<=1/\1<=7;omega,fun m hm=>by rw[List.mem_singleton] at hm;subst hm;exact List.nodup_nil⟩
theorem ahx:ZK 270 273 279 [(0,.ptr<|some (272,0))] oN [(0,.ptr<|some (270,0))] (bO<|gE [[]]<|.known 1) ⟨42,aP [(0,.ptr<|some (270,0))],max Tryz.f42.ntmps 0,(dq 42 [1,1]),[],none⟩<|aj (aq++bO (gE [[]]<|.known 1)) 279:=⟨rfl,rfl,Ct (ps:=[(270,272),(271,271),(272,270)]) ah cC cC (fun r hr _=>⟨⟨by unfold top;omega,_,mi 0,(bz.ptr<|rq hr).z⟩,trivial⟩) fun r hr _=>⟨mq (mi 2) (rq hr) qH<|Ij (l:=[.slice (some (271,0)) 1<|.known 1]) ⟨(bz.slice<|rq hr).z,trivial⟩ (by simp) rfl,mq (mi 1) (rq hr) qH<|Ij (l:=[.map<|some 270]) ⟨(bz.map<|rq hr).z,trivial⟩ (by simp) rfl,mq (mi 0) (rq hr) W6<|XQ List.nodup_nil,trivial⟩,rfl,rfl⟩
theorem aef(hP:bB pg)(h:aV L):aV<|EX::L:=by
 refine J7 rD hP gL (aL.1 aY) ir gZ h cO Tryz.func42 (body:=aW pg 42 []) aY aY fun args p e=>?_;unfold QB at e;split at e<;>cases e;refine⟨aL.1 aY,fun e0=>(by cases e0),fun v e0=>?_⟩;injection e0 with e0;subst e0
 refine⟨v9.ptr,fun B mc=>?_⟩;rw[←gN];exact wC mc (C:=fun fr s1 _=>fr=⟨42,aP [(0,.ptr<|some (270,0))],max Tryz.f42.ntmps 0,(dq 42 [1,1]),[],none⟩/\s1=aj (aq++bO (gE [[]]<|.known 1)) 279) (fun fr s1 _ hC=>by obtain⟨rfl,rfl⟩:=hC;exact wS mc (.rt 1 .no)<|Re (ms:=[[]]) (cap:=.known 1) 279 P1 (.inr ⟨rfl,rfl⟩)<|.ptr<|some (270,0)) (.st 4<|.rn [(0,.ptr<|some (272,0))] (aq++oN) [(0,.ptr<|some (270,0))] (aq++bO (gE [[]]<|.known 1)) 273 279 .no) ahx
end
end
end iF
end
section
open Go Go.Rn Go.RowKit Go.Proofs
namespace iw
open cr fF cS dj dA gF fT ia ig iv
variable {st:VS} {T:Prop} {x7 x6 x5 x4 x3 x2 x1 x0:Int} {s:AS} {rest:List AV} {q lg G:Nat} {cap:cM} {L:bU}
noncomputable section
abbrev rF(L:bU):Env:=wx pg 270 eB dV L 273 true
def Ik:FuncId×KE:=(85,.raw fun a b c=>wB a b c<|ba Ai)
def l8(x0 x1 x2 x3 x4 x5 x6 x7:Int):List Int:=[x0,x1,x2,x3,x4,x5,x6,x7]
theorem evU{n m off len:Nat}{cs:List AV}{a b v:AV}(h1:(a.hi&&(b.hi&&HF len cap))=true)(hk:qg 270 dV eB s=true)(hm:Nat.blt m (dK 270 dV eB s).nx=true)(ht:Nat.blt m top=true)(h2:cellsOf ((dK 270 dV eB s).h.get m) off len=some cs)(h3:cs.all AV.gi=true)(h4:ba Ai [a,.ab (nm cs) 0 len,b]=some v)(h5:v.yv=true):
 bg pg (sp [Ik]) FU (n+1) (.fn 85) [a,.slice (some (m,off)) len cap,b] s= .ok v (bc m<|dK 270 dV eB s):=
 ad6 (P:=pg) (sp:=sp [Ik]) aY h1 hk hm ht h2 h3 h4 h5
theorem nX{y Y:AV}(e:Y=y)(h1:s.h.get 270=some (bt<|dY st.R 271 272))(h2:s.h.get 271=some (.tok 3 st.u))(h3:s.h.get 272=some (bt st.row)):Y=y/\∀m o,(m,o)∈dP 270 3 st->s.h.get m=some o:=by
 refine⟨e,fun m o hm=>?_⟩;simp only[dP,List.mem_cons,List.not_mem_nil,or_false] at hm;rcases hm with hm|hm|hm<;>(injection hm with a b;subst a;subst b)
 ·exact h1
 ·exact h2
 ·exact h3
theorem ahy{e:Ex}{aH:List Int}(hg:di aG 1 (.ab G q lg) aH):ba Ai [.agg<|aM e,.ab (nm [.int .i64 x0,.int .i64 x1,.int .i64 x2,.int .i64 x3,.int .i64 x4,.int .i64 x5,.int .i64 x6,.int .i64 x7]) 0 8,.ab G q lg]=some (Fs<|Ah e (l8 x0 x1 x2 x3 x4 x5 x6 x7) aH):=ff Ai.bR ⟨e,_,0,8,G,q,lg,l8 x0 x1 x2 x3 x4 x5 x6 x7,aH,rfl,di.aD eI<|l8 x0 x1 x2 x3 x4 x5 x6 x7,hg,rfl⟩
noncomputable abbrev P2(vars:Int)(G q lg:Nat)(x0 x1 x2 x3 x4 x5 x6 x7:Int)(len:Nat)(cap:cM)(steps:Int)(u:AV)(row:List AV)(op n:Int)(N L:Nat):List<|Nat×Option ae:=aq++[(270,some<|.cells 13 (Tr.fill [(i6 vars),(.ab G q lg),(i6 x0),(i6 x1),(i6 x2),(i6 x3),(i6 x4),(i6 x5),(i6 x6),(i6 x7),(.ptr<|some (271,0)),(.slice (some (272,0)) (len) cap),(i6 steps)] 0 .nil) []),(271,(some<|.tok 3 u)),(272,(some<|bt row)),(273,some<|.cells 3 (Tr.fill [(u8<|op),(i6 n),(.ab N 0 L)] 0 .nil) [])]
theorem ajk{B:aJ}{vars steps:Int}{len:Nat}{u:AV}{row:List AV}{N L:Nat}{op n z f:Int}(mc:Mt [Ik] B)(hG:(((.agg [(u8<|op),(i6 n),(.ab N 0 L)]):AV).hi&&((.ab G q lg:AV).hi&&HF 8 (.known 8)))=true)(he:ba Ai [(.agg [(u8<|op),(i6 n),(.ab N 0 L)]),.ab (nm [.int .i64 x0,.int .i64 x1,.int .i64 x2,.int .i64 x3,.int .i64 x4,.int .i64 x5,.int .i64 x6,.int .i64 x7]) 0 8,.ab G q lg]=some (.tuple [.int .i64 z,.int .i64 f])):av pg B 273 (ij 270 3 pg (aA Tryz.f61) (.int .i64 z) (⟨(⟨[.int .i64 vars,.ab G q lg,.int .i64 x0,.int .i64 x1,.int .i64 x2,.int .i64 x3,.int .i64 x4,.int .i64 x5,.int .i64 x6,.int .i64 x7],len,cap,[.int .i64 steps]⟩:RS),u,row⟩:VS)) (sF 61 Tryz.f61 [(.ptr<|some (270,0)),(.agg [(u8<|op),(i6 n),(.ab N 0 L)])])<|aj (aq++bO (dP 270 3 (⟨(⟨[.int .i64 vars,.ab G q lg,.int .i64 x0,.int .i64 x1,.int .i64 x2,.int .i64 x3,.int .i64 x4,.int .i64 x5,.int .i64 x6,.int .i64 x7],len,cap,[.int .i64 steps]⟩:RS),u,row⟩:VS))) 273:=l6 (E:=rF [Ik]) eH rfl bT mc.2.2.1 mc.2.2.2 900 (.st 3<|.rg<|.go 9<|.cu (.tuple [(i6 z),(i6 f)]) (bc 270<|dK 270 dV eB (⟨fL<|P2 vars G q lg x0 x1 x2 x3 x4 x5 x6 x7 len cap steps u row op n N L,274,274,[],[]⟩:AS))<|.go 5<|.en<|.rt 3 .no)<|ai (evU (n:=5) (m:=270) (off:=2) (len:=8) (cap:=.known 8) (cs:=[.int .i64 x0,.int .i64 x1,.int .i64 x2,.int .i64 x3,.int .i64 x4,.int .i64 x5,.int .i64 x6,.int .i64 x7]) (s:=(⟨fL<|P2 vars G q lg x0 x1 x2 x3 x4 x5 x6 x7 len cap steps u row op n N L,274,274,[],[]⟩:AS)) hG cn cn cn cn cn he cn)<|nX (st:=(⟨(⟨[.int .i64 vars,.ab G q lg,.int .i64 x0,.int .i64 x1,.int .i64 x2,.int .i64 x3,.int .i64 x4,.int .i64 x5,.int .i64 x6,.int .i64 x7],len,cap,[.int .i64 steps]⟩:RS),u,row⟩:VS)) (s:=aj (P2 vars G q lg x0 x1 x2 x3 x4 x5 x6 x7 len cap steps u row op n N L) 274) (show((i6 z):AV)=(.int .i64 z) from rfl) cn cn cn
open Classical in
def vR(R:VS->List AV->AV->Prop)(st:VS)(rest:List AV):Option AV:=if h:∃v,R st rest v then some h.choose else none
theorem Hk{R:VS->List AV->AV->Prop}{v:AV}(h:vR R st rest=some v):R st rest v:=by
 unfold vR at h;split at h
 ·rename_i q;injection h with h;rw[←h];exact q.choose_spec
 ·cases h
theorem EY{R:VS->List AV->AV->Prop}(hd:∀st rest v v',R st rest v->R st rest v'->v=v'){v:AV}(h:R st rest v):vR R st rest=some v:=by unfold vR;have q:∃v,R st rest v:=⟨v,h⟩;rw[dif_pos q,hd _ _ _ _ q.choose_spec h]
structure MN where
 vars:Int
 G:Nat
 q:Nat
 lg:Nat
 aH:List Int
 x0:Int
 x1:Int
 x2:Int
 x3:Int
 x4:Int
 x5:Int
 x6:Int
 x7:Int
 steps:Int
def MN.l(a:MN):List Int:=l8 a.x0 a.x1 a.x2 a.x3 a.x4 a.x5 a.x6 a.x7
def MN.pre(a:MN):List AV:=[.int .i64 a.vars,.ab a.G a.q a.lg,.int .i64 a.x0,.int .i64 a.x1,.int .i64 a.x2,.int .i64 a.x3,.int .i64 a.x4,.int .i64 a.x5,.int .i64 a.x6,.int .i64 a.x7]
def MN.row(a:MN)(x y z:AV):List AV:=a.pre++[x,y,z]
abbrev vG(r:Nat):AS->AS:=XR 270 dV eB 270 271 r
abbrev vF(r:Nat)(st:VS):AS->AS:=LD 270 dV eB 3 270 271 r st
abbrev vQ(r:Nat)(st:VS):AS->Prop:=HI 270 dV eB 3 270 271 r st
abbrev MP(st:VS)(r:Nat)(T:Prop):Prop:=(true=true/\true=true/\some (bt<|dY st.R 271 r)=some (bt<|dY st.R 271 r)/\some (ae.tok 3 st.u)=some (.tok 3 st.u)/\some (bt st.row)=some (bt st.row))/\T
abbrev MQ(r:Nat):Bool:= !Nat.beq 270 271&&(!Nat.beq 270 r&& !Nat.beq 271 r)
abbrev MR(r:Nat):Bool:=Nat.blt 270 top&&(Nat.blt 271 top&&Nat.blt r top)
theorem ko(L:bU)(g r:Nat)(val:VS->List AV->Option AV)(rest:List AV)(st:VS)(y:AV)(ho:bQ 10 st=true)(hv:val st rest=some y)(hr:rest.all AV.hi=true)(hy:y.hi=true)(t:T)(h1:sp L g=some (nA 10 3 val 270 eB dV):=by as_aux_lemma=>kernel_rfl)(h2:MQ r=true:=by as_aux_lemma=>kernel_rfl)(h3:MR r=true:=by as_aux_lemma=>kernel_rfl)(h4:st.R.pre.length=10:=by rfl):(∀s,vQ r st s->bg pg (sp L) FU 6 (.fn g) (.ptr (some (270,0))::rest) s= .ok y (vG r s))/\MP st r T:=⟨aeg (P:=pg) (F:=FU) (n:=5) h1 hr h2 h3 h4 ho hv hy,⟨rfl,rfl,rfl,rfl,rfl⟩,t⟩
theorem Bb(L:bU)(g r:Nat)(val:VS->List AV->Option AV)(rest:List AV)(st:VS)(y:AV)(ho:bQ 10 st=true)(hv:val st rest=some y)(t:T)(hr:rest.all AV.hi=true:=by as_aux_lemma=>kernel_rfl)(hy:y.hi=true:=by as_aux_lemma=>kernel_rfl)(h1:sp L g=some (nA 10 3 val 270 eB dV):=by as_aux_lemma=>kernel_rfl)(h2:MQ r=true:=by as_aux_lemma=>kernel_rfl)(h3:MR r=true:=by as_aux_lemma=>kernel_rfl)(h4:st.R.pre.length=10:=by rfl):(∀s,vQ r st s->bg pg (sp L) FU 6 (.fn g) (.ptr (some (270,0))::rest) s= .ok y (vG r s))/\MP st r T:=ko L g r val rest st y ho hv hr hy t h1 h2 h3 h4
theorem ZT(L:bU)(g r:Nat)(val:VS->List AV->Option (AV×VS))(rest:List AV)(st bq:VS)(ho:bQ 10 st=true)(hv:val st rest=some (.tuple [],bq))(kL:bQ 10 bq=true)(hr:rest.all AV.hi=true)(t:T)(h1:sp L g=some (nz 10 3 val 270 eB dV):=by as_aux_lemma=>kernel_rfl)(h2:MQ r=true:=by as_aux_lemma=>kernel_rfl)(h3:MR r=true:=by as_aux_lemma=>kernel_rfl)(h4:st.R.pre.length=10:=by rfl):(∀s,vQ r st s->bg pg (sp L) FU 6 (.fn g) (.ptr (some (270,0))::rest) s= .ok (.tuple []) (vF r bq s))/\MP st r T:=⟨Pw (P:=pg) (F:=FU) (n:=5) h1 hr h2 h3 h4 ho hv rfl kL,⟨rfl,rfl,rfl,rfl,rfl⟩,t⟩
theorem xh(L:bU)(g r:Nat)(val:VS->List AV->Option (AV×VS))(rest:List AV)(st bq:VS)(ho:bQ 10 st=true)(hv:val st rest=some (.tuple [],bq))(kL:bQ 10 bq=true)(t:T)(hr:rest.all AV.hi=true:=by as_aux_lemma=>kernel_rfl)(h1:sp L g=some (nz 10 3 val 270 eB dV):=by as_aux_lemma=>kernel_rfl)(h2:MQ r=true:=by as_aux_lemma=>kernel_rfl)(h3:MR r=true:=by as_aux_lemma=>kernel_rfl)(h4:st.R.pre.length=10:=by rfl):(∀s,vQ r st s->bg pg (sp L) FU 6 (.fn g) (.ptr (some (270,0))::rest) s= .ok (.tuple []) (vF r bq s))/\MP st r T:=ZT L g r val rest st bq ho hv kL hr t h1 h2 h3 h4
def tp(st:VS)(a:MN):Prop:=st.R.pre=a.pre/\st.R.post=[.int .i64 a.steps]/\di aG 1 (.ab a.G a.q a.lg) a.aH
theorem tp.inj{a b:MN}(h:tp st a)(k:tp st b):a=b:=by obtain⟨h1,h2,h3⟩:=h;obtain⟨k1,k2,k3⟩:=k;rw[h1] at k1;rw[h2] at k2;obtain⟨a1,a2,a3,a4,a5,c0,c1,c2,c3,c4,c5,c6,c7,a6⟩:=a;obtain⟨b1,b2,b3,b4,b5,d0,d1,d2,d3,d4,d5,d6,d7,b6⟩:=b;simp only[MN.pre,List.cons.injEq,AV.int.injEq,AV.ab.injEq,true_and,_root_.and_true] at k1 k2;obtain⟨rfl,⟨rfl,rfl,rfl⟩,rfl,rfl,rfl,rfl,rfl,rfl,rfl,rfl⟩:=k1;subst k2;have e5:a5=b5:=di.inj rR h3 k3;subst e5;rfl
def jG(st:VS)(rest:List AV)(v:AV):Prop:=∃(a:MN) (e:Ex),tp st a/\rest=[.agg<|aM e]/\v= .int .i64 (Ah e a.l a.aH).1
theorem jG.bR(st:VS)(rest:List AV)(v v':AV)(h:jG st rest v)(h':jG st rest v'):v=v':=by obtain⟨a,e,h1,rfl,rfl⟩:=h;obtain⟨a',e',k1,h2,rfl⟩:=h';simp only[List.cons.injEq,AV.agg.injEq,_root_.and_true] at h2;rw[nP _ _ h2,h1.inj k1]
def iN:FuncId×KE:=(61,.raw<|nA 10 3<|vR jG)
theorem yP:270+3<=top:=aL.1 aY
theorem afR(hP:bB pg)(h:aV L):aV<|Ik::L:=by
 refine afJ hP gL pW ir gZ h (V7 hP<|Vd hP 6 cO) Tryz.func85 (body:=aW pg 85 []) aY aY fun args v e=>?_;obtain⟨⟨op,n,l⟩,M,p,lm,G,q,lg,lo,aH,rfl,i1,i2,rfl⟩:=gf e;refine⟨aL.1 aY,fun B mc=>?_⟩;rw[←gN];have c:=PS (e:=.mk op n l);have d:bit (eP 6<|.mk op n l)=1->_:=fun h=>Ps (k:=6) (e:=.mk op n l) i1 i2 (by rw[←xQ (eP 6<|.mk op n l)];exact decide_eq_true h);have key:=ag8 (x:=bit<|eP 6<|.mk op n l) (u:=(lK 6 (.mk op n l) lo aH).1) (f:=(lK 6 (.mk op n l) lo aH).2) (N:=nm<|dy l) (L:=l.length) (op:=op) (n:=n) mc (by rw[xQ];rw[aM] at c;exact c) (fun h=>by have:=d h;rw[aM] at this;exact this);unfold Ah;rw[aM];cases q:eP 6 (.mk op n l) with
 |true=>rw[q,if_pos (show bit true=1 from rfl)] at key;rw[if_pos rfl];exact key
 |false=>rw[q,if_neg (show ¬(bit false=1) by decide)] at key;rw[if_neg (by intro h;cases h)];exact key
theorem Eg(hP:bB pg)(h:aV L):aV<|iN::L:=by refine GF hP gL yP ir gZ kG ki h (afR hP cO) Tryz.func61 (body:=aW pg 61 []) aY aY fun st rest y e _=>?_;obtain⟨a,⟨op,n,l⟩,⟨h1,h2,h3⟩,rfl,rfl⟩:=Hk e;refine⟨aL.1 aY,fun B mc=>?_⟩;obtain⟨⟨pre,len,cap,post⟩,u,row⟩:=st;simp only at h1 h2;subst h1;subst h2;have q:=ahy (e:=.mk op n l) (x0:=a.x0) (x1:=a.x1) (x2:=a.x2) (x3:=a.x3) (x4:=a.x4) (x5:=a.x5) (x6:=a.x6) (x7:=a.x7) h3;rw[aM] at q ⊢;exact ajk mc (and_true.2 ⟨by rw[←aM];exact Cm _,and_true.2 ⟨h3.hi,rfl⟩⟩) q
end
end iw
end
section
open Go Go.Rn Go.RowKit Go.Proofs
namespace iG
open cr fF cS dj dA gF fT ia ig iv iw
noncomputable abbrev B9(a:MN)(len:Nat)(cap:cM)(u:AV)(row:List AV):VS:=(⟨(⟨a.pre,len,cap,[.int .i64 a.steps]⟩:RS),u,row⟩:VS)
theorem ajl{B:aJ}{a:MN}{len:Nat}{cap:cM}{u:AV}{row:List AV}{N L:Nat}{op n z v f:Int}(mc:Mt [iN,Mg] B)(hO:bQ 10 (B9 a len cap u row)=true)(hA:([(.agg [(u8<|op),(i6 n),(.ab N 0 L)])]:List AV).all AV.hi=true)(hz:vR jG (B9 a len cap u row) [(.agg [(u8<|op),(i6 n),(.ab N 0 L)])]=some (.int .i64 z))(hv:bp (ba CK) [.int .i64 z,.int .i64 a.vars]=some (.tuple [.int .i64 v,.int .i64 f])):av pg B 273 (ij 270 3 pg (aA Tryz.f63) (.int .i64 v)<|B9 a len cap u row) (sF 63 Tryz.f63 [(.ptr<|some (270,0)),(.agg [(u8<|op),(i6 n),(.ab N 0 L)])])<|aj (aq++bO (dP 270 3<|B9 a len cap u row)) 273:=l6 (E:=rF [iN,Mg]) eH rfl bT mc.2.2.1 mc.2.2.2 900 (.st 3<|.rg<|.go 2<|.cg (i6 z) (vG 272) (vQ 272<|B9 a len cap u row)<|.go 4<|.kn (.tuple [(i6 v),(i6 f)])<|.go 5<|.en<|.rt 3 .no)<|ko [iN,Mg] 61 272 (vR jG) [(.agg [(u8<|op),(i6 n),(.ab N 0 L)])] (B9 a len cap u row) (i6 z) hO hz hA cn<|ai hv<|nX (st:=(B9 a len cap u row)) (s:=aj (aq++[(270,some<|.cells 13 (Tr.fill (a.row (.ptr<|some (271,0)) (.slice (some (272,0)) (len) cap)<|i6 a.steps) 0 .nil) []),(271,(some<|.tok 3 u)),(272,(some<|bt row)),(273,some<|.cells 3 (Tr.fill [(u8<|op),(i6 n),(.ab N 0 L)] 0 .nil) [])]) 274) (show((i6 v):AV)=(.int .i64 v) from rfl) cn cn cn
def nY(st:VS)(rest:List AV)(v:AV):Prop:=∃(a:MN) (e:Ex) (x f:Int),tp st a/\rest=[.agg<|aM e]/\a.vars<=1099511627776/\uG (Ah e a.l a.aH).1 a.vars= .tuple [.int .i64 x,.int .i64 f]/\v= .int .i64 x
theorem nY.bR(st:VS)(rest:List AV)(v v':AV)(h:nY st rest v)(h':nY st rest v'):v=v':=by obtain⟨a,e,x,f,h1,rfl,_,h2,rfl⟩:=h;obtain⟨a',e',x',f',k1,k0,_,k2,rfl⟩:=h';simp only[List.cons.injEq,AV.agg.injEq,_root_.and_true] at k0;have e1:=h1.inj k1;subst e1;rw[←nP _ _ k0,h2] at k2;simp only[AV.tuple.injEq,List.cons.injEq,AV.int.injEq,true_and] at k2;rw[k2.1]
noncomputable def jF:FuncId×KE:=(63,.raw<|nA 10 3<|vR nY)
theorem G4(hP:bB pg){L:bU}(h:aV L):aV<|jF::L:=by
 refine GF hP gL yP ir gZ kG ki h (Eg hP<|afl hP cO) Tryz.func63 (body:=aW pg 63 []) aY aY fun st rest y e eo=>?_;obtain⟨a,⟨op,n,l⟩,x,f,hM,rfl,hm,hx,rfl⟩:=Hk e;refine⟨aL.1 aY,fun B mc=>?_⟩;have hz:vR jG st [.agg<|aM<|.mk op n l]=some _:=EY jG.bR ⟨a,_,hM,rfl,rfl⟩;obtain⟨h1,h2,h3⟩:=hM;obtain⟨⟨pre,len,cap,post⟩,u,row⟩:=st;simp only at h1 h2;subst h1;subst h2;have hA:([AV.agg<|aM<|.mk op n l]:List AV).all AV.hi=true:=by rw[List.all_cons,Cm];rfl
 have hv:bp (ba CK) [.int .i64 (Ah (.mk op n l) a.l a.aH).1,.int .i64 a.vars]=some (.tuple [.int .i64 x,.int .i64 f]):=fu (ff CK.bR ⟨_,_,rfl,hm,hx.symm⟩) rfl rfl;rw[aM] at hz hA ⊢;exact ajl mc eo hA hz hv
end iG
end
section
open Go Go.Rn Go.RowKit Go.Proofs
namespace iT
open cr fF cS dL dj dA gF fT ia ig iv iw iG iF
variable {cap:cM} {u:AV} {to aZ n2 kind:Int} {a:MN} {N4 N3 N2 N L4 L3 L2 L:Nat} {B:aJ}
theorem VV(l:List AV){k:Nat}(h:k<13)(hl:l.length=13:=by rfl):l[k]? =some (l.getD k<|.tuple []):=by rw[List.getD_eq_getElem?_getD,List.getElem?_eq_getElem ah];rfl
theorem VW{pre post:List AV}{len i r1 r2:Nat}{c:AV}(h:i<pre.length):aI kD ((dY ⟨pre,len,cap,post⟩ r1 r2).set i c)=bt (dY ⟨pre.set i c,len,cap,post⟩ r1 r2):=by
 have e:(dY ⟨pre,len,cap,post⟩ r1 r2).set i c=dY ⟨pre.set i c,len,cap,post⟩ r1 r2:=by unfold dY;exact List.set_append_left _ _ h
 rw[e];unfold aI bt;rw[Cp]
noncomputable abbrev WZ(a:MN)(len:Nat)(cap:cM)(to z:Int)(u:AV)(row:List AV)(kind op n:Int)(N L:Nat)(aZ n2:Int)(N2 L2 N3 L3 N4 L4:Nat):List<|Nat×Option ae:=aq++[(270,(some<|aI kD<|((a.row (.ptr<|some (271,0)) (.slice (some (272,0)) (len) cap)<|i6 a.steps):List AV).set (2+to.toNat)<|i6 z)),(271,(some<|.tok 3 u)),(272,(some<|bt row)),(273,some<|.cells 10 (Tr.fill [(u8<|kind),(i6 to),(u8<|op),(i6 n),(.ab N 0 L),(u8<|aZ),(i6 n2),(.ab N2 0 L2),(.ab N3 0 L3),(.ab N4 0 L4)] 0 .nil) [])]
noncomputable abbrev mU(a:MN)(len:Nat)(cap:cM)(u:AV)(row:List AV):VS:=(⟨(⟨a.pre,len,cap,[.int .i64 a.steps]⟩:RS),u,row⟩:VS)
noncomputable abbrev yj(op n:Int)(N L:Nat):List AV:=[(.agg [(u8<|op),(i6 n),(.ab N 0 L)])]
theorem ajm{len:Nat}{row:List AV}{op n:Int}{z:Int}(mc:Mt [iN] B)(hO:bQ 10 (mU a len cap u row)=true)(h0:0<=to)(h8:to<8)(hA:((yj op n N L):List AV).all AV.hi=true)(hz:vR jG (mU a len cap u row) (yj op n N L)=some (.int .i64 z)):av pg B 273 (ij 270 3 pg (aA Tryz.f74) (.tuple []) (⟨⟨(a.pre:List AV).set (2+to.toNat)<|.int .i64 z,len,cap,[.int .i64 a.steps]⟩,u,row⟩:VS)) (sF 74 Tryz.f74 [(.ptr<|some (270,0)),(.agg [(u8<|kind),(i6 to),(u8<|op),(i6 n),(.ab N 0 L),(u8<|aZ),(i6 n2),(.ab N2 0 L2),(.ab N3 0 L3),(.ab N4 0 L4)])])<|aj (aq++bO (dP 270 3<|mU a len cap u row)) 273:=l6 (E:=rF [iN]) eH rfl bT mc.2.2.1 mc.2.2.2 900 (.st 2<|.rg<|.go 6<|.cg (i6 z) (vG 272) (vQ 272<|mU a len cap u row)<|.go 2<|.Dd<|.sQ (aI kD<|((a.row (.ptr<|some (271,0)) (.slice (some (272,0)) (len) cap)<|i6 a.steps):List AV).set (2+to.toNat)<|i6 z)<|.en<|.rt 1 .no)<|ko [iN] 61 272 (vR jG) (yj op n N L) (mU a len cap u row) (i6 z) hO hz hA cn Zv
theorem ahz{len:Nat}{row:List AV}{op n:Int}{z v:Int}{fb:Bool}(mc:Mt [jF,lk] B)(hO:bQ 10 (mU a len cap u row)=true)(h0:0<=to)(h8:to<8)(hA:((yj op n N L):List AV).all AV.hi=true)(hv:vR nY (mU a len cap u row) (yj op n N L)=some (.int .i64 v))(hg:gQ (eW cv Cu) u [.int .i64 v]=some (.tuple [.int .i64 z,.bool fb],u)):av pg B 273 (ij 270 3 pg (aA Tryz.f75) (.tuple []) (⟨⟨(a.pre:List AV).set (2+to.toNat)<|.int .i64 z,len,cap,[.int .i64 a.steps]⟩,u,row⟩:VS)) (sF 75 Tryz.f75 [(.ptr<|some (270,0)),(.agg [(u8<|kind),(i6 to),(u8<|op),(i6 n),(.ab N 0 L),(u8<|aZ),(i6 n2),(.ab N2 0 L2),(.ab N3 0 L3),(.ab N4 0 L4)])])<|aj (aq++bO (dP 270 3<|mU a len cap u row)) 273:=l6 (E:=rF [jF,lk]) eH rfl bT mc.2.2.1 mc.2.2.2 900 (.st 2<|.rg<|.go 6<|.ld [(.ptr<|some (271,0))]<|.go 3<|.cg (i6 v) (vG 272) (vQ 272<|mU a len cap u row)<|.kt (.tuple [(i6 z),(.bool fb)]) u<|.go 5<|.Dd<|.sQ (aI kD<|((a.row (.ptr<|some (271,0)) (.slice (some (272,0)) (len) cap)<|i6 a.steps):List AV).set (2+to.toNat)<|i6 z)<|.en<|.rt 1 .no)<|ai Yn<|ko [jF,lk] 63 272 (vR nY) (yj op n N L) (mU a len cap u row) (i6 v) hO hv hA cn<|ai hg Zv
theorem afS{len:Nat}{row:List AV}{op n:Int}{z v:Int}{u':AV}(mc:Mt [jF,iN,HK] B)(hO:bQ 10 (mU a len cap u row)=true)(hA:((yj op n N L):List AV).all AV.hi=true)(hB:([(.agg [(u8<|aZ),(i6 n2),(.ab N2 0 L2)])]:List AV).all AV.hi=true)(hv:vR nY (mU a len cap u row) (yj op n N L)=some (.int .i64 v))(hz:vR jG (mU a len cap u row) [(.agg [(u8<|aZ),(i6 n2),(.ab N2 0 L2)])]=some (.int .i64 z))(hp:gQ (eW cv HJ) u [.int .i64 v,.int .i64 z]=some ((.int .i64 0:AV),u')):av pg B 273 (ij 270 3 pg (aA Tryz.f76) (.tuple []) (⟨(⟨a.pre,len,cap,[.int .i64 a.steps]⟩:RS),u',row⟩:VS)) (sF 76 Tryz.f76 [(.ptr<|some (270,0)),(.agg [(u8<|kind),(i6 to),(u8<|op),(i6 n),(.ab N 0 L),(u8<|aZ),(i6 n2),(.ab N2 0 L2),(.ab N3 0 L3),(.ab N4 0 L4)])])<|aj (aq++bO (dP 270 3<|mU a len cap u row)) 273:=l6 (E:=rF [jF,iN,HK]) eH rfl bT mc.2.2.1 mc.2.2.2 900 (.st 2<|.rg<|.go 3<|.ld [(.ptr<|some (271,0))]<|.go 3<|.cg (i6 v) (vG 272) (vQ 272<|mU a len cap u row)<|.go 3<|.cg (i6 z) (vG 272) (vQ 272<|mU a len cap u row)<|.kt i0 u'<|.en<|.rt 1 .no)<|ai Yn<|ko [jF,iN,HK] 63 272 (vR nY) (yj op n N L) (mU a len cap u row) (i6 v) hO hv hA cn<|ko [jF,iN,HK] 61 272 (vR jG) [(.agg [(u8<|aZ),(i6 n2),(.ab N2 0 L2)])] (mU a len cap u row) (i6 z) hO hz hB cn<|ai hp<|nX (st:=(⟨(⟨a.pre,len,cap,[.int .i64 a.steps]⟩:RS),u',row⟩:VS)) (s:=aj (aq++[(270,(some<|aI kD<|a.row (.ptr<|some (271,0)) (.slice (some (272,0)) (len) cap)<|i6 a.steps)),(271,(some<|.tok 3 u')),(272,(some<|bt row)),(273,some<|.cells 10 (Tr.fill [(u8<|kind),(i6 to),(u8<|op),(i6 n),(.ab N 0 L),(u8<|aZ),(i6 n2),(.ab N2 0 L2),(.ab N3 0 L3),(.ab N4 0 L4)] 0 .nil) [])]) 274) (show((.tuple []):AV)= .tuple [] from rfl) (cn) cn cn
end iT
end
section
open Go Go.Rn Go.RowKit Go.Proofs
namespace iU
open cr fF cS dL dj dA gF fT ia ig iv iw iG iT iF
variable {L:bU} {st:VS} {rest:List AV}
noncomputable section
open Classical in
def ep(R:VS->List AV->AV×VS->Prop)(st:VS)(rest:List AV):Option<|AV×VS:=if h:∃v,R st rest v then some h.choose else none
theorem Kg{R:VS->List AV->AV×VS->Prop}{v:AV×VS}(h:ep R st rest=some v):R st rest v:=by
 unfold ep at h;split at h
 ·rename_i q;injection h with h;rw[←h];exact q.choose_spec
 ·cases h
theorem K0{R:VS->List AV->AV×VS->Prop}(hd:∀st rest v v',R st rest v->R st rest v'->v=v'){v:AV×VS}(h:R st rest v):ep R st rest=some v:=by unfold ep;have q:∃v,R st rest v:=⟨v,h⟩;rw[dif_pos q,hd _ _ _ _ q.choose_spec h]
def wq(st:VS)(i z:Int):VS:=⟨⟨st.R.pre.set (2+i.toNat)<|.int .i64 z,st.R.len,st.R.cap,st.R.post⟩,st.u,st.row⟩
def akK(st:VS)(u:AV):VS:=⟨st.R,u,st.row⟩
def AI(st:VS)(rest:List AV)(p:AV×VS):Prop:=∃(a:MN) (kind to:Int) (ea eb:Ex) (body other:List St) (z:Int),bQ 10 st=true/\tp st a/\rest=[.agg<|a9<|.mk kind to ea eb body other]/\0<=to/\to<8/\vR jG st [.agg<|aM ea]=some (.int .i64 z)/\p=(.tuple [],wq st to z)
def Am(st:VS)(rest:List AV)(p:AV×VS):Prop:=∃(a:MN) (kind to:Int) (ea eb:Ex) (body other:List St) (v z:Int) (fb:Bool),bQ 10 st=true/\tp st a/\rest=[.agg<|a9<|.mk kind to ea eb body other]/\0<=to/\to<8/\vR nY st [.agg<|aM ea]=some (.int .i64 v)/\gQ (eW cv Cu) st.u [.int .i64 v]=some (.tuple [.int .i64 z,.bool fb],st.u)/\p=(.tuple [],wq st to z)
def z8(st:VS)(rest:List AV)(p:AV×VS):Prop:=∃(a:MN) (kind to:Int) (ea eb:Ex) (body other:List St) (v z:Int) (u':AV),bQ 10 st=true/\tp st a/\rest=[.agg<|a9<|.mk kind to ea eb body other]/\vR nY st [.agg<|aM ea]=some (.int .i64 v)/\vR jG st [.agg<|aM eb]=some (.int .i64 z)/\gQ (eW cv HJ) st.u [.int .i64 v,.int .i64 z]=some ((.int .i64 0:AV),u')/\p=(.tuple [],akK st u')
theorem Pz{k t k' t':Int}{a b a' b':Ex}{l m l' m':List St}(h:([.agg<|a9<|.mk k t a b l m]:List AV)=[.agg<|a9<|.mk k' t' a' b' l' m']):St.mk k t a b l m= .mk k' t' a' b' l' m':=by simp only[List.cons.injEq,AV.agg.injEq,_root_.and_true] at h;exact Of _ _ h
theorem AI.bR(st:VS)(rest:List AV)(v v':AV×VS)(h:AI st rest v)(h':AI st rest v'):v=v':=by
 obtain⟨a,k,t,ea,eb,l,m,z,_,_,rfl,_,_,h1,rfl⟩:=h;obtain⟨a',k',t',ZU,ZV,l',m',z',_,_,k0,_,_,k1,rfl⟩:=h';have e:=Pz k0;injection e with e1 e2 e3 e4 e5 e6
 subst e2;subst e3;rw[h1] at k1;simp only[Option.some.injEq,AV.int.injEq,true_and] at k1;rw[k1]
theorem Am.bR(st:VS)(rest:List AV)(v v':AV×VS)(h:Am st rest v)(h':Am st rest v'):v=v':=by
 obtain⟨a,k,t,ea,eb,l,m,x,z,fb,_,_,rfl,_,_,h1,h2,rfl⟩:=h;obtain⟨a',k',t',ZU,ZV,l',m',x',z',fb',_,_,k0,_,_,k1,k2,rfl⟩:=h';have e:=Pz k0;injection e with e1 e2 e3 e4 e5 e6
 subst e2;subst e3;rw[h1] at k1;simp only[Option.some.injEq,AV.int.injEq,true_and] at k1;subst k1;rw[h2] at k2;simp only[Option.some.injEq,Prod.mk.injEq,AV.tuple.injEq,List.cons.injEq,AV.int.injEq,true_and,_root_.and_true] at k2;rw[k2.1]
theorem z8.bR(st:VS)(rest:List AV)(v v':AV×VS)(h:z8 st rest v)(h':z8 st rest v'):v=v':=by
 obtain⟨a,k,t,ea,eb,l,m,x,z,u,_,_,rfl,h1,h2,h3,rfl⟩:=h;obtain⟨a',k',t',ZU,ZV,l',m',x',z',u',_,_,k0,k1,k2,k3,rfl⟩:=h';have e:=Pz k0;injection e with e1 e2 e3 e4 e5 e6
 subst e3;subst e4;rw[h1] at k1;rw[h2] at k2;simp only[Option.some.injEq,AV.int.injEq,true_and] at k1 k2;subst k1;subst k2;rw[h3] at k3;simp only[Option.some.injEq,Prod.mk.injEq,true_and] at k3;rw[k3]
def Rf:FuncId×KE:=(74,.raw<|nz 10 3<|ep AI)
def QC:FuncId×KE:=(75,.raw<|nz 10 3<|ep Am)
def P3:FuncId×KE:=(76,.raw<|nz 10 3<|ep z8)
theorem Ey(e:Ex):([AV.agg<|aM e]:List AV).all AV.hi=true:=by rw[List.all_cons,Cm];rfl
theorem afT(hP:bB pg)(h:aV L):aV<|Rf::L:=by
 refine JU hP gL yP ir gZ kG ki h (Eg hP cO) Tryz.func74 (body:=aW pg 74 []) aY aY fun st rest y bq e=>?_;obtain⟨a,kind,to,⟨op,n,l⟩,⟨aZ,n2,l2⟩,body,other,z,ho,⟨h1,h2,h3⟩,rfl,h0,h8,hz,hp⟩:=Kg e;injection hp with jb fP
 subst jb;subst fP;refine⟨aL.1 aY,fun B mc=>?_⟩;have hA:=Ey<|.mk op n l;obtain⟨⟨pre,len,cap,post⟩,u,row⟩:=st;simp only at h1 h2;subst h1;subst h2;rw[aM] at hz hA;rw[a9,aM,aM];exact ajm mc ho h0 h8 hA hz
theorem aeh(hP:bB pg)(h:aV L):aV<|QC::L:=by
 refine JU hP gL yP ir gZ kG ki h (G4 hP<|JW hP cO) Tryz.func75 (body:=aW pg 75 []) aY aY fun st rest y bq e=>?_;obtain⟨a,kind,to,⟨op,n,l⟩,⟨aZ,n2,l2⟩,body,other,v,z,fb,ho,⟨h1,h2,h3⟩,rfl,h0,h8,hv,hg,hp⟩:=Kg e;injection hp with jb fP
 subst jb;subst fP;refine⟨aL.1 aY,fun B mc=>?_⟩;have hA:=Ey<|.mk op n l;obtain⟨⟨pre,len,cap,post⟩,u,row⟩:=st;simp only at h1 h2;subst h1;subst h2;rw[aM] at hv hA;rw[a9,aM,aM];exact ahz mc ho h0 h8 hA hv hg
theorem ac1(hP:bB pg)(h:aV L):aV<|P3::L:=by
 refine JU hP gL yP ir gZ kG ki h (G4 hP<|Eg hP<|aee hP cO) Tryz.func76 (body:=aW pg 76 []) aY aY fun st rest y bq e=>?_;obtain⟨a,kind,to,⟨op,n,l⟩,⟨aZ,n2,l2⟩,body,other,v,z,u',ho,⟨h1,h2,h3⟩,rfl,hv,hz,hq,hp⟩:=Kg e;injection hp with jb fP
 subst jb;subst fP;refine⟨aL.1 aY,fun B mc=>?_⟩;have hA:=Ey<|.mk op n l;have hB:=Ey<|.mk aZ n2 l2;obtain⟨⟨pre,len,cap,post⟩,u,row⟩:=st;simp only at h1 h2;subst h1;subst h2;rw[aM] at hv hA hz hB;rw[a9,aM,aM];exact afS mc ho hA hB hv hz hq
end
end iU
end
section
open Go Go.Rn Go.RowKit Go.Proofs
namespace jH
open cr fF cS dL dj dA gF fT ia ig iv iw iG iT iU iF
variable {u7:VS} {u' u:AV} {fs:List Fr} {c:Nat} {a:MN} {B:aJ}
noncomputable section
def aB(l:List Fr)(z:Int):Fr:=l.getD z.toNat default
theorem qT{l:List Fr}{z:Int}(h0:0<=z)(h:z<(l.length:Int)):l[z.toNat]? =some (aB l z):=by
 have hz:z.toNat<l.length:=by omega
 unfold aB;rw[List.getD_eq_getElem?_getD,List.getElem?_eq_getElem hz];rfl
theorem Ox:fH<=273:=aL.1 aY
theorem QD{st:VS}{y Y:AV}{s:AS}(h:u7=st)(e:Y=y)(h1:s.h.get 270=some (bt<|dY st.R 271 272))(h2:s.h.get 271=some (.tok 3 st.u))(h3:s.h.get 272=some (bt st.row)):Y=y/\∀m o,(m,o)∈dP 270 3 u7->s.h.get m=some o:=by subst h;exact nX e h1 h2 h3
noncomputable abbrev Ez(a:MN)(n c:Nat)(u:AV)(fs:List Fr):List<|Nat×Option ae:=aq++[(270,some<|.cells 13 (Tr.fill (a.row (.ptr<|some (271,0)) (.slice (some (272,0)) (n)<|.ar c 13)<|i6 a.steps) 0 .nil) []),(271,(some<|.tok 3 u)),(272,(some<|aI aS<|fs.set ((n:Int) - 1).toNat ({(aB fs<|(n:Int) - 1) with au:=0,turns:=((aB fs<|(n:Int) - 1).turns - 1)}:Fr)))]
noncomputable abbrev Ca(a:MN)(n c:Nat)(u:AV)(fs:List Fr):VS:=(⟨⟨a.pre,n,(.ar c 13),[.int .i64 a.steps]⟩,u,((fs.set ((n:Int) - 1).toNat ({(aB fs<|(n:Int) - 1) with au:=0,turns:=((aB fs<|(n:Int) - 1).turns - 1)}:Fr)).map aS).flatten⟩:VS)
noncomputable abbrev Hl(a:MN)(n c:Nat)(u:AV)(fs:List Fr):List<|Nat×Option ae:=aq++[(270,some<|.cells 13 (Tr.fill (a.row (.ptr<|some (271,0)) (.slice (some (272,0)) ((((n:Int) - 1)).toNat)<|.ar c 13)<|i6 a.steps) 0 .nil) []),(271,(some<|.tok 3 u)),(272,(some<|aI aS fs))]
noncomputable abbrev Hm(a:MN)(n c:Nat)(u':AV)(fs:List Fr):List<|Nat×Option ae:=aq++[(270,some<|.cells 13 (Tr.fill (a.row (.ptr<|some (271,0)) (.slice (some (272,0)) ((((n:Int) - 1)).toNat)<|.ar c 13)<|i6 a.steps) 0 .nil) []),(271,(some<|.tok 3 u')),(272,(some<|aI aS fs))]
noncomputable abbrev Ho(a:MN)(n c:Nat)(u:AV)(fs:List Fr):List<|Nat×Option ae:=aq++[(270,some<|.cells 13 (Tr.fill (a.row (.ptr<|some (271,0)) (.slice (some (272,0)) (n)<|.ar c 13)<|i6 a.steps) 0 .nil) []),(271,(some<|.tok 3 u)),(272,(some<|aI aS fs))]
noncomputable abbrev vS(a:MN)(n c:Nat)(u:AV)(fs:List Fr):VS:=(⟨⟨a.pre,n,(.ar c 13),[.int .i64 a.steps]⟩,u,(fs.map aS).flatten⟩:VS)
noncomputable abbrev Hp(a:MN)(n c:Nat)(u:AV)(fs:List Fr):AS:=aj (aq++bO (dP 270 3 (⟨⟨a.pre,((n:Int) - 1).toNat,(.ar c 13),[.int .i64 a.steps]⟩,u,(fs.map aS).flatten⟩:VS))) 273
noncomputable abbrev Hr(a:MN)(n c:Nat)(u':AV)(fs:List Fr):AS:=aj (aq++bO (dP 270 3 (⟨⟨a.pre,((n:Int) - 1).toNat,(.ar c 13),[.int .i64 a.steps]⟩,u',(fs.map aS).flatten⟩:VS))) 273
noncomputable abbrev P4(fs:List Fr)(n:Nat):Fr:=({(aB fs<|(n:Int) - 1) with au:=(aB fs<|(n:Int) - 1).au,turns:=((aB fs<|(n:Int) - 1).turns - 1)}:Fr)
theorem EZ{n:Nat}(mc:Mt [Ef] B)(hn:n<=fs.length)(hc:n<=c)(hf:fs.length<=1000000)(hR:fs.length*13<=top)(ay:0<=(aB fs<|(n:Int) - 1).turns/\(aB fs<|(n:Int) - 1).turns<=1000000)(hm:(0<(n:Int)/\¬((aB fs<|(n:Int) - 1).au<(((aB fs<|(n:Int) - 1).block.length:Nat):Int))/\¬(0<(aB fs<|(n:Int) - 1).turns)/\(aB fs<|(n:Int) - 1).aU=true)->gQ (eW cv Kf) u []=some ((.int .i64 0:AV),u'))(E0:¬(0<(n:Int))->u7=(vS a n c u fs))(E1:0<(n:Int)->(aB fs<|(n:Int) - 1).au<(((aB fs<|(n:Int) - 1).block.length:Nat):Int)->u7=(vS a n c u fs))(E2:0<(n:Int)->¬((aB fs<|(n:Int) - 1).au<(((aB fs<|(n:Int) - 1).block.length:Nat):Int))->0<(aB fs<|(n:Int) - 1).turns->0<(((aB fs<|(n:Int) - 1).block.length:Nat):Int)->u7=(Ca a n c u fs))(H1:(0<(n:Int)/\¬((aB fs<|(n:Int) - 1).au<(((aB fs<|(n:Int) - 1).block.length:Nat):Int))/\0<(aB fs<|(n:Int) - 1).turns/\¬(0<(((aB fs<|(n:Int) - 1).block.length:Nat):Int)))->av pg B 273 (ij 270 3 pg (aA Tryz.f72) (.tuple []) u7) (⟨72,aP [(0,.ptr<|some (270,0))],(max Tryz.f72.ntmps 1),[.code<|aW pg 72 [0,0],.inLoop<|aW pg 72 [0,0],.inBlock 0],[],none⟩:AF) (aj (aq++bO (dP 270 3<|Ca a n c u fs)) 273))(H2:(0<(n:Int)/\¬((aB fs<|(n:Int) - 1).au<(((aB fs<|(n:Int) - 1).block.length:Nat):Int))/\¬(0<(aB fs<|(n:Int) - 1).turns)/\(aB fs<|(n:Int) - 1).aU=true)->av pg B 273 (ij 270 3 pg (aA Tryz.f72) (.tuple []) u7) (⟨72,aP [(0,.ptr<|some (270,0))],(max Tryz.f72.ntmps 1),[.code<|aW pg 72 [0,0],.inLoop<|aW pg 72 [0,0],.inBlock 0],[],none⟩:AF) (Hr a n c u' fs))(H3:(0<(n:Int)/\¬((aB fs<|(n:Int) - 1).au<(((aB fs<|(n:Int) - 1).block.length:Nat):Int))/\¬(0<(aB fs<|(n:Int) - 1).turns)/\(aB fs<|(n:Int) - 1).aU=false)->av pg B 273 (ij 270 3 pg (aA Tryz.f72) (.tuple []) u7) (⟨72,aP [(0,.ptr<|some (270,0))],(max Tryz.f72.ntmps 1),[.code<|aW pg 72 [0,0],.inLoop<|aW pg 72 [0,0],.inBlock 0],[],none⟩:AF) (Hp a n c u fs)):av pg B 273 (ij 270 3 pg (aA Tryz.f72) (.tuple []) u7) (⟨72,aP [(0,.ptr<|some (270,0))],(max Tryz.f72.ntmps 1),[.code<|aW pg 72 [0,0],.inLoop<|aW pg 72 [0,0],.inBlock 0],[],none⟩:AF)<|aj (aq++bO (dP 270 3<|vS a n c u fs)) 273:=
 x8 (E:=rF [Ef]) (C:=(fun fr s1 _=>fr=(⟨72,aP [(0,.ptr<|some (270,0))],(max Tryz.f72.ntmps 1),[.code<|aW pg 72 [0,0],.inLoop<|aW pg 72 [0,0],.inBlock 0],[],none⟩:AF)/\(((0<(n:Int)/\¬((aB fs<|(n:Int) - 1).au<(((aB fs<|(n:Int) - 1).block.length:Nat):Int))/\0<(aB fs<|(n:Int) - 1).turns/\¬(0<(((aB fs<|(n:Int) - 1).block.length:Nat):Int)))/\s1=(aj (aq++bO (dP 270 3<|Ca a n c u fs)) 273))\/((0<(n:Int)/\¬((aB fs<|(n:Int) - 1).au<(((aB fs<|(n:Int) - 1).block.length:Nat):Int))/\¬(0<(aB fs<|(n:Int) - 1).turns)/\(aB fs<|(n:Int) - 1).aU=true)/\s1=(Hr a n c u' fs))\/((0<(n:Int)/\¬((aB fs<|(n:Int) - 1).au<(((aB fs<|(n:Int) - 1).block.length:Nat):Int))/\¬(0<(aB fs<|(n:Int) - 1).turns)/\(aB fs<|(n:Int) - 1).aU=false)/\s1=(Hp a n c u fs))))) eH rfl bT mc.2.2.1 mc.2.2.2 Ox rfl mc.1 (fun fr s1 p hC=>by
  obtain⟨rfl,hC⟩:=hC;rcases hC with⟨h,rfl⟩|⟨h,rfl⟩|⟨h,rfl⟩
  ·exact H1 h
  ·exact H2 h
  ·exact H3 h) 900 (.st 2<|.rg<|.go 5<|.fk (.en<|.st 4<|.rg<|.go 9<|.vl (i6<|(n:Int) - 1)<|.ix<|.go 1<|.en<|.st 3<|.rg<|.go 3<|.ld [(i6<|(aB fs<|(n:Int) - 1).au)]<|.go 3<|.ld [(.ab (nm ((aB fs<|(n:Int) - 1).block.map a9).flatten) 0 (aB fs<|(n:Int) - 1).block.length)]<|.go 1<|.fk (.go 1<|.en<|.rt 2 .no)<|.go 1<|.en<|.st 2<|.rg<|.go 3<|.ld [(i6<|(aB fs<|(n:Int) - 1).turns)]<|.fk (.go 1<|.en<|.st 2<|.rg<|.go 5<|.ld [(i6<|(aB fs<|(n:Int) - 1).turns)]<|.vl (i6<|(aB fs<|(n:Int) - 1).turns - 1)<|.go 2<|.sQ (aI aS<|fs.set ((n:Int) - 1).toNat<|P4 fs n)<|.go 2<|.sQ (aI aS<|fs.set ((n:Int) - 1).toNat ({(aB fs<|(n:Int) - 1) with au:=0,turns:=((aB fs<|(n:Int) - 1).turns - 1)}:Fr))<|.en<|.st 2<|.rg<|.go 3<|.ld [(.ab (nm ((aB fs<|(n:Int) - 1).block.map a9).flatten) 0 (aB fs<|(n:Int) - 1).block.length)]<|.go 1<|.fk (.en<|.rt 2 .no)<|.en<|.st 4<|.ls [(0,.ptr<|some (270,0))] (Ez a n c u fs) 273 .no)<|.go 1<|.en<|.st 2<|.rg<|.go 3<|.Zj ((aB fs<|(n:Int) - 1).aU) (.go 1<|.en<|.st 1<|.rg<|.go 4<|.kt i0 u'<|.en<|.st 1<|.rg<|.go 10<|.vl (i6<|(n:Int) - 1)<|.so<|.go 3<|.en<|.st 2<|.ls [(0,.ptr<|some (270,0))] (Hm a n c u' fs) 273 .no)<|.go 1<|.en<|.st 3<|.rg<|.go 10<|.vl (i6<|(n:Int) - 1)<|.so<|.go 3<|.en<|.st 2<|.ls [(0,.ptr<|some (270,0))] (Hl a n c u fs) 273 .no)<|.en<|.rt 3 .no)
  (ax ((n:Int)>0) (fun _=>(ai (wI<|(n:Int) - 1)
  (eZ ((n:Int) - 1) (n:Int)
  (ai (nk jx hR (qT (l:=fs) (z:=((n:Int) - 1)) ah ah) 1 1 rfl)
  (ai (nk jx hR (qT (l:=fs) (z:=((n:Int) - 1)) ah ah) 0 1 rfl)
  (ax ((aB fs<|(n:Int) - 1).au<(((aB fs<|(n:Int) - 1).block.length:Nat):Int)) (fun _=>(QD (st:=(vS a n c u fs)) (s:=aj (Ho a n c u fs) 273) (E1 ah ah) (show((.tuple []):AV)= .tuple [] from rfl) cC cC cC))
  (fun _=>(ai (nk jx hR (qT (l:=fs) (z:=((n:Int) - 1)) ah ah) 2 1 rfl)
  (ax ((aB fs<|(n:Int) - 1).turns>0) (fun _=>(ai (nk jx hR (qT (l:=fs) (z:=((n:Int) - 1)) ah ah) 2 1 rfl)
  (ai (wI<|(aB fs<|(n:Int) - 1).turns - 1)
  (ai (El jx hR (qT (l:=fs) (z:=((n:Int) - 1)) ah ah) (c':=(P4 fs n)) (r:=[(i6<|((aB fs<|(n:Int) - 1).turns - 1))]) 2 rfl rfl rfl)
  (ai (aeZ jx hR (qT (l:=fs) (z:=((n:Int) - 1)) ah ah) (c:=(P4 fs n)) (c':=({(aB fs<|(n:Int) - 1) with au:=0,turns:=((aB fs<|(n:Int) - 1).turns - 1)}:Fr)) (r:=[i0]) 1 rfl rfl rfl)
  (ai (aeY jx hR (qT (l:=fs) (z:=((n:Int) - 1)) ah ah) (c:=({(aB fs<|(n:Int) - 1) with au:=0,turns:=((aB fs<|(n:Int) - 1).turns - 1)}:Fr)) 0 1 rfl)
  (ax ((((aB fs<|(n:Int) - 1).block.length:Nat):Int)>0) (fun _=>(QD (st:=(Ca a n c u fs)) (s:=aj (Ez a n c u fs) 273) (E2 ah ah ah ah) (show((.tuple []):AV)= .tuple [] from rfl) cC cC cC))
  (fun _=>(ai (mS [(0,.ptr<|some (270,0))])<|ai (mO<|Ez a n c u fs)<|ai (rX (⟨72,aP [(0,.ptr<|some (270,0))],(max Tryz.f72.ntmps 1),[.code<|aW pg 72 [0,0],.inLoop<|aW pg 72 [0,0],.inBlock 0],[],none⟩:AF)) (show((0<(n:Int)/\¬((aB fs<|(n:Int) - 1).au<(((aB fs<|(n:Int) - 1).block.length:Nat):Int))/\0<(aB fs<|(n:Int) - 1).turns/\¬(0<(((aB fs<|(n:Int) - 1).block.length:Nat):Int)))/\(aj (Ez a n c u fs) 273)=(aj (aq++bO (dP 270 3<|Ca a n c u fs)) 273))\/((0<(n:Int)/\¬((aB fs<|(n:Int) - 1).au<(((aB fs<|(n:Int) - 1).block.length:Nat):Int))/\¬(0<(aB fs<|(n:Int) - 1).turns)/\(aB fs<|(n:Int) - 1).aU=true)/\(aj (Ez a n c u fs) 273)=(Hr a n c u' fs))\/((0<(n:Int)/\¬((aB fs<|(n:Int) - 1).au<(((aB fs<|(n:Int) - 1).block.length:Nat):Int))/\¬(0<(aB fs<|(n:Int) - 1).turns)/\(aB fs<|(n:Int) - 1).aU=false)/\(aj (Ez a n c u fs) 273)=(Hp a n c u fs)) from Or.inl<|ai (show(0<(n:Int)/\¬((aB fs<|(n:Int) - 1).au<(((aB fs<|(n:Int) - 1).block.length:Nat):Int))/\0<(aB fs<|(n:Int) - 1).turns/\¬(0<(((aB fs<|(n:Int) - 1).block.length:Nat):Int))) from⟨by omega,by omega,by omega,by omega⟩) cC))))))))))
  (fun _=>(ai (nk jx hR (qT (l:=fs) (z:=((n:Int) - 1)) ah ah) 3 1 rfl) (tfb ((aB fs<|(n:Int) - 1).aU) (fun h5=>(ai (hm ⟨by omega,by omega,by omega,h5⟩)
  (ai (wI<|(n:Int) - 1)
  (ai (show(0:Int)=0 from rfl)<|ai (show 0<=((n:Int) - 1) from ah) (ai (show((n:Int) - 1)<=Int.ofNat (jB n<|.ar c 13) from(show((n:Int) - 1)<=(c:Int) from by omega))
  (ai (mS [(0,.ptr<|some (270,0))])<|ai (mO<|Hm a n c u' fs)<|ai (rX (⟨72,aP [(0,.ptr<|some (270,0))],(max Tryz.f72.ntmps 1),[.code<|aW pg 72 [0,0],.inLoop<|aW pg 72 [0,0],.inBlock 0],[],none⟩:AF)) (show((0<(n:Int)/\¬((aB fs<|(n:Int) - 1).au<(((aB fs<|(n:Int) - 1).block.length:Nat):Int))/\0<(aB fs<|(n:Int) - 1).turns/\¬(0<(((aB fs<|(n:Int) - 1).block.length:Nat):Int)))/\(aj (Hm a n c u' fs) 273)=(aj (aq++bO (dP 270 3<|Ca a n c u fs)) 273))\/((0<(n:Int)/\¬((aB fs<|(n:Int) - 1).au<(((aB fs<|(n:Int) - 1).block.length:Nat):Int))/\¬(0<(aB fs<|(n:Int) - 1).turns)/\(aB fs<|(n:Int) - 1).aU=true)/\(aj (Hm a n c u' fs) 273)=(Hr a n c u' fs))\/((0<(n:Int)/\¬((aB fs<|(n:Int) - 1).au<(((aB fs<|(n:Int) - 1).block.length:Nat):Int))/\¬(0<(aB fs<|(n:Int) - 1).turns)/\(aB fs<|(n:Int) - 1).aU=false)/\(aj (Hm a n c u' fs) 273)=(Hp a n c u fs)) from Or.inr<|Or.inl<|ai (show(0<(n:Int)/\¬((aB fs<|(n:Int) - 1).au<(((aB fs<|(n:Int) - 1).block.length:Nat):Int))/\¬(0<(aB fs<|(n:Int) - 1).turns)/\(aB fs<|(n:Int) - 1).aU=true) from⟨by omega,by omega,by omega,h5⟩) cC)))))))
  (fun h5=>(ai (wI<|(n:Int) - 1)
  (ai (show(0:Int)=0 from rfl)<|ai (show 0<=((n:Int) - 1) from ah) (ai (show((n:Int) - 1)<=Int.ofNat (jB n<|.ar c 13) from(show((n:Int) - 1)<=(c:Int) from by omega))
  (ai (mS [(0,.ptr<|some (270,0))])<|ai (mO<|Hl a n c u fs)<|ai (rX (⟨72,aP [(0,.ptr<|some (270,0))],(max Tryz.f72.ntmps 1),[.code<|aW pg 72 [0,0],.inLoop<|aW pg 72 [0,0],.inBlock 0],[],none⟩:AF)) (show((0<(n:Int)/\¬((aB fs<|(n:Int) - 1).au<(((aB fs<|(n:Int) - 1).block.length:Nat):Int))/\0<(aB fs<|(n:Int) - 1).turns/\¬(0<(((aB fs<|(n:Int) - 1).block.length:Nat):Int)))/\(aj (Hl a n c u fs) 273)=(aj (aq++bO (dP 270 3<|Ca a n c u fs)) 273))\/((0<(n:Int)/\¬((aB fs<|(n:Int) - 1).au<(((aB fs<|(n:Int) - 1).block.length:Nat):Int))/\¬(0<(aB fs<|(n:Int) - 1).turns)/\(aB fs<|(n:Int) - 1).aU=true)/\(aj (Hl a n c u fs) 273)=(Hr a n c u' fs))\/((0<(n:Int)/\¬((aB fs<|(n:Int) - 1).au<(((aB fs<|(n:Int) - 1).block.length:Nat):Int))/\¬(0<(aB fs<|(n:Int) - 1).turns)/\(aB fs<|(n:Int) - 1).aU=false)/\(aj (Hl a n c u fs) 273)=(Hp a n c u fs)) from Or.inr<|Or.inr<|ai (show(0<(n:Int)/\¬((aB fs<|(n:Int) - 1).au<(((aB fs<|(n:Int) - 1).block.length:Nat):Int))/\¬(0<(aB fs<|(n:Int) - 1).turns)/\(aB fs<|(n:Int) - 1).aU=false) from⟨by omega,by omega,by omega,h5⟩) cC))))))))))))))))))
  (fun _=>(QD (st:=(vS a n c u fs)) (s:=aj (Ho a n c u fs) 273) (E0 ah) (show((.tuple []):AV)= .tuple [] from rfl) cC cC cC)))
abbrev frS:AF:=(⟨72,aP [(0,.ptr<|some (270,0))],(max Tryz.f72.ntmps 1),[.code<|aW pg 72 [0,0],.inLoop<|aW pg 72 [0,0],.inBlock 0],[],none⟩:AF)
abbrev MS(a:MN)(n c:Nat)(u:AV)(fs:List Fr):VS:=(vS a n c u fs)
theorem ahA{n:Nat}{u':AV}(mc:Mt [Ef] B)(H:av pg B 273 (ij 270 3 pg (aA Tryz.f72) (.tuple []) u7) (⟨72,aP [(0,.ptr<|some (270,0))],(max Tryz.f72.ntmps 1),[.code<|aW pg 72 [0,0],.inLoop<|aW pg 72 [0,0],.inBlock 0],[],none⟩:AF)<|aj (aq++bO (dP 270 3<|vS a n c u fs)) 273):av pg B 273 (ij 270 3 pg (aA Tryz.f72) (.tuple []) u7) (sF 72 Tryz.f72 [.ptr<|some (270,0)])<|aj (aq++bO (dP 270 3<|vS a n c u fs)) 273:=
 x8 (E:=rF [Ef]) (C:=(fun fr s1 _=>fr=(⟨72,aP [(0,.ptr<|some (270,0))],(max Tryz.f72.ntmps 1),[.code<|aW pg 72 [0,0],.inLoop<|aW pg 72 [0,0],.inBlock 0],[],none⟩:AF)/\s1=(aj (aq++bO (dP 270 3<|vS a n c u fs)) 273))) eH rfl bT mc.2.2.1 mc.2.2.2 Ox rfl mc.1 (fun fr s1 p hC=>by
  obtain⟨rfl,rfl⟩:=hC;exact H) 900 (.st 2<|.ls [(0,.ptr<|some (270,0))] (Ho a n c u fs) 273 .no)
  (ai (mS [(0,.ptr<|some (270,0))])<|ai (mO<|Ho a n c u fs)<|ai (rX (⟨72,aP [(0,.ptr<|some (270,0))],(max Tryz.f72.ntmps 1),[.code<|aW pg 72 [0,0],.inLoop<|aW pg 72 [0,0],.inBlock 0],[],none⟩:AF)) (show(aj (Ho a n c u fs) 273)=(aj (aq++bO (dP 270 3<|vS a n c u fs)) 273) from cC))
end
end jH
end
section
open Go Go.Rn Go.RowKit Go.Proofs
namespace jN
open cr fF cS dL dj dA gF fT ia ig iv iw iG iT iU jH iF
variable {fs:List Fr}
def oH:Nat->Nat->List Fr->bA->Option (Nat×List Fr×bA)
  |0,_,_,_=>none
  | k +1,n,fs,b=>if n=0 then some (n,fs,b) else
    let f:=aB fs<|(n:Int) - 1
    if f.au<(f.block.length:Int) then some (n,fs,b)
    else if 0<f.turns then
      let da:=fs.set ((n:Int) - 1).toNat {f with au:=0,turns:=f.turns - 1}
      if 0<(f.block.length:Int) then some (n,da,b) else oH k n da b
    else if f.aU=true then(if 2<=b.length then oH k ((n:Int) - 1).toNat fs (gU b) else none)
    else oH k ((n:Int) - 1).toNat fs b
def iy(fs:List Fr):Prop:=∀f∈fs,(0<=f.turns/\f.turns<=1000000)/\f.kept.length=8
theorem iy.at(h:iy fs)(z:Int):0<=(aB fs z).turns/\(aB fs z).turns<=1000000:=by
 unfold aB;by_cases q:z.toNat<fs.length
 ·rw[List.getD_eq_getElem?_getD,List.getElem?_eq_getElem q];exact(h _<|List.getElem_mem q).1
 ·rw[List.getD_eq_getElem?_getD,List.getElem?_eq_none ah];show(0:Int)<=0/\(0:Int)<=1000000;omega
theorem iy.kept(h:iy fs){z:Int}(h0:0<=z)(hz:z<(fs.length:Int)):(aB fs z).kept.length=8:=(h _<|List.mem_of_getElem?<|qT h0 hz).2
theorem iy.set(h:iy fs){i:Nat}{f:Fr}(hf:(0<=f.turns/\f.turns<=1000000)/\f.kept.length=8):iy<|fs.set i f:=fun g hg=>by
 rcases List.mem_or_eq_of_mem_set hg with q|q
 ·exact h g q
 ·rw[q];exact hf
theorem NK{b:bA}(h:fy b)(h2:2<=b.length):gQ (eW cv Kf) (cv b) []=some ((.int .i64 0:AV),cv<|gU b):=by
 unfold gQ;rw[BM xH];show(match ([]:List AV).all AV.hi with
  |true=>((if 2<=List.length b then some ((AV.int .i64 0:AV),gU b) else none).map (fun p:AV×bA=>((p.1,cv p.2):AV×AV))).bind fun p:AV×AV=>match p.1.hi with
   |true=>some p
   |false=>none
  |false=>none)=_
 rw[if_pos h2];rfl
theorem Ju{B:aJ}(mc:Mt [Ef] B){a:MN}{c:Nat}{n':Nat}{da:List Fr}{b':bA}:∀(k n:Nat) (fs:List Fr) (b:bA),oH k n fs b=some (n',da,b')->fy b->iy fs->n<=fs.length->n<=c->fs.length<=1000000->
 av pg B 273 (ij 270 3 pg (aA Tryz.f72) (.tuple [])<|MS a n' c (cv b') da) frS (aj (aq++bO (dP 270 3<|MS a n c (cv b) fs)) 273)
 |0,n,fs,b,h,_,_,_,_,_=>by cases h
 |k+1,n,fs,b,h,hb,hf,hn,hc,hl=>by
  unfold oH at h;have ay:=hf.at<|(n:Int) - 1;have HQ:n≠0->∀f:Fr,f={aB fs ((n:Int) - 1) with au:=0,turns:=(aB fs<|(n:Int) - 1).turns - 1}->0<(aB fs<|(n:Int) - 1).turns->iy (fs.set ((n:Int) - 1).toNat f):=fun pt f e h0=>hf.set (by subst e;refine⟨?_,hf.kept (z:=(n:Int) - 1) ah ah⟩;show 0<=(aB fs<|(n:Int) - 1).turns - 1/\(aB fs<|(n:Int) - 1).turns - 1<=1000000;omega);by_cases n0:n=0
  ·rw[if_pos n0] at h;injection h with h;injection h with e1 h;injection h with e2 e3
   subst e1;subst e2;subst e3;exact EZ (u':=.tuple []) mc hn hc hl (by have:top=549755813888:=rfl;omega) ay (fun q=>absurd q.1 ah) (fun _=>rfl) (fun _ _=>rfl) (fun q _ _ _=>absurd q ah) (fun q=>absurd q.1 ah) (fun q=>absurd q.1 ah) fun q=>absurd q.1 ah
  ·rw[if_neg n0] at h;simp only at h;have hz:((n:Int) - 1).toNat<=n:=by omega
   have hr:fs.length*13<=top:=by have:top=549755813888:=rfl;omega
   by_cases a1:(aB fs<|(n:Int) - 1).au<(((aB fs<|(n:Int) - 1).block.length:Nat):Int)
   ·rw[if_pos a1] at h;injection h with h;injection h with e1 h;injection h with e2 e3
    subst e1;subst e2;subst e3;exact EZ (u':=.tuple []) mc hn hc hl hr ay (fun q=>absurd a1 q.2.1) (fun _=>rfl) (fun _ _=>rfl) (fun _ q _ _=>absurd a1 q) (fun q=>absurd a1 q.2.1) (fun q=>absurd a1 q.2.1) fun q=>absurd a1 q.2.1
   ·rw[if_neg a1] at h;by_cases a2:0<(aB fs<|(n:Int) - 1).turns
    ·rw[if_pos a2] at h;by_cases a3:0<(((aB fs<|(n:Int) - 1).block.length:Nat):Int)
     ·rw[if_pos a3] at h;injection h with h;injection h with e1 h;injection h with e2 e3
      subst e1;subst e2;subst e3;exact EZ (u':=.tuple []) mc hn hc hl hr ay (fun q=>absurd a2 q.2.2.1) (fun q=>absurd q ah) (fun _ q=>absurd q a1) (fun _ _ _ _=>rfl) (fun q=>absurd a3 q.2.2.2) (fun q=>absurd a2 q.2.2.1) fun q=>absurd a2 q.2.2.1
     ·rw[if_neg a3] at h;have ih:=Ju (c:=c) (a:=a) mc k n _ b h hb (HQ n0 _ rfl a2) (by rw[List.length_set];exact hn) hc (by rw[List.length_set];exact hl);exact EZ (u':=.tuple []) mc hn hc hl hr ay (fun q=>absurd a2 q.2.2.1) (fun q=>absurd q ah) (fun _ q=>absurd q a1) (fun _ _ _ q=>absurd q a3) (fun _=>ih) (fun q=>absurd a2 q.2.2.1) fun q=>absurd a2 q.2.2.1
    ·rw[if_neg a2] at h;by_cases a4:(aB fs<|(n:Int) - 1).aU=true
     ·rw[if_pos a4] at h;by_cases a5:2<=b.length
      ·rw[if_pos a5] at h;have ih:=Ju (c:=c) (a:=a) mc k _ fs _ h (JV hb a5) hf ah ah hl;exact EZ (u':=cv<|gU b) mc hn hc hl hr ay (fun _=>NK hb a5) (fun q=>absurd q ah) (fun _ q=>absurd q a1) (fun _ _ q _=>absurd q a2) (fun q=>absurd q.2.2.1 a2) (fun _=>ih) (fun q=>by rw[a4] at q;cases q.2.2.2)
      ·rw[if_neg a5] at h;cases h
     ·rw[if_neg a4] at h;have ih:=Ju (c:=c) (a:=a) mc k _ fs b h hb hf ah ah hl;exact EZ (u':=.tuple []) mc hn hc hl hr ay (fun q=>absurd q.2.2.2 a4) (fun q=>absurd q ah) (fun _ q=>absurd q a1) (fun _ _ q _=>absurd q a2) (fun q=>absurd q.2.2.1 a2) (fun q=>absurd q.2.2.2 a4) fun _=>ih
theorem No:∀(k m n:Nat) (fs:List Fr) (b:bA) (r:Nat×List Fr×bA),oH k n fs b=some r->k<=m->oH m n fs b=some r
 |0,_,_,_,_,_,h,_=>by cases h
 |k+1,0,_,_,_,_,_,hm=>by omega
 |k+1,m+1,n,fs,b,r,h,hm=>by
  have ih:=fun n fs b h=>No k m n fs b r h ah;unfold oH at h ⊢;simp only at h ⊢;split at h
  ·rename_i q;rw[if_pos q];exact h
  ·rename_i q;rw[if_neg q];split at h
   ·rename_i q;rw[if_pos q];exact h
   ·rename_i q;rw[if_neg q];split at h
    ·rename_i q;rw[if_pos q];split at h
     ·rename_i q;rw[if_pos q];exact h
     ·rename_i q;rw[if_neg q];exact ih _ _ _ h
    ·rename_i q;rw[if_neg q];split at h
     ·rename_i q;rw[if_pos q];split at h
      ·rename_i q;rw[if_pos q];exact ih _ _ _ h
      ·cases h
     ·rename_i q;rw[if_neg q];exact ih _ _ _ h
theorem K2:∀l:List Int,l.length=8->l=[l.getD 0 0,l.getD 1 0,l.getD 2 0,l.getD 3 0,l.getD 4 0,l.getD 5 0,l.getD 6 0,l.getD 7 0]
 |[a,b,c,d,e,f,g,h],_=>rfl
theorem ac2(f g:Fr)(hf:f.kept.length=8)(hg:g.kept.length=8)(h:aS f=aS g):f=g:=by
 obtain⟨a1,a2,a3,a4,a5,a6⟩:=f;obtain⟨b1,b2,b3,b4,b5,b6⟩:=g;simp only[aS,eight,List.cons_append,List.nil_append,List.cons.injEq,AV.int.injEq,AV.bool.injEq,true_and,_root_.and_true] at h;obtain⟨h1,rfl,rfl,rfl,c0,c1,c2,c3,c4,c5,c6,c7,h6⟩:=h;rw[Ol h1,VZ h6];have e:a5=b5:=by rw[K2 a5 hf,K2 b5 hg,c0,c1,c2,c3,c4,c5,c6,c7]
 rw[e]
theorem GU:∀(l m:List Fr),iy l->iy m->(l.map aS).flatten=(m.map aS).flatten->l=m
 |[],[],_,_,_=>rfl
 |[],y::m,_,_,h=>by have:=congrArg List.length h;simp only[List.map_nil,List.flatten_nil,List.length_nil,List.map_cons,List.flatten_cons,List.length_append,jx] at this;omega
 |x::l,[],_,_,h=>by have:=congrArg List.length h;simp only[List.map_nil,List.flatten_nil,List.length_nil,List.map_cons,List.flatten_cons,List.length_append,jx] at this;omega
 |x::l,y::m,hl,hm,h=>by rw[List.map_cons,List.map_cons,List.flatten_cons,List.flatten_cons] at h;obtain⟨e1,e2⟩:=List.append_inj h (by rw[jx,jx]);rw[ac2 x y (hl x List.mem_cons_self).2 (hm y List.mem_cons_self).2 e1,GU l m (fun f hf=>hl f<|List.mem_cons_of_mem _ hf) (fun f hf=>hm f<|List.mem_cons_of_mem _ hf) e2]
def fh(st:VS)(rest:List AV)(p:AV×VS):Prop:=∃(a:MN) (n c k n':Nat) (fs da:List Fr) (b b':bA),tp st a/\rest=[]/\st.R.len=n/\st.R.cap= .ar c 13/\st.u=cv b/\st.row=(fs.map aS).flatten/\fy b/\iy fs/\n<=fs.length/\n<=c/\fs.length<=1000000/\oH k n fs b=some (n',da,b')/\p=(.tuple [],⟨⟨st.R.pre,n',.ar c 13,st.R.post⟩,cv b',(da.map aS).flatten⟩)
theorem fh.bR(st:VS)(rest:List AV)(v v':AV×VS)(h:fh st rest v)(h':fh st rest v'):v=v':=by
 obtain⟨a,n,c,k,n',fs,da,b,b',_,_,e1,e2,e3,e4,_,f1,_,_,_,s1,rfl⟩:=h;obtain⟨a1,m,d,j,m',gs,gs',b1,Zr,_,_,g1,g2,g3,g4,_,f2,_,_,_,s2,rfl⟩:=h';rw[e1] at g1;subst g1;rw[e2] at g2;injection g2 with g2
 subst g2;rw[e3] at g3;have e:=xH _ _ g3;subst e;rw[e4] at g4;have e:=GU _ _ f1 f2 g4;subst e;have q1:=No k (max k j) _ _ _ _ s1<|Nat.le_max_left _ _;have q2:=No j (max k j) _ _ _ _ s2<|Nat.le_max_right _ _;rw[q1] at q2;injection q2 with q2;injection q2 with q2 q3;injection q3 with q3 q4
 rw[q2,q3,q4]
noncomputable def zQ:FuncId×KE:=(72,.raw<|nz 10 3<|ep fh)
theorem TO(hP:bB pg){L:bU}(h:aV L):aV<|zQ::L:=by
 refine JU hP gL yP ir gZ kG ki h (ab1 hP<|cO) Tryz.func72 (body:=aW pg 72 []) aY aY fun st rest y bq e=>?_;obtain⟨a,n,c,k,n',fs,da,b,b',⟨h1,h2,h3⟩,rfl,e1,e2,e3,e4,hb,hf,hn,hc,hl,hs,hp⟩:=Kg e;injection hp with jb fP
 subst jb;subst fP;refine⟨aL.1 aY,fun B mc=>?_⟩;obtain⟨⟨pre,len,cap,post⟩,u,row⟩:=st;simp only at h1 h2 e1 e2 e3 e4;subst h1;subst h2;subst e1;subst e2;subst e3;subst e4;exact ahA (u':=.tuple []) mc<|Ju mc k _ fs b hs hb hf hn hc hl
end jN
end
section
open Go Go.Rn Go.RowKit Go.Proofs
namespace kK
open cr fF cS dL dj dA gF fT ia ig iv iw iG iT iU jH jN iF uH
variable {j nt:Nat} {s:AS} {t:Tr AV} {T:Prop} {K:List Item}
noncomputable section
def zr:Code:=aW pg 62 [1,0,1,0,0]
def lT:Code:=aW pg 62 [1,0,1,0,1]
def pC:List<|Nat×AV:=[(2,(.ptr<|some (273,0))),(9,(.func (.func 104) [] [(.ptr<|some (274,0))]))]
def KI:List Item:=[.inBlock 0,.code<|aW pg 62 [1,1]]
def iq(st:LoopState)(p:Option Code):ae:=.loop st p 62 (aP pC) 15 [10,11] zr lT 275
def oW(o0 o1 o2:ae)(r:Int)(sl:AV)(lo:ae)(js:List<|Nat×Option ae):List<|Nat×Option ae:=aq++([(270,some o0),(271,some o1),(272,some o2),(273,some<|.cells 1 (Tr.fill [.int .i64 r] 0 .nil) []),(274,some<|.cells 1 (Tr.fill [sl] 0 .nil) []),(275,some .defs),(276,some lo)]++js)
abbrev fp(L:bU):Env:=wx pg 270 eB dV L 270 false
def QE(P:Program)(SI:aO)(rs:List ResultVar)(k l:Nat)(fr:AF)(s:AS):Option<|AV×Option ae×Option ae×Option ae:=match yM P SI rs k l fr s with
 |some (v,s2)=>some (v,s2.h.get 270,s2.h.get 271,s2.h.get 272)
 |none=>none
theorem ac3{P:Program}{SI:aO}{l:Nat}{B:aJ}{U k:Nat}{rs:List ResultVar}{fr:AF}{v:AV}{R:AV->AS->Prop}{o0 o1 o2:ae}(bT:P.follows .mixedOrders=true)(hc:fR P B SI)(hl:∀t a,SH<|SI t a)(h1:fr.round=none)(h2:fr.defers=[])(h:QE P SI rs k l fr s=some (v,some o0,some o1,some o2))(hR:∀s2:AS,s2.h.get 270=some o0->s2.h.get 271=some o1->s2.h.get 272=some o2->R v s2):GD P SI B U (Fin P rs R) l fr s:=by
 unfold QE at h;split at h
 ·rename_i v2 s2 e;injection h with h;injection h with h3 h;injection h with h4 h;injection h with h5 h6
  subst h3;exact OV bT hc hl h1 h2 e<|hR _ h4 h5 h6
 ·cases h
abbrev bX(cs:List AV):Option ae:=some<|.cells 13 (Tr.fill cs 0 .nil) []
def Sk:List AV:=[.slice none 0<|.known 0,.int .i64 0,.int .i64 0,.bool false,.int .i64 0,.int .i64 0,.int .i64 0,.int .i64 0,.int .i64 0,.int .i64 0,.int .i64 0,.int .i64 0,.slice none 0<|.known 0]
theorem YM(f:Fr):v7 (bX Sk) 0 (aS f)=bX (aS f):=by have e:=Oj f;show(match (Nat.ble (0+13) 13&&(Nat.ble 13 top&&(aS f).all AV.cj)) with|true=>some (ae.cells 13 (Tr.fill (aS f) 0<|Tr.fill Sk 0 .nil) [])|false=>none)=_;rw[e];kernel_rfl
def kx(fs:List Fr):Nat->Int
 |0=> -1
 |n+1=>if(aB fs (n:Int)).aU=true then(n:Int) else kx fs n
theorem ajn{l:List Fr}{z:Int}{b:Bool}(h:(aB l z).aU=b)(h0:0<=z)(h1:z<(l.length:Int)):l[z.toNat]? =some ({aB l z with aU:=b}:Fr):=by subst h;exact qT h0 h1
def RW(B:aJ)(R:AV->AS->Prop)(v:AV)(s:AS):Prop:=v= .tuple []/\∃p s4,lf 276 s= .ok p s4/\av pg B 273 (Fin pg (aA Tryz.f62) R) ⟨62,aP pC,15,andThen p KI,[275],none⟩ s4
def jsL(b:Nat->Option ae)(j:Nat):List<|Nat×Option ae:=(List.range j).map fun k=>(277+k,b k)
def uK(b:Nat->Option ae)(j:Nat)(o:Option ae)(k:Nat):Option ae:=match Nat.beq k j with
 |true=>o
 |false=>b k
def rI(t:Bool)(i:Int):Int:=match t with
 |true=>i
 |false=>0
def Sl(t:Bool):ae:=match t with
 |true=>iq .done<|some .ret
 |false=>iq .ready none
abbrev sJ(o0 o1 o2:ae)(r:Int)(sl:AV)(lo:ae)(b:Nat->Option ae)(j:Nat):AS:=aj (oW o0 o1 o2 r sl lo<|jsL b j)<|277+j
abbrev Gh(i:Int)(cs:List AV)(m:Nat):Tr AV:=aP [(2,(.ptr<|some (273,0))),(3,(i6 i)),(4,(.ptr<|some (m,0))),(9,(.func (.func 104) [] [(.ptr<|some (274,0))])),(10,(i6 i)),(11,(.agg cs))]
section
variable {o0 o1 o2:ae} {sl:AV} {f:Fr} {i:Int} {b:Nat->Option ae} {B:aJ} {R:AV->AS->Prop} {fs:List Fr} {n c:Nat} {d:Nat->AV}
abbrev sA(o0 o1 o2:ae)(sl:AV)(b:Nat->Option ae)(j:Nat):AS:=sJ o0 o1 o2 0 sl (iq .ready none) b j
abbrev sE(o0 o1 o2:ae)(sl:AV)(f:Fr)(i:Int)(b:Nat->Option ae)(t:Bool)(j:Nat):AS:=sJ o0 o1 o2 (rI t i) sl (Sl t) (uK b j<|bX<|aS {f with aU:=t})<|j+1
abbrev Rg(o0 o1 o2:ae)(sl:AV)(f:Fr)(i:Int)(b:Nat->Option ae)(t:Bool)(j:Nat):Prop:=bg pg (sp []) FU 5 (.round 276) [.int .i64 i,.agg<|aS {f with aU:=t}] (sA o0 o1 o2 sl b j)= .ok (.bool !t) (sE o0 o1 o2 sl f i b t j)
theorem Mj(t:Bool)(j:Nat)(k1:getLoop 276 (sA o0 o1 o2 sl b j)= .ok (.loop .ready none 62 (aP pC) 15 [10,11] zr lT 275) (sA o0 o1 o2 sl b j):=by as_aux_lemma=>kernel_rfl)(k2:((v7 (bX Sk) 0 (aS {f with aU:=t})=bX (aS {f with aU:=t}))/\((⟨62,Gh i (aS {f with aU:=t})<|277+j,15,[.beginRound,.code lT],[],none⟩:AF)=⟨62,Gh i (aS {f with aU:=t})<|277+j,15,[.beginRound,.code lT],[],none⟩/\sJ o0 o1 o2 0 sl (iq .ready none) (uK b j<|bX<|aS {f with aU:=t}) (j+1)=sJ o0 o1 o2 0 sl (iq .ready none) (uK b j<|bX<|aS {f with aU:=t}) (j+1)))=
 wp (fp []) 900 4 (.fr 62 15 [.code zr,.beginRound,.code lT] (je [10,11] [.int .i64 i,.agg<|aS {f with aU:=t}]<|aP pC)<|sA o0 o1 o2 sl b j) (.st 2<|.rg<|.go 1<|.sQ (.cells 13 (Tr.fill (aS {f with aU:=t}) 0 .nil) [])<|.en<|.cut .no) [] (fun _ _ _=>False) (fun fr s1 _=>fr=⟨62,Gh i (aS {f with aU:=t})<|277+j,15,[.beginRound,.code lT],[],none⟩/\s1=sJ o0 o1 o2 0 sl (iq .ready none) (uK b j<|bX<|aS {f with aU:=t}) (j+1)):=by as_aux_lemma=>kernel_rfl)(k3:eg pg (bg pg (sp []) FU 4) 1 ⟨62,Gh i (aS {f with aU:=t})<|277+j,15,[.beginRound,.code lT],[],some 276⟩ (sJ o0 o1 o2 0 sl (iq .ready none) (uK b j<|bX<|aS {f with aU:=t})<|j+1)= .ok (.go ⟨62,Gh i (aS {f with aU:=t})<|277+j,15,[.code lT],[],some 276⟩) (sJ o0 o1 o2 0 sl (iq .busy none) (uK b j<|bX<|aS {f with aU:=t})<|j+1):=by as_aux_lemma=>kernel_rfl)(k4:((none:Option Nat)=none/\([]:List Nat)=[]/\(some (.bool !t,sE o0 o1 o2 sl f i b t j):Option<|AV×AS)=some (.bool !t,sE o0 o1 o2 sl f i b t j))=
 wp (fp []) 900 4 (.fr 62 15 [.code lT] (Gh i (aS {f with aU:=t})<|277+j)<|sJ o0 o1 o2 0 sl (iq .busy none) (uK b j<|bX<|aS {f with aU:=t})<|j+1) (.st 6<|.cut .no) [] (fun _ _ _=>False) (fun fr s1 _=>fr.round=none/\fr.defers=[]/\zN pg (bg pg (sp []) FU 4) 276 fr s1=some (.bool !t,sE o0 o1 o2 sl f i b t j)):=by as_aux_lemma=>kernel_rfl):Rg o0 o1 o2 sl f i b t j:=
 DN k1 rfl (zG (E:=fp []) eH rfl (fun fr s p h=>by obtain⟨rfl,rfl⟩:=h;exact⟨rfl,rfl,Chunk.ev 1 _ _ _ _ k3<|zG (E:=fp []) eH rfl (fun fr s p h=>DM h.1 h.2.1 h.2.2) 900 _ (IM _ _) k4⟩) 900 _ ⟨YM _,rfl,rfl⟩ k2)
theorem OX(t:Bool)(hj:j<6):Rg o0 o1 o2 sl f i b t j:=by rcases(by omega:j=0\/j=1\/j=2\/j=3\/j=4\/j=5) with rfl|rfl|rfl|rfl|rfl|rfl<;>cases t<;>exact Mj _ _
def nD:Nat->Nat
 |0=>3
 |_=>15
abbrev fJ(j:Nat)(i:Int)(d:Nat->AV):AF:=⟨104,aP<|[(0,(.yield 276)),(1,(.ptr<|some (274,0))),(3,(.int .i64 i))]++(List.range<|nD j).map fun k=>(4+k,d k),19,[.code<|aW pg 104 [1,0,0],.inLoop<|aW pg 104 [1,0,0],.inBlock 0],[],none⟩
abbrev fW(B:aJ)(R:AV->AS->Prop)(fr:AF)(s:AS):Prop:=mP (fp []) 5 (aA Tryz.f104) (RW B R) fr s
theorem Du{B:aJ}{R:AV->AS->Prop}{f:Nat}{FR:AF}{S1:AS}(H:fW B R FR S1)(p:Pl)(x:T)(h:T=wp (fp []) 900 5 (.fr f nt K t s) p (aA Tryz.f104) (fun v s _=>RW B R v s) (fun fr s1 _=>fr=FR/\s1=S1):=by as_aux_lemma=>kernel_rfl):fW B R ⟨f,t,nt,K,[],none⟩ s:=v8 (C:=fun fr s1 _=>fr=FR/\s1=S1) eH rfl (fun fr s1 p h=>by obtain⟨rfl,rfl⟩:=h;exact H) 900 p x h
theorem MT{B:aJ}{R:AV->AS->Prop}{f:Nat}(p:Pl)(x:T)(h:T=wp (fp []) 900 5 (.fr f nt K t s) p (aA Tryz.f104) (fun v s _=>RW B R v s) (fun _ _ _=>False):=by as_aux_lemma=>kernel_rfl):fW B R ⟨f,t,nt,K,[],none⟩ s:=v8 (C:=fun _ _ _=>False) eH rfl (fun _ _ _ h=>h.elim) 900 p x h
abbrev iP(n c:Nat):AV:=.slice (some (272,0)) n<|.ar c 13
theorem ZW(t:Bool)(mc:Mt [] B){v:Int}(hR:∀s2:AS,s2.h.get 270=some o0->s2.h.get 271=some o1->s2.h.get 272=some (aI aS fs)->R (.int .i64 v) s2)(p:Option Code)(k1:lf 276 (sJ o0 o1 (aI aS fs) (rI t i) (iP n c) (Sl t) b j)= .ok p (sJ o0 o1 (aI aS fs) (rI t i) (iP n c) (iq .exhausted p) b j):=by as_aux_lemma=>kernel_rfl)(k2:QE pg (bg pg (sp []) FU 6) (aA Tryz.f62) 8 275 ⟨62,aP pC,15,andThen p KI,[],none⟩ (sJ o0 o1 (aI aS fs) (rI t i) (iP n c) (iq .exhausted p) b j)=some (.int .i64 v,some o0,some o1,some<|aI aS fs):=by as_aux_lemma=>kernel_rfl):RW B R (.tuple [])<|sJ o0 o1 (aI aS fs) (rI t i) (iP n c) (Sl t) b j:=⟨rfl,p,_,k1,(ac3 (l:=275) (k:=8) (fr:=⟨62,aP pC,15,andThen p KI,[],none⟩) (v:=.int .i64 v) (o0:=o0) (o1:=o1) (o2:=aI aS fs) bT mc.2.2.1 mc.2.2.2 rfl rfl k2 hR).2.2 (by show 273<=277+j;omega)⟩
theorem MU(hi:i<0)(hL:RW B R (.tuple [])<|sA o0 o1 (aI aS fs) (iP n c) b j)(k:((i>=0->False)/\(¬i>=0->RW B R (.tuple []) (sA o0 o1 (aI aS fs) (iP n c) b j)))=wp (fp []) 900 5 (.fr 104 19 (fJ j i d).todo (fJ j i d).tmps<|sA o0 o1 (aI aS fs) (iP n c) b j) (.st 2<|.rg<|.go 1<|.fk (.no)<|.en<|.rt 3 .no) (aA Tryz.f104) (fun v s _=>RW B R v s) (fun _ _ _=>False):=by as_aux_lemma=>kernel_rfl):fW B R (fJ j i d)<|sA o0 o1 (aI aS fs) (iP n c) b j:=MT _ ⟨fun h=>by omega,fun _=>hL⟩ k
abbrev Sm(o0 o1:ae)(fs:List Fr)(n c:Nat)(i:Int)(b:Nat->Option ae)(t:Bool)(j:Nat)(P:Prop):Prop:=((i>=0->((0:Int)<=i/\i<(n:Int)/\(cellsOf (some<|aI aS fs) (i.toNat*13+0) 13=some (((aS {(aB fs i) with aU:=t}).drop 0).take 13)/\(Rg o0 o1 (aI aS fs) (iP n c) (aB fs i) i b t j/\P))))/\(¬i>=0->False))
theorem ZX{t:Bool}{P:Prop}(hj:j<6)(hi:0<=i/\i<n/\n<=fs.length)(hR:fs.length*13<=top)(cZ:(aB fs i).aU=t)(x:P):Sm o0 o1 fs n c i b t j P:=⟨fun _=>⟨hi.1,hi.2.1,nk jx hR (ajn (l:=fs) (z:=i) cZ hi.1 ah) 0 13 rfl,OX t hj,x⟩,fun h=>h hi.1⟩
theorem MV(hj:j<6)(hi:0<=i/\i<n/\n<=fs.length)(hR:fs.length*13<=top)(cZ:(aB fs i).aU=true)(hL:RW B R (.tuple [])<|sE o0 o1 (aI aS fs) (iP n c) (aB fs i) i b true j)(k:Sm o0 o1 fs n c i b true j (RW B R (.tuple [])<|sE o0 o1 (aI aS fs) (iP n c) (aB fs i) i b true j)=wp (fp []) 900 5 (.fr 104 19 (fJ j i d).todo (fJ j i d).tmps<|sA o0 o1 (aI aS fs) (iP n c) b j) (.st 2<|.rg<|.go 1<|.fk (.en<|.st 5<|.rg<|.go 4<|.ix<|.ld (aS {(aB fs i) with aU:=true})<|.cy (.bool false) (sE o0 o1 (aI aS fs) (iP n c) (aB fs i) i b true j)<|.go 1<|.en<|.rt 2 .no)<|.no) (aA Tryz.f104) (fun v s _=>RW B R v s) (fun _ _ _=>False):=by as_aux_lemma=>kernel_rfl):fW B R (fJ j i d)<|sA o0 o1 (aI aS fs) (iP n c) b j:=MT _ (ZX hj hi hR cZ hL) k
def dN(d:Nat->AV)(fs:List Fr)(n c:Nat)(i:Int)(k:Nat):AV:=[d 0,d 1,d 2,.int .i64 i,.bool true,.int .i64 i,.int .i64<|i - 1,.yield 276,.int .i64 i,iP n c,.int .i64 i,.ptr<|some (272,i.toNat*13+0),.agg<|aS {(aB fs i) with aU:=false},.bool true,.bool false].getD k<|.bool false
theorem MW(hj:j<6)(hi:0<=i/\i<n/\n<=fs.length)(hf:fs.length<=1000000)(hR:fs.length*13<=top)(cZ:(aB fs i).aU=false)(H:fW B R (fJ (j+1) (i - 1)<|dN d fs n c i)<|sE o0 o1 (aI aS fs) (iP n c) (aB fs i) i b false j)(k:Sm o0 o1 fs n c i b false j ((AV.int .i64 (IntKind.wrap .i64<|i - 1)= .int .i64 (i - 1))/\(fJ (j+1) (i - 1) (dN d fs n c i)=fJ (j+1) (i - 1) (dN d fs n c i)/\sE o0 o1 (aI aS fs) (iP n c) (aB fs i) i b false j=sE o0 o1 (aI aS fs) (iP n c) (aB fs i) i b false j))=wp (fp []) 900 5 (.fr 104 19 (fJ j i d).todo (fJ j i d).tmps<|sA o0 o1 (aI aS fs) (iP n c) b j) (.st 2<|.rg<|.go 1<|.fk (.en<|.st 5<|.rg<|.go 4<|.ix<|.ld (aS {(aB fs i) with aU:=false})<|.cy (.bool true) (sE o0 o1 (aI aS fs) (iP n c) (aB fs i) i b false j)<|.go 1<|.en<|.st 3<|.rg<|.go 1<|.vl (i6<|i - 1)<|.go 1<|.en<|.st 1<|.cut .no)<|.no) (aA Tryz.f104) (fun v s _=>RW B R v s) (fun fr s1 _=>fr=fJ (j+1) (i - 1) (dN d fs n c i)/\s1=sE o0 o1 (aI aS fs) (iP n c) (aB fs i) i b false j):=by as_aux_lemma=>kernel_rfl):fW B R (fJ j i d)<|sA o0 o1 (aI aS fs) (iP n c) b j:=Du H _ (ZX hj hi hR cZ ⟨wI _,rfl,rfl⟩) k
theorem BQ(mc:Mt [] B)(hl:n<=fs.length)(hf:fs.length<=1000000):∀(m j:Nat) (b:Nat->Option ae) (d:Nat->AV),j+m<=6->m<=n->(∀s2:AS,s2.h.get 270=some o0->s2.h.get 271=some o1->s2.h.get 272=some (aI aS fs)->R (i6<|kx fs m) s2)->fW B R (fJ j ((m:Int) - 1) d) (sA o0 o1 (aI aS fs) (iP n c) b j)
 |0,j,b,d,h6,_,hQ=>by rcases(by omega:j=0\/j=1\/j=2\/j=3\/j=4\/j=5\/j=6) with rfl|rfl|rfl|rfl|rfl|rfl|rfl<;>exact MU ah<|ZW (i:=0) false mc hQ none
 |m+1,j,b,d,h6,hn,hQ=>by
  have hR:fs.length*13<=top:=by have:top=549755813888:=rfl;omega
  have e:(((m+1:Nat):Int) - 1)=(m:Int):=by omega
  rw[e];cases cZ:(aB fs (m:Int)).aU with
  |true=>rw[show kx fs (m+1)=(m:Int) from if_pos cZ] at hQ;rcases(by omega:j=0\/j=1\/j=2\/j=3\/j=4\/j=5) with rfl|rfl|rfl|rfl|rfl|rfl<;>exact MV ah ⟨by omega,by omega,hl⟩ hR cZ<|ZW true mc hQ<|some .ret
  |false=>rw[show kx fs (m+1)=kx fs m from if_neg (by rw[cZ];intro q;cases q)] at hQ;have ih:=fun b d=>BQ mc hl hf m (j+1) b d ah ah hQ;rcases(by omega:j=0\/j=1\/j=2\/j=3\/j=4\/j=5) with rfl|rfl|rfl|rfl|rfl|rfl<;>exact MW ah ⟨by omega,by omega,hl⟩ hf hR cZ<|ih _ _
def d0(n c k:Nat):AV:=[iP n c,.int .i64 (n:Int),.int .i64<|(n:Int) - 1].getD k<|.bool false
theorem akL(hn:n<=1000000)(H:fW B R (fJ 0 ((n:Int) - 1)<|d0 n c)<|sA o0 o1 (aI aS fs) (iP n c) b 0):fW B R (sF 104 Tryz.f104 [.yield 276,.ptr<|some (274,0)])<|sA o0 o1 (aI aS fs) (iP n c) b 0:=Du H (.st 1<|.rg<|.go 2<|.vl (i6<|(n:Int) - 1)<|.go 1<|.en<|.st 2<|.cut .no)<|ai (wI<|(n:Int) - 1)<|ai (rX<|fJ 0 ((n:Int) - 1)<|d0 n c)<|rX<|sA o0 o1 (aI aS fs) (iP n c) b 0
end
theorem yq:aW pg 62 [1,0,1,0]= .rangeFunc (.tmp 9) #[10,11] zr lT:=by kernel_rfl
abbrev ZY(a:MN)(n c:Nat):ae:=.cells 13 (Tr.fill (a.row (.ptr<|some (271,0)) (iP n c)<|i6 a.steps) 0 .nil) []
abbrev IY(a:MN)(n c:Nat)(u:AV)(fs:List Fr):List<|Nat×Option ae:=aq++[(270,some<|ZY a n c),(271,some<|.tok 3 u),(272,some<|aI aS fs),(273,some<|.cells 1 (Tr.fill [.int .i64 0] 0 .nil) []),(274,some<|.cells 1 (Tr.fill [iP n c] 0 .nil) [])]
abbrev pF:AF:=⟨62,aP pC,15,.code (aW pg 62 [1,0,1,0])::KI,[],none⟩
abbrev jw(a:MN)(n c:Nat)(u:AV)(fs:List Fr):VS:=⟨⟨a.pre,n,.ar c 13,[.int .i64 a.steps]⟩,u,(fs.map aS).flatten⟩
theorem ahB{B:aJ}{a:MN}{n c:Nat}{u:AV}{fs:List Fr}(mc:Mt [] B)(ZZ:n<=6)(hl:n<=fs.length)(hf:fs.length<=1000000):av pg B 273 (ij 270 3 pg (aA Tryz.f62) (i6<|kx fs n)<|jw a n c u fs) (sF 62 Tryz.f62 [.ptr<|some (270,0)])<|aj (aq++bO (dP 270 3<|jw a n c u fs)) 273:=by refine x8 (E:=rF []) (C:=fun fr s1 _=>fr=pF/\s1=aj (IY a n c u fs) 275) eH rfl bT mc.2.2.1 mc.2.2.2 Ox rfl mc.1 (fun fr s1 p hC=>?_) 900 (.st 4<|.rg<|.go 4<|.il<|.rt 5<|.en<|.st 1<|.ls pC (IY a n c u fs) 275 .no)<|ai (mS pC)<|ai (mO<|IY a n c u fs)<|ai (rX pF)<|rX<|aj (IY a n c u fs) 275;obtain⟨rfl,rfl⟩:=hC;unfold pF;rw[yq];obtain⟨v,s2,h1,rfl,p,s4,h5,H⟩:=mP.call (E:=(fp [])) (n:=5) Tryz.func104 (xF Tryz.func104 cC)<|akL (b:=fun _=>none) (c:=c) ah<|BQ (o0:=ZY a n c) (o1:=.tok 3 u) (R:=fun(y1:AV) (s':AS)=>y1= .int .i64 (kx fs n)/\∀m o,(m,o)∈dP 270 3 (jw a n c u fs)->s'.h.get m=some o) mc hl hf n 0 _ _ ah (Nat.le_refl n) fun s2 a b d=>nX rfl a b d;exact av.chunk bT mc.2.2.1 mc.2.2.2 (GR (gv:=.func (.func 104) [] [.ptr<|some (274,0)]) (s1:=aj (IY a n c u fs++[(275,some .defs)]) 276) cC cC cC h1 h5) (by show 273<=275;omega) H
def rV(st:VS)(rest:List AV)(v:AV):Prop:=∃(a:MN) (n c:Nat) (fs:List Fr),tp st a/\rest=[]/\st.R.len=n/\st.R.cap= .ar c 13/\st.row=(fs.map aS).flatten/\iy fs/\n<=6/\n<=fs.length/\fs.length<=1000000/\v= .int .i64 (kx fs n)
theorem rV.bR(st:VS)(rest:List AV)(v v':AV)(h:rV st rest v)(h':rV st rest v'):v=v':=by obtain⟨a,n,c,fs,_,_,rfl,_,e4,f1,_,_,_,rfl⟩:=h;obtain⟨a1,m,d,gs,_,_,rfl,_,g4,f2,_,_,_,rfl⟩:=h';rw[e4] at g4;rw[GU _ _ f1 f2 g4]
def mz:FuncId×KE:=(62,.raw<|nA 10 3<|vR rV)
theorem NL(hP:bB pg){L:bU}(h:aV L):aV<|mz::L:=by refine GF hP gL yP ir gZ kG ki h cO Tryz.func62 (body:=aW pg 62 []) aY aY fun st rest y e _=>?_;obtain⟨a,n,c,fs,⟨h1,h2,h3⟩,rfl,e1,e2,e4,_,ZZ,hl,hf,rfl⟩:=Hk e;refine⟨aL.1 aY,fun B mc=>?_⟩;obtain⟨⟨pre,len,cap,post⟩,u,row⟩:=st;simp only at h1 h2 e1 e2 e4;subst h1;subst h2;subst e1;subst e2;subst e4;exact ahB mc ZZ hl hf
end
end kK
end
section
open Go Go.Rn Go.RowKit Go.Proofs
namespace lr
open cr fF cS dL dj dA gF fT ia ig iv iw iG iT iU jH jN kK iF
variable {fs:List Fr} {u:AV} {to aZ nn n2 kind:Int} {c N4 N3 N2 N L4 L3 L2 L:Nat} {a:MN} {B:aJ}
noncomputable section
def E3(o:Option St):AV:=match o with
 |none=>.tuple [.agg [.int .u8 0,.int .i64 0,.int .u8 0,.int .i64 0,.slice none 0<|.known 0,.int .u8 0,.int .i64 0,.slice none 0<|.known 0,.slice none 0<|.known 0,.slice none 0<|.known 0],.bool false]
 |some s=>.tuple [.agg<|a9 s,.bool true]
def AJ(fs:List Fr)(n:Nat):Fr:=aB fs<|(n:Int) - 1
def si(fs:List Fr)(n:Nat)(o:Option St):Prop:=(n=0/\o=none)\/(1<=n/\0<=(AJ fs n).au/\∃s,(AJ fs n).block[(AJ fs n).au.toNat]? =some s/\o=some s)
theorem si.bR{n:Nat}{o o':Option St}(h:si fs n o)(h':si fs n o'):o=o':=by
 rcases h with⟨a,b⟩|⟨a,_,s,b,e⟩<;>rcases h' with⟨a',b'⟩|⟨a',_,s',b',e'⟩
 ·rw[b,b']
 ·omega
 ·omega
 ·rw[b] at b';injection b' with b';rw[e,e',b']
noncomputable abbrev EA(a:MN)(n c:Nat)(u:AV)(fs:List Fr):VS:=(⟨⟨a.pre,n,(.ar c 13),[.int .i64 a.steps]⟩,u,(fs.map aS).flatten⟩:VS)
noncomputable abbrev EB(kind to op nn:Int)(N L:Nat)(aZ n2:Int)(N2 L2 N3 L3 N4 L4:Nat):List AV:=[(u8<|kind),(i6 to),(u8<|op),(i6 nn),(.ab N 0 L),(u8<|aZ),(i6 n2),(.ab N2 0 L2),(.ab N3 0 L3),(.ab N4 0 L4)]
theorem akM{n:Nat}{op:Int}(mc:Mt [] B)(h1:1<=n)(hn:n<=fs.length)(hf:fs.length<=1000000)(hR:fs.length*13<=top)(ay:0<=(aB fs<|(n:Int) - 1).au/\(aB fs<|(n:Int) - 1).au<(((aB fs<|(n:Int) - 1).block.length:Nat):Int))(hx:cx FU (nm ((aB fs<|(n:Int) - 1).block.map a9).flatten) (0+(aB fs<|(n:Int) - 1).au.toNat*10+0) 10=some (EB kind to op nn N L aZ n2 N2 L2 N3 L3 N4 L4)):av pg B 273 (ij 270 3 pg (aA Tryz.f60) (.tuple [.agg<|EB kind to op nn N L aZ n2 N2 L2 N3 L3 N4 L4,.bool true])<|EA a n c u fs) (sF 60 Tryz.f60 [.ptr<|some (270,0)])<|aj (aq++bO (dP 270 3<|EA a n c u fs)) 273:=l6 (E:=rF []) eH rfl bT mc.2.2.1 mc.2.2.2 900 (.st 4<|.rg<|.go 5<|.fk (.no)<|.en<|.st 3<|.rg<|.go 9<|.vl (i6<|(n:Int) - 1)<|.ix<|.ld (aS<|aB fs<|(n:Int) - 1)<|.go 1<|.sQ (.cells 13 (Tr.fill (aS<|aB fs<|(n:Int) - 1) 0 .nil) [])<|.en<|.st 1<|.rg<|.go 4<|.eF<|.eG (EB kind to op nn N L aZ n2 N2 L2 N3 L3 N4 L4)<|.go 2<|.en<|.rt 1 .no)<|ax ((n:Int)=0) eM fun _=>(ai (wI<|(n:Int) - 1)<|eZ ((n:Int) - 1) (n:Int)<|ai (nk jx hR (qT (l:=fs) (z:=((n:Int) - 1)) ah ah) 0 13 rfl)<|ai (YM<|aB fs<|(n:Int) - 1)<|eZ ((aB fs<|(n:Int) - 1).au) (((aB fs<|(n:Int) - 1).block.length:Nat):Int)<|ai (show top<=nm ((aB fs<|(n:Int) - 1).block.map a9).flatten from cU _)<|ai hx<|nX (st:=(EA a n c u fs)) (s:=aj (aq++[(270,some<|.cells 13 (Tr.fill (a.row (.ptr<|some (271,0)) (.slice (some (272,0)) (n)<|.ar c 13)<|i6 a.steps) 0 .nil) []),(271,(some<|.tok 3 u)),(272,(some<|aI aS fs)),(273,some<|.cells 10 (Tr.fill (EB kind to op nn N L aZ n2 N2 L2 N3 L3 N4 L4) 0 .nil) []),(274,some<|.cells 13 (Tr.fill (aS<|aB fs<|(n:Int) - 1) 0 .nil) [])]) 275) (show((.tuple [(.agg<|EB kind to op nn N L aZ n2 N2 L2 N3 L3 N4 L4),(.bool true)]):AV)=(.tuple [.agg<|EB kind to op nn N L aZ n2 N2 L2 N3 L3 N4 L4,.bool true]) from rfl) cn cn cn)
noncomputable abbrev W7:AV:=.tuple [.agg [.int .u8 0,.int .i64 0,.int .u8 0,.int .i64 0,.slice none 0<|.known 0,.int .u8 0,.int .i64 0,.slice none 0<|.known 0,.slice none 0<|.known 0,.slice none 0<|.known 0],.bool false]
theorem akN{n:Nat}{N L N2 L2 N3 L3 N4 L4:Nat}{kind to op nn aZ n2:Int}(mc:Mt [] B)(h1:n=0):av pg B 273 (ij 270 3 pg (aA Tryz.f60) W7<|EA a n c u fs) (sF 60 Tryz.f60 [.ptr<|some (270,0)])<|aj (aq++bO (dP 270 3<|EA a n c u fs)) 273:=l6 (E:=rF []) eH rfl bT mc.2.2.1 mc.2.2.2 900 (.st 4<|.rg<|.go 5<|.fk (.en<|.rt 4 .no)<|.no)<|ax ((n:Int)=0) (fun _=>(nX (st:=(EA a n c u fs)) (s:=aj (aq++[(270,some<|.cells 13 (Tr.fill (a.row (.ptr<|some (271,0)) (.slice (some (272,0)) (n)<|.ar c 13)<|i6 a.steps) 0 .nil) []),(271,(some<|.tok 3 u)),(272,(some<|aI aS fs)),(273,some<|.cells 10 (Tr.fill [(u8<|.ofNat 0),i0,(u8<|.ofNat 0),i0,(.slice none 0<|.known 0),(u8<|.ofNat 0),i0,(.slice none 0<|.known 0),(.slice none 0<|.known 0),(.slice none 0<|.known 0)] 0 .nil) [])]) 274) (show((.tuple [(.agg [(u8<|.ofNat 0),i0,(u8<|.ofNat 0),i0,(.slice none 0<|.known 0),(u8<|.ofNat 0),i0,(.slice none 0<|.known 0),(.slice none 0<|.known 0),(.slice none 0<|.known 0)]),(.bool false)]):AV)=W7 from rfl) cn cn cn)) eM
def jj(st:VS)(rest:List AV)(v:AV):Prop:=∃(a:MN) (n c:Nat) (fs:List Fr) (o:Option St),tp st a/\rest=[]/\st.R.len=n/\st.R.cap= .ar c 13/\st.row=(fs.map aS).flatten/\iy fs/\n<=fs.length/\fs.length<=1000000/\si fs n o/\v=E3 o
theorem jj.bR(st:VS)(rest:List AV)(v v':AV)(h:jj st rest v)(h':jj st rest v'):v=v':=by obtain⟨a,n,c,fs,o,_,_,rfl,_,e4,f1,_,_,s1,rfl⟩:=h;obtain⟨a1,m,d,gs,o',_,_,rfl,_,g4,f2,_,_,s2,rfl⟩:=h';rw[e4] at g4;have e:=GU _ _ f1 f2 g4;subst e;rw[s1.bR s2]
def mF:FuncId×KE:=(60,.raw<|nA 10 3<|vR jj)
theorem OY(hP:bB pg){L:bU}(h:aV L):aV<|mF::L:=by
 refine GF hP gL yP ir gZ kG ki h cO Tryz.func60 (body:=aW pg 60 []) aY aY fun st rest y e _=>?_;obtain⟨a,n,c,fs,o,⟨h1,h2,h3⟩,rfl,e1,e2,e4,_,hl,hf,hS,rfl⟩:=Hk e;refine⟨aL.1 aY,fun B mc=>?_⟩;obtain⟨⟨pre,len,cap,post⟩,u,row⟩:=st;simp only at h1 h2 e1 e2 e4;subst h1;subst h2;subst e1;subst e2;subst e4;rcases hS with⟨q,rfl⟩|⟨q,q0,s,q1,rfl⟩
 ·exact akN (N:=0) (L:=0) (N2:=0) (L2:=0) (N3:=0) (L3:=0) (N4:=0) (L4:=0) (kind:=0) (to:=0) (op:=0) (nn:=0) (aZ:=0) (n2:=0) mc q
 ·obtain⟨kind,to,⟨oa,na,la⟩,⟨ob,nb,lb⟩,bd,el⟩:=s;have cF:=(List.getElem?_eq_some_iff.1 q1).1;have hx:=ya lD q1 0 10<|Nat.le_refl _;rw[show(AJ fs len).au.toNat*10+0=0+(AJ fs len).au.toNat*10+0 by omega,show((a9<|.mk kind to (.mk oa na la) (.mk ob nb lb) bd el).drop 0).take 10=a9 (.mk kind to (.mk oa na la) (.mk ob nb lb) bd el) by rw[List.drop_zero];exact List.take_of_length_le (by rw[lD.len];omega)] at hx;rw[show E3 (some<|.mk kind to (.mk oa na la) (.mk ob nb lb) bd el)= .tuple [.agg<|a9<|.mk kind to (.mk oa na la) (.mk ob nb lb) bd el,.bool true] from rfl];rw[a9,aM,aM] at hx ⊢;exact akM mc q hl hf (by have:top=549755813888:=rfl;omega) ⟨q0,by unfold AJ at cF q0;omega⟩ hx
end
end lr
end
section
open Go Go.Rn Go.RowKit Go.Proofs
namespace mg
open cr fF cS dL dj dA gF fT ia ig iv iw iG iT iU jH jN kK lr iF
variable {wi to aZ nn n2 kind gx:Int} {u Y:AV} {fs:List Fr} {c N4 N3 N2 N L4 L3 L2 L:Nat} {a:MN} {B:aJ}
noncomputable abbrev fj(a:MN)(n c:Nat)(u:AV)(fs:List Fr):VS:=(⟨⟨a.pre,n,(.ar c 13),[.int .i64 a.steps]⟩,u,(fs.map aS).flatten⟩:VS)
noncomputable abbrev K3:List AV:=[(u8<|.ofNat 0),i0,(u8<|.ofNat 0),i0,(.slice none 0<|.known 0),(u8<|.ofNat 0),i0,(.slice none 0<|.known 0),(.slice none 0<|.known 0),(.slice none 0<|.known 0)]
noncomputable abbrev Kz(n c:Nat):AV:=.slice (some (272,0)) (n)<|.ar c 13
theorem ajo{n:Nat}{N L N2 L2 N3 L3 N4 L4:Nat}{kind to op nn aZ n2:Int}{z v wi gx:Int}(mc:Mt [mF,iN,jF,lk,mz] B)(hO:bQ 10 (fj a n c u fs)=true)(hs:vR jj (fj a n c u fs) []=some (.tuple [(.agg K3),(.bool false)]))(E0:(.agg [.int .u8 3,.int .i64 0,.int .i64 0]:AV)=Y):av pg B 273 (ij 270 3 pg (aA Tryz.f38) Y<|fj a n c u fs) (sF 38 Tryz.f38 [.ptr<|some (270,0)])<|aj (aq++bO (dP 270 3<|fj a n c u fs)) 273:=l6 (E:=rF [mF,iN,jF,lk,mz]) eH rfl bT mc.2.2.1 mc.2.2.2 900 (.st 8<|.rg<|.go 1<|.cg (.tuple [(.agg K3),(.bool false)]) (vG 272) (vQ 272<|fj a n c u fs)<|.go 6<|.en<|.rt 8 .no)<|ko [mF,iN,jF,lk,mz] 60 272 (vR jj) [] (fj a n c u fs) (.tuple [(.agg K3),(.bool false)]) hO hs rfl cn<|nX (st:=(fj a n c u fs)) (s:=aj (aq++[(270,some<|.cells 13 (Tr.fill (a.row (.ptr<|some (271,0)) (Kz n c)<|i6 a.steps) 0 .nil) []),(271,(some<|.tok 3 u)),(272,(some<|aI aS fs)),(273,some<|.cells 3 (Tr.fill [(u8<|.ofNat 3),i0,i0] 0 .nil) []),(274,some<|.cells 10 (Tr.fill K3 0 .nil) [])]) 275) (show(.agg [(u8<|.ofNat 3),i0,i0])=Y from E0) cn cn cn
noncomputable abbrev agU(a:MN)(n c:Nat)(u:AV)(fs:List Fr)(kind to op nn:Int)(N L:Nat)(aZ n2:Int)(N2 L2 N3 L3 N4 L4:Nat):List<|Nat×Option ae:=aq++[(270,some<|.cells 13 (Tr.fill (a.row (.ptr<|some (271,0)) (.slice (some (272,0)) (n)<|.ar c 13)<|i6 a.steps) 0 .nil) []),(271,(some<|.tok 3 u)),(272,(some<|aI aS fs)),(273,some<|.cells 3 (Tr.fill [(u8<|.ofNat 1),i0,i0] 0 .nil) []),(274,some<|.cells 10 (Tr.fill [(u8<|kind),(i6 to),(u8<|op),(i6 nn),(.ab N 0 L),(u8<|aZ),(i6 n2),(.ab N2 0 L2),(.ab N3 0 L3),(.ab N4 0 L4)] 0 .nil) [])]
noncomputable abbrev ua(kind to op nn:Int)(N L:Nat)(aZ n2:Int)(N2 L2 N3 L3 N4 L4:Nat):List AV:=[(u8<|kind),(i6 to),(u8<|op),(i6 nn),(.ab N 0 L),(u8<|aZ),(i6 n2),(.ab N2 0 L2),(.ab N3 0 L3),(.ab N4 0 L4)]
noncomputable abbrev yb(op nn:Int)(N L:Nat):List AV:=[(.agg [(u8<|op),(i6 nn),(.ab N 0 L)])]
theorem ajp{n:Nat}{op:Int}{z v:Int}(mc:Mt [mF,iN,jF,lk,mz] B)(hO:bQ 10 (fj a n c u fs)=true)(hs:vR jj (fj a n c u fs) []=some (.tuple [(.agg<|ua kind to op nn N L aZ n2 N2 L2 N3 L3 N4 L4),(.bool true)]))(hY:((.tuple [(.agg<|ua kind to op nn N L aZ n2 N2 L2 N3 L3 N4 L4),(.bool true)]):AV).hi=true)(hA:((yb op nn N L):List AV).all AV.hi=true)(hz:vR jG (fj a n c u fs) (yb op nn N L)=some (.int .i64 z))(hv:vR nY (fj a n c u fs) (yb op nn N L)=some (.int .i64 v))(hw:vR rV (fj a n c u fs) []=some (.int .i64 wi))(hg:gQ (eW cv Cu) u [.int .i64 v]=some (.tuple [.int .i64 gx,.bool true],u))(E8:kind=8->(.agg [.int .u8 3,.int .i64 0,.int .i64 z]:AV)=Y)(E6:kind=6->wi<0->(.agg [.int .u8 4,.int .i64 0,.int .i64 0]:AV)=Y)(EI:kind≠8->(kind=6->0<=wi)->(kind=kind)->(.agg [.int .u8 1,.int .i64 0,.int .i64 0]:AV)=Y):av pg B 273 (ij 270 3 pg (aA Tryz.f38) Y<|fj a n c u fs) (sF 38 Tryz.f38 [.ptr<|some (270,0)])<|aj (aq++bO (dP 270 3<|fj a n c u fs)) 273:=l6 (E:=rF [mF,iN,jF,lk,mz]) eH rfl bT mc.2.2.1 mc.2.2.2 900 (.st 8<|.rg<|.go 1<|.cg (.tuple [(.agg<|ua kind to op nn N L aZ n2 N2 L2 N3 L3 N4 L4),(.bool true)]) (vG 272) (vQ 272<|fj a n c u fs)<|.go 6<|.en<|.st 6<|.rg<|.go 2<|.fk (.go 1<|.en<|.st 2<|.rg<|.go 3<|.cg (i6 z) (vG 272) (vQ 272<|fj a n c u fs)<|.go 2<|.en<|.rt 1 .no)<|.go 1<|.en<|.st 2<|.rg<|.go 2<|.fk (.go 2<|.cg (i6 wi) (vG 272) (vQ 272<|fj a n c u fs)<|.fk (.go 2<|.en<|.rt 4 .no)<|.go 2<|.en<|.st 2<|.rg<|.go 2<|.fk (.go 1<|.en<|.st 2<|.rg<|.go 3<|.cg (i6 v) (vG 272) (vQ 272<|fj a n c u fs)<|.go 1<|.en<|.st 1<|.rg<|.go 5<|.kt (.tuple [(i6 gx),(.bool true)]) u<|.go 5<|.en<|.rt 8 .no)<|.go 1<|.en<|.rt 6 .no)<|.go 6<|.en<|.st 2<|.rg<|.go 2<|.fk (.go 1<|.en<|.st 2<|.rg<|.go 3<|.cg (i6 v) (vG 272) (vQ 272<|fj a n c u fs)<|.go 1<|.en<|.st 1<|.rg<|.go 5<|.kt (.tuple [(i6 gx),(.bool true)]) u<|.go 5<|.en<|.rt 8 .no)<|.go 1<|.en<|.rt 6 .no)<|ko [mF,iN,jF,lk,mz] 60 272 (vR jj) [] (fj a n c u fs) (.tuple [(.agg<|ua kind to op nn N L aZ n2 N2 L2 N3 L3 N4 L4),(.bool true)]) hO hs rfl hY<|ax (kind=8) Yj fun _=>(ax (kind=6) (fun _=>(ko [mF,iN,jF,lk,mz] 62 272 (vR rV) [] (fj a n c u fs) (i6 wi) hO hw rfl cn<|ax (wi<0) Ym Yq)) Yq)
theorem ajq{n:Nat}{op:Int}{z v:Int}(mc:Mt [mF,iN,jF,lk,mz] B)(hO:bQ 10 (fj a n c u fs)=true)(hs:vR jj (fj a n c u fs) []=some (.tuple [(.agg<|ua kind to op nn N L aZ n2 N2 L2 N3 L3 N4 L4),(.bool true)]))(hY:((.tuple [(.agg<|ua kind to op nn N L aZ n2 N2 L2 N3 L3 N4 L4),(.bool true)]):AV).hi=true)(hA:((yb op nn N L):List AV).all AV.hi=true)(hz:vR jG (fj a n c u fs) (yb op nn N L)=some (.int .i64 z))(hv:vR nY (fj a n c u fs) (yb op nn N L)=some (.int .i64 v))(hw:vR rV (fj a n c u fs) []=some (.int .i64 wi))(hg:gQ (eW cv Cu) u [.int .i64 v]=some (.tuple [.int .i64 gx,.bool false],u))(E8:kind=8->(.agg [.int .u8 3,.int .i64 0,.int .i64 z]:AV)=Y)(E6:kind=6->wi<0->(.agg [.int .u8 4,.int .i64 0,.int .i64 0]:AV)=Y)(E2:kind=2->(.agg [.int .u8 2,.int .i64 v,.int .i64 0]:AV)=Y)(EI:kind≠8->(kind=6->0<=wi)->(kind≠2)->(.agg [.int .u8 1,.int .i64 0,.int .i64 0]:AV)=Y):av pg B 273 (ij 270 3 pg (aA Tryz.f38) Y<|fj a n c u fs) (sF 38 Tryz.f38 [.ptr<|some (270,0)])<|aj (aq++bO (dP 270 3<|fj a n c u fs)) 273:=l6 (E:=rF [mF,iN,jF,lk,mz]) eH rfl bT mc.2.2.1 mc.2.2.2 900 (.st 8<|.rg<|.go 1<|.cg (.tuple [(.agg<|ua kind to op nn N L aZ n2 N2 L2 N3 L3 N4 L4),(.bool true)]) (vG 272) (vQ 272<|fj a n c u fs)<|.go 6<|.en<|.st 6<|.rg<|.go 2<|.fk (.go 1<|.en<|.st 2<|.rg<|.go 3<|.cg (i6 z) (vG 272) (vQ 272<|fj a n c u fs)<|.go 2<|.en<|.rt 1 .no)<|.go 1<|.en<|.st 2<|.rg<|.go 2<|.fk (.go 2<|.cg (i6 wi) (vG 272) (vQ 272<|fj a n c u fs)<|.fk (.go 2<|.en<|.rt 4 .no)<|.go 2<|.en<|.st 2<|.rg<|.go 2<|.fk (.go 1<|.en<|.st 2<|.rg<|.go 3<|.cg (i6 v) (vG 272) (vQ 272<|fj a n c u fs)<|.go 1<|.en<|.st 1<|.rg<|.go 5<|.kt (.tuple [(i6 gx),(.bool false)]) u<|.go 5<|.en<|.rt 6 .no)<|.go 1<|.en<|.rt 6 .no)<|.go 6<|.en<|.st 2<|.rg<|.go 2<|.fk (.go 1<|.en<|.st 2<|.rg<|.go 3<|.cg (i6 v) (vG 272) (vQ 272<|fj a n c u fs)<|.go 1<|.en<|.st 1<|.rg<|.go 5<|.kt (.tuple [(i6 gx),(.bool false)]) u<|.go 5<|.en<|.rt 6 .no)<|.go 1<|.en<|.rt 6 .no)<|ko [mF,iN,jF,lk,mz] 60 272 (vR jj) [] (fj a n c u fs) (.tuple [(.agg<|ua kind to op nn N L aZ n2 N2 L2 N3 L3 N4 L4),(.bool true)]) hO hs rfl hY<|ax (kind=8) Yj fun _=>(ax (kind=6) (fun _=>(ko [mF,iN,jF,lk,mz] 62 272 (vR rV) [] (fj a n c u fs) (i6 wi) hO hw rfl cn<|ax (wi<0) Ym fun _=>(ax (kind=2) Yi fun _=>MC))) fun _=>(ax (kind=2) Yi fun _=>MC))
end mg
end
section
open Go Go.Rn Go.RowKit Go.Proofs
namespace jU
open cr fF cS dL dj dA gF fT ia ig iv iw iG iT iU jH jN kK lr mg iF
variable {to kind i:Int} {el bd:List St} {eb ea:Ex} {n':Nat} {da:List Fr} {b':bA}
noncomputable section
abbrev dx(a:MN)(n c:Nat)(fs:List Fr)(b:bA):VS:=⟨⟨a.pre,n,.ar c 13,[.int .i64 a.steps]⟩,cv b,(fs.map aS).flatten⟩
structure ey (a:MN) (n c:Nat) (fs:List Fr) (b:bA):Prop where
 aH:di aG 1 (.ab a.G a.q a.lg) a.aH
 buf:fy b
 ov:iy fs
 nL:n<=fs.length
 rG:n<=c
 len:fs.length<=1000000
 vars:1<=a.vars/\a.vars<=32
section
variable {a:MN} {n c:Nat} {fs:List Fr} {b:bA}
theorem ey.xj(h:ey a n c fs b):tp (dx a n c fs b) a:=⟨rfl,rfl,h.aH⟩
theorem W8(fs:List Fr):(fs.map aS).flatten.length=fs.length*13:=by
 have:=tD (K:=13) (l:=fs.map aS) fun c hc=>by obtain⟨a,_,rfl⟩:=List.mem_map.1 hc;exact jx a
 rw[this,List.length_map]
theorem Wm(fs:List Fr):(fs.map aS).flatten.all AV.cq=true:=by rw[List.all_eq_true];intro c hc;obtain⟨y,hy,hc⟩:=List.mem_flatten.1 hc;obtain⟨g,_,rfl⟩:=List.mem_map.1 hy;exact U8 g c hc
theorem ey.bQ(h:ey a n c fs b):bQ 10 (dx a n c fs b)=true:=by
 have ht:top=549755813888:=rfl;have e1:ti (dx a n c fs b).R=true:=by have g:=h.aH.cq;unfold ti;show((a.pre).all AV.cq&&([AV.int .i64 a.steps]).all AV.cq)=true;unfold MN.pre;simp only[List.all_cons,List.all_nil,g];rfl
 refine and_true.2 ⟨e1,and_true.2 ⟨Wm fs,and_true.2 ⟨aL.2 (by show 13<=top;omega),aL.2 ?_⟩⟩⟩;show(fs.map aS).flatten.length<=top;rw[W8];have:=h.len;omega
theorem afU{a':MN}{c':Nat}(h:ey a n c fs b)(h':ey a' n' c' da b')(e:dx a n c fs b=dx a' n' c' da b'):a=a'/\n=n'/\c=c'/\fs=da/\b=b':=by
 have e1:=h.xj;rw[e] at e1;have ea:=e1.inj h'.xj;injection e with e2 e3 e4
 injection e2 with e5 e6 e7 e8
 injection e7 with e7
 exact⟨ea,e6,e7,GU _ _ h.ov h'.ov e4,xH _ _ e3⟩
def fq(a:MN)(e:Ex):Int:=(Ah e a.l a.aH).1
def iV(x m:Int):Int:=if m<1 then 0 else if Int.tmod x m<0 then Int.tmod x m+m else Int.tmod x m
theorem ahC(x m:Int):uG x m= .tuple [.int .i64<|iV x m,.int .i64 (if m<1 then 1 else 0)]:=by
 unfold uG iV
 repeat' split
 all_goals first|rfl|omega
theorem afV{x m:Int}(h:1<=m):0<=iV x m/\iV x m<m:=by
 unfold iV;rw[if_neg ah];have h1:=Int.tmod_lt_of_pos x (show 0<m by omega);have h2: - m<Int.tmod x m:=by have:=Int.lt_tmod_of_pos x (show 0<m by omega);omega
 split<;>omega
theorem K4(h:ey a n c fs b)(e:Ex):vR jG (dx a n c fs b) [.agg<|aM e]=some (i6<|fq a e):=EY jG.bR ⟨a,e,h.xj,rfl,rfl⟩
theorem P5(h:ey a n c fs b)(e:Ex):vR nY (dx a n c fs b) [.agg<|aM e]=some (i6<|iV (fq a e) a.vars):=EY nY.bR ⟨a,e,_,_,h.xj,rfl,by have:=h.vars;omega,ahC _ _,rfl⟩
theorem UB(h:ey a n c fs b)(h6:n<=6):vR rV (dx a n c fs b) []=some (i6<|kx fs n):=EY rV.bR ⟨a,n,c,fs,h.xj,rfl,rfl,rfl,rfl,h.ov,h6,h.nL,h.len,rfl⟩
theorem Wn(h:ey a n c fs b){o:Option St}(hs:si fs n o):vR jj (dx a n c fs b) []=some (E3 o):=EY jj.bR ⟨a,n,c,fs,o,h.xj,rfl,rfl,rfl,rfl,h.ov,h.nL,h.len,hs,rfl⟩
theorem Wo{b:bA}(b6:b.length<=6)(v:Int):gQ (eW cv Cu) (cv b) [.int .i64 v]=some (.tuple [.int .i64 (lq b v).1,.bool (lq b v).2],cv b):=by
 unfold gQ;rw[BM xH];show(match ([.int .i64 v]:List AV).all AV.hi with
  |true=>((if b.length<=6 then some (AV.tuple [.int .i64 (lq b v).1,.bool (lq b v).2],b) else none).map (fun p:AV×bA=>((p.1,cv p.2):AV×AV))).bind fun p:AV×AV=>match p.1.hi with
   |true=>some p
   |false=>none
  |false=>none)=_
 rw[if_pos b6];rfl
theorem afW{b:bA}(b6:b.length<=6)(v x:Int):gQ (eW cv HJ) (cv b) [.int .i64 v,.int .i64 x]=some ((.int .i64 0:AV),cv<|mD b v x):=by
 unfold gQ;rw[BM xH];show(match ([.int .i64 v,.int .i64 x]:List AV).all AV.hi with
  |true=>((if b.length<=6 then some ((AV.int .i64 0:AV),mD b v x) else none).map (fun p:AV×bA=>((p.1,cv p.2):AV×AV))).bind fun p:AV×AV=>match p.1.hi with
   |true=>some p
   |false=>none
  |false=>none)=_
 rw[if_pos b6];rfl
theorem ac4(h:ey a n c fs b){k:Nat}(hs:oH k n fs b=some (n',da,b')):ep fh (dx a n c fs b) []=some (.tuple [],dx a n' c da b'):=K0 fh.bR ⟨a,n,c,k,n',fs,da,b,b',h.xj,rfl,rfl,rfl,rfl,rfl,h.buf,h.ov,h.nL,h.rG,h.len,hs,rfl⟩
end
def MN.iu(a:MN)(i z:Int):MN:=match i.toNat with
 |0=>{a with x0:=z}
 |1=>{a with x1:=z}
 |2=>{a with x2:=z}
 |3=>{a with x3:=z}
 |4=>{a with x4:=z}
 |5=>{a with x5:=z}
 |6=>{a with x6:=z}
 |7=>{a with x7:=z}
 |_=>a
section
variable {a:MN} {n c:Nat} {fs:List Fr} {b:bA}
theorem Wp(h0:0<=i)(h8:i<8):i=0\/i=1\/i=2\/i=3\/i=4\/i=5\/i=6\/i=7:=by omega
theorem P6{i z:Int}(h0:0<=i)(h8:i<8):wq (dx a n c fs b) i z=dx (MN.iu a i z) n c fs b:=by rcases Wp h0 h8 with rfl|rfl|rfl|rfl|rfl|rfl|rfl|rfl<;>rfl
theorem ac5{z:Int}:(MN.iu a i z).vars=a.vars/\(MN.iu a i z).G=a.G/\(MN.iu a i z).q=a.q/\(MN.iu a i z).lg=a.lg/\(MN.iu a i z).aH=a.aH/\(MN.iu a i z).steps=a.steps:=by unfold MN.iu;split<;>exact⟨rfl,rfl,rfl,rfl,rfl,rfl⟩
theorem ey.iu{z:Int}(h:ey a n c fs b):ey (MN.iu a i z) n c fs b:=by
 obtain⟨e1,e2,e3,e4,e5,_⟩:=ac5 (a:=a) (i:=i) (z:=z);refine⟨?_,h.buf,h.ov,h.nL,h.rG,h.len,?_⟩
 ·rw[e2,e3,e4,e5];exact h.aH
 ·rw[e1];exact h.vars
theorem ahD(h:ey a n c fs b)(h0:0<=to)(h8:to<8):ep AI (dx a n c fs b) [.agg<|a9<|.mk kind to ea eb bd el]=some (.tuple [],dx (MN.iu a to<|fq a ea) n c fs b):=K0 AI.bR ⟨a,kind,to,ea,eb,bd,el,fq a ea,h.bQ,h.xj,rfl,h0,h8,K4 h ea,by rw[P6 h0 h8]⟩
theorem afX(h:ey a n c fs b)(b6:b.length<=6)(h0:0<=to)(h8:to<8):ep Am (dx a n c fs b) [.agg<|a9<|.mk kind to ea eb bd el]=some (.tuple [],dx (MN.iu a to (lq b<|iV (fq a ea) a.vars).1) n c fs b):=K0 Am.bR ⟨a,kind,to,ea,eb,bd,el,iV (fq a ea) a.vars,(lq b<|iV (fq a ea) a.vars).1,(lq b<|iV (fq a ea) a.vars).2,h.bQ,h.xj,rfl,h0,h8,P5 h ea,Wo b6 _,by rw[P6 h0 h8]⟩
theorem aei(h:ey a n c fs b)(b6:b.length<=6):ep z8 (dx a n c fs b) [.agg<|a9<|.mk kind to ea eb bd el]=some (.tuple [],dx a n c fs<|mD b (iV (fq a ea) a.vars)<|fq a eb):=K0 z8.bR ⟨a,kind,to,ea,eb,bd,el,iV (fq a ea) a.vars,fq a eb,cv<|mD b (iV (fq a ea) a.vars)<|fq a eb,h.bQ,h.xj,rfl,P5 h ea,K4 h eb,afW b6 _ _,rfl⟩
def wD(a:MN)(w:Int)(b:bA):Option St->Int×Int×Int
 |none=>(3,0,0)
 |some (.mk kind _ ea _ _ _)=>if kind=8 then(3,0,fq a ea) else if kind=6/\w<0 then(4,0,0) else if kind=2/\(lq b<|iV (fq a ea) a.vars).2=false then(2,iV (fq a ea) a.vars,0) else(1,0,0)
def AK(q:Int×Int×Int):AV:=.agg [.int .u8 q.1,.int .i64 q.2.1,.int .i64 q.2.2]
theorem GG{w:Int}:wD a w b (some<|.mk kind to ea eb bd el)=if kind=8 then(3,0,fq a ea) else if kind=6/\w<0 then(4,0,0) else if kind=2/\(lq b<|iV (fq a ea) a.vars).2=false then(2,iV (fq a ea) a.vars,0) else(1,0,0):=rfl
theorem Wq{B:aJ}(mc:Mt [mF,iN,jF,lk,mz] B){o:Option St}(h:ey a n c fs b)(h6:n<=6)(b6:b.length<=6)(hs:si fs n o):
 av pg B 273 (ij 270 3 pg (aA Tryz.f38) (AK<|wD a (kx fs n) b o)<|dx a n c fs b) (sF 38 Tryz.f38 [.ptr<|some (270,0)]) (aj (aq++bO (dP 270 3<|dx a n c fs b)) 273):=by
 have hn:=Wn h hs;cases o with
 |none=>exact ajo (N:=0) (L:=0) (N2:=0) (L2:=0) (N3:=0) (L3:=0) (N4:=0) (L4:=0) (kind:=0) (to:=0) (op:=0) (nn:=0) (aZ:=0) (n2:=0) (z:=0) (v:=0) (wi:=0) (gx:=0) mc h.bQ hn rfl
 |some s=>
  obtain⟨kind,to,ea,eb,bd,el⟩:=s;have hz:=K4 h ea;have hv:=P5 h ea;have hw:=UB h h6;have hg:=Wo b6<|iV (fq a ea) a.vars;have hA:=Ey ea;have hY:(E3 (some<|.mk kind to ea eb bd el):AV).hi=true:=by show([AV.agg<|a9<|.mk kind to ea eb bd el,.bool true].all AV.wT)=true;have e:(AV.agg<|a9<|.mk kind to ea eb bd el).wT=true:=XA _;rw[List.all_cons,e];rfl
  have k8:kind=8->wD a (kx fs n) b (some<|.mk kind to ea eb bd el)=(3,0,fq a ea):=fun q=>if_pos q;have k6:kind=6->kx fs n<0->wD a (kx fs n) b (some<|.mk kind to ea eb bd el)=(4,0,0):=fun q r=>by rw[GG,if_neg ah,if_pos ⟨q,r⟩]
  obtain⟨op,nn,la⟩:=ea;obtain⟨aZ,n2,lb⟩:=eb;unfold E3 at hn hY;rw[aM] at hz hv hA;simp only[a9,aM] at hn hY;cases hb:(lq b<|iV (fq a<|.mk op nn la) a.vars).2 with
  |true=>
   rw[hb] at hg;refine ajp mc h.bQ hn hY hA hz hv hw hg (fun q=>?_) (fun q r=>?_) fun q r _=>?_
   ·rw[k8 q];rfl
   ·rw[k6 q r];rfl
   ·rw[GG,if_neg q,if_neg (fun z=>by have:=r z.1;omega),if_neg (fun z=>by rw[hb] at z;cases z.2)];rfl
  |false=>
   rw[hb] at hg;refine ajq mc h.bQ hn hY hA hz hv hw hg (fun q=>?_) (fun q r=>?_) (fun q=>?_) fun q r z=>?_
   ·rw[k8 q];rfl
   ·rw[k6 q r];rfl
   ·rw[GG,if_neg ah,if_neg (fun z=>by omega),if_pos ⟨q,hb⟩];rfl
   ·rw[GG,if_neg q,if_neg (fun z=>by have:=r z.1;omega),if_neg fun y=>z y.1];rfl
def lP(st:VS)(rest:List AV)(v:AV):Prop:=∃(a:MN) (n c:Nat) (fs:List Fr) (b:bA) (o:Option St),st=dx a n c fs b/\ey a n c fs b/\rest=[]/\n<=6/\b.length<=6/\si fs n o/\v=AK (wD a (kx fs n) b o)
theorem lP.bR(st:VS)(rest:List AV)(v v':AV)(h:lP st rest v)(h':lP st rest v'):v=v':=by obtain⟨a,n,c,fs,b,o,rfl,m1,_,_,_,s1,rfl⟩:=h;obtain⟨a',n',c',da,b',o',e,m2,_,_,_,s2,rfl⟩:=h';obtain⟨rfl,rfl,rfl,rfl,rfl⟩:=afU m1 m2 e;rw[s1.bR s2]
def Rh:FuncId×KE:=(38,.raw<|nA 10 3<|vR lP)
theorem afY(hP:bB pg){L:bU}(h:aV L):aV<|Rh::L:=by refine GF hP gL yP ir gZ kG ki h (OY hP<|Eg hP<|G4 hP<|JW hP<|NL hP cO) Tryz.func38 (body:=aW pg 38 []) aY aY fun st rest y e _=>?_;obtain⟨a,n,c,fs,b,o,rfl,m1,rfl,h6,b6,s1,rfl⟩:=Hk e;exact⟨aL.1 aY,fun B mc=>Wq mc m1 h6 b6 s1⟩
theorem ahE(h:ey a n c fs b)(h6:n<=6)(b6:b.length<=6){o:Option St}(hs:si fs n o):vR lP (dx a n c fs b) []=some (AK<|wD a (kx fs n) b o):=EY lP.bR ⟨a,n,c,fs,b,o,rfl,h,rfl,h6,b6,hs,rfl⟩
end
end
end jU
end
section
open Go Go.Rn Go.RowKit Go.Proofs
namespace og
open cr fF cS dL dj dA gF fT ia ig iv iw iG iT iU jH jN iF
theorem aoE{fs:List Fr}{n:Nat}{f:Fr}{cs:List AV}{X:Prop}(hc:aS f=cs)(hn:n<=fs.length)(hl:fs.length<=1000000)(x:X):
 ((.known n:cM)= .known n/\1<=1/\some (aI aS fs)=some (.cells (fs.map aS).flatten.length (Tr.fill (fs.map aS).flatten 0 .nil) [])/\some (ae.cells cs.length (Tr.fill cs 0 .nil) [])=some (.cells cs.length (Tr.fill cs 0 .nil) [])/\(fs.map aS).flatten.length<=top/\cs.length<=top/\n*13<=(fs.map aS).flatten.length/\1*13<=cs.length/\(fs.map aS).flatten.take (n*13)++cs.take (1*13)=((fs.take n++[f]).map aS).flatten/\((fs.take n++[f]).map aS).flatten.all AV.cj=true/\2*(n+1)*136+4096*136<=room/\((fs.take n++[f]).map aS).flatten.length<=top/\X):=by
 have ht:top=549755813888:=rfl;have e1:∀l:List Fr,(l.map aS).flatten.length=l.length*13:=fun l=>by
  have:=tD (K:=13) (l:=l.map aS) fun c hc=>by obtain⟨a,_,rfl⟩:=List.mem_map.1 hc;exact jx a
  rw[this,List.length_map]
 have e2:cs.length=13:=by rw[←hc];exact jx f
 have e3:∀(l:List Fr) (k:Nat),(l.map aS).flatten.take (k*13)=((l.take k).map aS).flatten:=by
  intro l;induction l with
  |nil=>intro k;simp
  |cons x l ih=>
   intro k;cases k with
   |zero=>simp
   |succ k=>rw[List.map_cons,List.flatten_cons,List.take_succ_cons,List.map_cons,List.flatten_cons, ←ih k,List.take_append,jx,List.take_of_length_le (by rw[jx];omega),show(k+1)*13 - 13=k*13 by omega]
 refine⟨rfl,Nat.le_refl 1,rfl,rfl,by rw[e1];omega,by omega,by rw[e1];omega,by omega,?_,?_,?_,?_,x⟩
 ·rw[e3,List.map_append,List.flatten_append];congr 1;rw[List.take_of_length_le (l:=cs) ah, ←hc];simp
 ·rw[List.all_eq_true];intro c hc;obtain⟨y,hy,hc⟩:=List.mem_flatten.1 hc;obtain⟨g,_,rfl⟩:=List.mem_map.1 hy;exact List.all_eq_true.1 (Oj g) c hc
 ·unfold room;omega
 ·rw[e1,List.length_append,List.length_take];show(min n fs.length+1)*13<=top;omega
end og
end
section
open Go Go.Rn Go.RowKit Go.Proofs
namespace pn
open cr fF cS dL dj dA gF fT ia ig iv iw iG iT iU jH jN og iF
theorem Dv{fs:List Fr}{n:Nat}{X:Prop}(h1:1<=n)(hn:n<=fs.length)(hl:fs.length<=1000000)(x:X):
 ((.known 0:cM)= .known 0/\1<=n/\some (ae.cells 0 (Tr.fill [] 0 .nil) [])=some (.cells ([]:List AV).length (Tr.fill [] 0 .nil) [])/\some (aI aS fs)=some (.cells (fs.map aS).flatten.length (Tr.fill (fs.map aS).flatten 0 .nil) [])/\([]:List AV).length<=top/\(fs.map aS).flatten.length<=top/\0*13<=([]:List AV).length/\n*13<=(fs.map aS).flatten.length/\([]:List AV).take (0*13)++(fs.map aS).flatten.take (n*13)=((fs.take n).map aS).flatten/\((fs.take n).map aS).flatten.all AV.cj=true/\2*(0+n)*136+4096*136<=room/\((fs.take n).map aS).flatten.length<=top/\X):=by
 have ht:top=549755813888:=rfl;have e1:∀l:List Fr,(l.map aS).flatten.length=l.length*13:=fun l=>by
  have:=tD (K:=13) (l:=l.map aS) fun c hc=>by obtain⟨a,_,rfl⟩:=List.mem_map.1 hc;exact jx a
  rw[this,List.length_map]
 have e3:∀(l:List Fr) (k:Nat),(l.map aS).flatten.take (k*13)=((l.take k).map aS).flatten:=by
  intro l;induction l with
  |nil=>intro k;simp
  |cons x l ih=>
   intro k;cases k with
   |zero=>simp
   |succ k=>rw[List.map_cons,List.flatten_cons,List.take_succ_cons,List.map_cons,List.flatten_cons, ←ih k,List.take_append,jx,List.take_of_length_le (by rw[jx];omega),show(k+1)*13 - 13=k*13 by omega]
 refine⟨rfl,h1,rfl,rfl,Nat.zero_le _,by rw[e1];omega,by show 0*13<=0;omega,by rw[e1];omega,?_,?_,?_,?_,x⟩
 ·rw[e3];rfl
 ·rw[List.all_eq_true];intro c hc;obtain⟨y,hy,hc⟩:=List.mem_flatten.1 hc;obtain⟨g,_,rfl⟩:=List.mem_map.1 hy;exact List.all_eq_true.1 (Oj g) c hc
 ·unfold room;omega
 ·rw[e1,List.length_take];omega
end pn
end
section
open Go Go.Rn Go.RowKit Go.Proofs
namespace po
open cr fQ fc hI gK jq fF cS dL dj dA gF fT ia ig iv iF iw iG iT iU jH jN kK lr mg jU og pn kJ
variable {fs:List Fr} {B:aJ} {u:AV} {r:Nat->Nat} {c:Nat} {a:MN} {T:Prop}
noncomputable section
theorem MX{n:Nat}{f:Fr}{cs:List AV}{X:Prop}(hc:aS f=cs)(h1:1<=n)(hn:n<=fs.length)(hl:fs.length<=1000000)(x:X):
 ((.known n:cM)= .known n/\1<=n/\1<=1/\some (aI aS fs)=some (.cells (fs.map aS).flatten.length (Tr.fill (fs.map aS).flatten 0 .nil) [])/\some (ae.cells cs.length (Tr.fill cs 0 .nil) [])=some (.cells cs.length (Tr.fill cs 0 .nil) [])/\(fs.map aS).flatten.length<=top/\cs.length<=top/\n*13<=(fs.map aS).flatten.length/\1*13<=cs.length/\(fs.map aS).flatten.take (n*13)++cs.take (1*13)=((fs.take n++[f]).map aS).flatten/\((fs.take n++[f]).map aS).flatten.all AV.cj=true/\2*(n+1)*136+4096*136<=room/\((fs.take n++[f]).map aS).flatten.length<=top/\X):=
 have h:=aoE hc hn hl x
 ⟨h.1,h1,h.2⟩
theorem G5{k:Nat}{v:AV}:fI [] r (.tok k v)<|.tok k v:=fun _ _ _ _ _ _=>trivial
theorem G2(hr:∀k,top<=k->r k=k)(hl:fs.length<=1000000):fI [] r (aI aS fs)<|aI aS fs:=fun ρ fA N o m h=>by have ht:top=549755813888:=rfl;refine Al (ρ:=ρ) (fun k x hk e=>?_) (by rw[W8];omega) (Wm fs) h;show fA (r k)=some x;rw[hr k hk];exact m.1 _ _ e
abbrev LM:bU:=[Rh,mF,iN,jF,lk,mz,zQ,Rf,QC,P3,PZ,P0]
abbrev bh(p:List AV)(n:Nat)(cap:cM)(st:Int)(u:AV)(fs:List Fr):VS:=⟨⟨p,n,cap,[.int .i64 st]⟩,u,(fs.map aS).flatten⟩
abbrev iJ(B:aJ)(rs:List ResultVar)(st:VS)(fr:AF)(s:AS):Prop:=av pg B 271 (ij 270 3 pg rs (.int .i64 0) st) fr s
abbrev mR(f j nt:Nat)(K:List Item):AF:=⟨f,aP [(j,.int .i64 0)],nt,K,[],none⟩
def oE(A:MN)(n:Nat)(cap:cM)(u:AV)(fs:List Fr)(r:Nat):List<|Nat×Option ae:=[(270,some<|.cells 13 (Tr.fill (A.row (.ptr<|some (271,0)) (.slice (some (r,0)) n cap)<|.int .i64 A.steps) 0 .nil) []),(271,some<|.tok 3 u),(r,some<|aI aS fs)]
abbrev nM(A:MN)(n:Nat)(cap:cM)(u:AV)(fs:List Fr):AS:=aj (aq++oE A n cap u fs 272) 273
abbrev Dw(j:Nat)(A:MN)(n:Nat)(cap:cM)(u:AV)(fs:List Fr)(r bF:Nat):Pl:=.rn [(j,.int .i64 0)] (aq++oE A n cap u fs r) [(j,.int .i64 0)] (aq++oE A n cap u fs 272) bF 273 .no
theorem F3(f j nt:Nat)(K:List Item)(A:MN)(n:Nat)(cap:cM)(u:AV)(fs:List Fr)(r bF:Nat)(hlen:fs.length<=1000000)(pj:(AV.ab A.G A.q A.lg).cq=true)(hb:xf [(271,271),(272,r)] 271 bF 273 [270,271,272]=true:=by as_aux_lemma=>kernel_rfl)(hi:Fy [(271,271),(272,r)]=true:=by as_aux_lemma=>kernel_rfl)(hj:j<1000:=by omega):
 ([(j,AV.int .i64 0)].map (fun q=>some q.2)=[(j,AV.int .i64 0)].map (fun q=>some q.2))/\((aq++oE A n cap u fs r).map (fun q=>q.2)=(aq++oE A n cap u fs r).map (fun q=>q.2))/\gY FU 271 bF [(j,.int .i64 0)] (aq++oE A n cap u fs r) [(j,.int .i64 0)] (aq++oE A n cap u fs 272) 273/\(mR f j nt K=mR f j nt K/\nM A n cap u fs=nM A n cap u fs):=by
 have ht:top=549755813888:=rfl;refine⟨rfl,rfl,Ct (ps:=[(271,271),(272,r)]) (lo:=271) (bF:=bF) ah hb hi (fun q hr ht=>⟨⟨by show j<top;omega,.int .i64 0,List.mem_cons_self,(bz.int _ _).z⟩,trivial⟩) fun q hr ht=>?_,rfl,rfl⟩;have e0:q 270=270:=by rw[hr];rfl
 have e1:q 271=271:=by rw[hr];rfl
 have e2:q 272=r:=by rw[hr];rfl
 refine⟨fun y hy=>?_,fun y hy=>?_,fun y hy=>?_,trivial⟩
 ·cases hy;refine⟨rfl,.cells 13 (Tr.fill (A.row (.ptr<|some (271,0)) (.slice (some (r,0)) n cap)<|.int .i64 A.steps) 0 .nil) [],?_,qH,?_⟩
  ·show(q 270,_)∈_;rw[e0];exact List.mem_cons_self
  ·exact UA (l:=[.int .i64 A.vars,.ab A.G A.q A.lg,.int .i64 A.x0,.int .i64 A.x1,.int .i64 A.x2,.int .i64 A.x3,.int .i64 A.x4,.int .i64 A.x5,.int .i64 A.x6,.int .i64 A.x7,.ptr<|some (271,0),.slice (some (r,0)) n cap,.int .i64 A.steps]) (m:=[.int .i64 A.vars,.ab A.G A.q A.lg,.int .i64 A.x0,.int .i64 A.x1,.int .i64 A.x2,.int .i64 A.x3,.int .i64 A.x4,.int .i64 A.x5,.int .i64 A.x6,.int .i64 A.x7,.ptr<|some (271,0),.slice (some (272,0)) n cap,.int .i64 A.steps]) (rest:=[]) (by show 13<=top;omega) ⟨(bz.int _ _).z,(Hj ht (show(AV.ab A.G A.q A.lg).hi=true from pj)).z,(bz.int _ _).z,(bz.int _ _).z,(bz.int _ _).z,(bz.int _ _).z,(bz.int _ _).z,(bz.int _ _).z,(bz.int _ _).z,(bz.int _ _).z,(bz.ptr e1).z,(bz.slice e2).z,(bz.int _ _).z,trivial⟩ rfl
 ·cases hy;refine⟨rfl,.tok 3 u,?_,fm.refl _,G5⟩;show(q 271,_)∈_;rw[e1];exact List.mem_cons_of_mem _ List.mem_cons_self
 ·cases hy;refine⟨rfl,aI aS fs,?_,fm.refl _,G2 ht hlen⟩;show(q 272,_)∈_;rw[e2];exact List.mem_cons_of_mem _<|List.mem_cons_of_mem _ List.mem_cons_self
theorem Dx(mc:Mt LM B){f nt:Nat}{t:Tr AV}{K:List Item}{s:AS}{rs:List ResultVar}{st:VS}{FR:AF}{S1:AS}(H:iJ B rs st FR S1)(p:Pl)(x:T)(h:T=wp (rC LM) 900 6 (.fr f nt K t s) p rs (fun v s _=>v= .int .i64 0/\∀m o,(m,o)∈dP 270 3 st->s.h.get m=some o) (fun fr s1 _=>fr=FR/\s1=S1):=by as_aux_lemma=>kernel_rfl)(h0:Nat.ble 271 s.nx=true:=by as_aux_lemma=>kernel_rfl):iJ B rs st ⟨f,t,nt,K,[],none⟩ s:=IL mc (C:=fun fr s1 _=>fr=FR/\s1=S1) (fun fr s1 p hC=>by obtain⟨rfl,rfl⟩:=hC;exact H) p x h h0
theorem E4{n:Nat}(mc:Mt LM B):iJ B (aA Tryz.f49) (bh a.pre n (.ar c 13) a.steps u fs) (mR 49 2 38<|dq 49 [1,1,1,1,1,1,1,1,1])<|nM a n (.ar c 13) u fs:=oj mc (.rt 1 .no)<|nX (st:=(bh a.pre n (.ar c 13) a.steps u fs)) (s:=nM a n (.ar c 13) u fs) (show(i0:AV)= .int .i64 0 from rfl) cC cC cC
theorem ajr{n:Nat}(mc:Mt LM B):iJ B (aA Tryz.f55) (bh a.pre n (.ar c 13) a.steps u fs) (mR 55 4 38<|dq 55 [1,1,1,1,1,1,1,1])<|nM a n (.ar c 13) u fs:=oj mc (.rt 1 .no)<|nX (st:=(bh a.pre n (.ar c 13) a.steps u fs)) (s:=nM a n (.ar c 13) u fs) (show(i0:AV)= .int .i64 0 from rfl) cC cC cC
def Dy(a:MN)(n c:Nat)(u:AV)(fs:List Fr)(ask row:AV)(k:Nat)(p:Pl):Pl:=(.st 8<|.rg<|.go 1<|.cg ask (vG 272) (vQ 272<|bh a.pre n (.ar c 13) a.steps u fs)<|.go 3<|.en<|.st k<|.rg<|.go 1<|.cg row (vG 272) (vQ 272<|bh a.pre n (.ar c 13) a.steps u fs)<|.go 6<|.en<|.st 1<|.rg<|.go 4<|.vl (i6<|a.steps+1)<|.go 3<|.en<|.st 1<|.rg<|.go 1<|.il<|.st 1<|.rg<|.go 4<|.il<|.st 8<|.rg<|.go 2<|.ao [] (((fs).map aS).flatten) ((((fs.take n)).map aS).flatten)<|.go 1<|.en<|.rt 1<|.go 1<|.en<|.st 1<|.rg<|.go 3<|.vl (i6<|(((0+n):Nat):Int) - 1)<|.ix<|.go 1<|.ld [(i6<|(aB (fs.take n)<|(((0+n):Nat):Int) - 1).au)]<|.vl (i6<|(aB (fs.take n)<|(((0+n):Nat):Int) - 1).au+1)<|.ix<|.go 1<|.sQ (aI aS<|(fs.take n).set ((((0+n):Nat):Int) - 1).toNat ({(aB (fs.take n)<|(((0+n):Nat):Int) - 1) with au:=((aB (fs.take n)<|(((0+n):Nat):Int) - 1).au+1),turns:=(aB (fs.take n)<|(((0+n):Nat):Int) - 1).turns}:Fr)) p)
abbrev yQ(fs:List Fr)(n:Nat):Prop:=0<=(aB (fs.take n)<|((0+n:Nat):Int) - 1).au/\(aB (fs.take n)<|((0+n:Nat):Int) - 1).au<=1000000
theorem Dz{n:Nat}(h1:1<=n)(hn:n<=fs.length)(hf:fs.length<=1000000)(ay:yQ fs n)(t:T):AV.int .i64 (IntKind.wrap .i64<|(((0+n):Nat):Int) - 1)= .int .i64 ((((0+n):Nat):Int) - 1)/\(0:Int)<=((((0+n):Nat):Int) - 1)/\((((0+n):Nat):Int) - 1)<(((0+n):Nat):Int)/\cellsOf (some<|aI aS<|fs.take n) (((((0+n):Nat):Int) - 1).toNat*13+1) 1=some (((aS<|aB (fs.take n)<|(((0+n):Nat):Int) - 1).drop 1).take 1)/\AV.int .i64 (IntKind.wrap .i64<|(aB (fs.take n)<|(((0+n):Nat):Int) - 1).au+1)= .int .i64 ((aB (fs.take n)<|(((0+n):Nat):Int) - 1).au+1)/\(0:Int)<=((((0+n):Nat):Int) - 1)/\((((0+n):Nat):Int) - 1)<(((0+n):Nat):Int)/\v7 (some<|aI aS<|fs.take n) (((((0+n):Nat):Int) - 1).toNat*13+1) [.int .i64<|(aB (fs.take n)<|(((0+n):Nat):Int) - 1).au+1]=some (aI aS<|(fs.take n).set ((((0+n):Nat):Int) - 1).toNat ({(aB (fs.take n)<|(((0+n):Nat):Int) - 1) with au:=((aB (fs.take n)<|(((0+n):Nat):Int) - 1).au+1),turns:=(aB (fs.take n)<|(((0+n):Nat):Int) - 1).turns}:Fr))/\T:=by have ht:top=549755813888:=rfl;exact(ai (wI<|(((0+n):Nat):Int) - 1)<|eZ ((((0+n):Nat):Int) - 1) (((0+n):Nat):Int)<|ai (nk jx wZ (qT (l:=(fs.take n)) (z:=((((0+n):Nat):Int) - 1)) ah wZ) 1 1 rfl)<|ai (wI<|(aB (fs.take n)<|(((0+n):Nat):Int) - 1).au+1)<|eZ ((((0+n):Nat):Int) - 1) (((0+n):Nat):Int)<|ai (El jx wZ (qT (l:=(fs.take n)) (z:=((((0+n):Nat):Int) - 1)) ah wZ) (c':=({(aB (fs.take n)<|(((0+n):Nat):Int) - 1) with au:=((aB (fs.take n)<|(((0+n):Nat):Int) - 1).au+1),turns:=(aB (fs.take n)<|(((0+n):Nat):Int) - 1).turns}:Fr)) (r:=[(i6<|((aB (fs.take n)<|(((0+n):Nat):Int) - 1).au+1))]) 1 rfl rfl rfl) t)
end
end po
end
section
open Go Go.Rn Go.RowKit Go.Proofs
namespace YN
open cr fQ fc hI gK jq fF cS dL dj dA gF fT ia ig iv iF iw iG iT iU jH jN kK lr mg jU og pn kJ po
noncomputable abbrev Cc(ka to op nn:Int)(N L:Nat)(aZ n2:Int)(N2 L2:Nat)(bd el:List St):AV:=.agg [(.int .u8 ka),(i6 to),(u8<|op),(i6 nn),(.ab N 0 L),(u8<|aZ),(i6 n2),(.ab N2 0 L2),(.ab (nm (bd.map a9).flatten) 0 bd.length),(.ab (nm (el.map a9).flatten) 0 el.length)]
noncomputable abbrev K5(a:MN)(n:Nat)(u:AV)(fs:List Fr):VS:=bh a.pre (0+n) (.ar (0+n) 13) (a.steps+1) u<|(fs.take n).set ((((0+n):Nat):Int) - 1).toNat ({(aB (fs.take n)<|(((0+n):Nat):Int) - 1) with au:=((aB (fs.take n)<|(((0+n):Nat):Int) - 1).au+1),turns:=(aB (fs.take n)<|(((0+n):Nat):Int) - 1).turns}:Fr)
theorem step1{ka:Int}{kb:VS->List AV->AV×VS->Prop}{kc:Nat}(hk:(ka=1/\kb=AI/\kc=74)\/(ka=2/\kb=Am/\kc=75)\/(ka=3/\kb=z8/\kc=76)){B:aJ}{a:MN}{n c:Nat}{u:AV}{fs:List Fr}{A1:MN}{m1 c1:Nat}{u1:AV}{bK:List Fr}{A2:MN}{m2 c2:Nat}{u2:AV}{bD:List Fr}{N L N2 L2:Nat}{to op nn aZ n2 z wi t:Int}{bd el ol fb:List St}{fa ft y0 y1 y2 y3 y4 y5 y6 y7:Int}{fo:Bool}{ub:AV}(mc:Mt LM B)(h1:1<=n)(hn:n<=fs.length)(hc:n<=c)(hf:fs.length<=1000000)(hR:fs.length*13<=top)(ay:yQ fs n)(cQ:0<=a.steps/\a.steps<=1000000000000)(hlen:bD.length<=1000000)(pj:(AV.ab A2.G A2.q A2.lg).cq=true)(k0:bQ 10 (bh a.pre n (.ar c 13) a.steps u fs)=true)(k1:vR lP (bh a.pre n (.ar c 13) a.steps u fs) []=some (.agg [(u8<|.ofNat 1),i0,i0]))(k2:((.tuple [(Cc ka to op nn N L aZ n2 N2 L2 bd el),(.bool true)]):AV).hi=true)(k3:vR jj (bh a.pre n (.ar c 13) a.steps u fs) []=some (.tuple [(Cc ka to op nn N L aZ n2 N2 L2 bd el),(.bool true)]))(k4:([(Cc ka to op nn N L aZ n2 N2 L2 bd el)]:List AV).all AV.hi=true)(k5:bQ 10 (K5 a n u fs)=true)(k6:ep kb (K5 a n u fs) [(Cc ka to op nn N L aZ n2 N2 L2 bd el)]=some (.tuple [],(bh A1.pre m1 (.ar c1 13) A1.steps u1 bK)))(k7:bQ 10 (bh A1.pre m1 (.ar c1 13) A1.steps u1 bK)=true)(k8:ep fh (bh A1.pre m1 (.ar c1 13) A1.steps u1 bK) []=some (.tuple [],(bh A2.pre m2 (.ar c2 13) A2.steps u2 bD)))(k9:bQ 10 (bh A2.pre m2 (.ar c2 13) A2.steps u2 bD)=true)(H:iJ B (aA Tryz.f49) (bh A2.pre m2 (.ar c2 13) A2.steps u2 bD) (mR 49 2 38<|dq 49 [1,1,1,1,1,1,1,1,1])<|nM A2 m2 (.ar c2 13) u2 bD):iJ B (aA Tryz.f49) (bh A2.pre m2 (.ar c2 13) A2.steps u2 bD) (sF 49 Tryz.f49 [(.ptr<|some (270,0))])<|aj (aq++bO (dP 270 3<|bh a.pre n (.ar c 13) a.steps u fs)) 273:=by
 have ht:top=549755813888:=rfl;have uY:sp LM kc=some (nz 10 3 (ep kb) 270 eB dV):=by rcases hk with⟨_,rfl,rfl⟩|⟨_,rfl,rfl⟩|⟨_,rfl,rfl⟩<;>kernel_rfl
 have TT:=(Bb LM 38 272 (vR lP) [] (bh a.pre n (.ar c 13) a.steps u fs) (.agg [(u8<|.ofNat 1),i0,i0]) k0 k1<|ko LM 60 272 (vR jj) [] (bh a.pre n (.ar c 13) a.steps u fs) (.tuple [(Cc ka to op nn N L aZ n2 N2 L2 bd el),(.bool true)]) k0 k3 cC k2<|ai (wI<|a.steps+1)<|Dv (fs:=fs) (n:=n) ah wZ wZ<|Dz h1 hn hf ay<|ZT (h1:=uY) LM kc 276 (ep kb) [(Cc ka to op nn N L aZ n2 N2 L2 bd el)] (K5 a n u fs) (bh A1.pre m1 (.ar c1 13) A1.steps u1 bK) k5 k6 k7 k4<|xh LM 72 276 (ep fh) [] (bh A1.pre m1 (.ar c1 13) A1.steps u1 bK) (bh A2.pre m2 (.ar c2 13) A2.steps u2 bD) k7 k8 k9<|F3 49 2 38 (dq 49 [1,1,1,1,1,1,1,1,1]) A2 m2 (.ar c2 13) u2 bD 276 277 hlen pj);let P:Pl:=(Dy a n c u fs (.agg [(u8<|.ofNat 1),i0,i0]) (.tuple [(Cc ka to op nn N L aZ n2 N2 L2 bd el),(.bool true)]) 6<|.en<|.rt 2<|.en<|.st 1<|.rg<|.go 6<|.cg (.tuple []) (vF 276<|bh A1.pre m1 (.ar c1 13) A1.steps u1 bK) (vQ 276<|K5 a n u fs)<|.en<|.st 1<|.rg<|.go 1<|.cg (.tuple []) (vF 276<|bh A2.pre m2 (.ar c2 13) A2.steps u2 bD) (vQ 276<|bh A1.pre m1 (.ar c1 13) A1.steps u1 bK)<|.en<|.st 2<|(Dw 2 A2 m2 (.ar c2 13) u2 bD 276 277));rcases hk with⟨rfl,rfl,rfl⟩|⟨rfl,rfl,rfl⟩|⟨rfl,rfl,rfl⟩
 all_goals exact Dx mc H P TT uC
end YN
end
section
open Go Go.Rn Go.RowKit Go.Proofs
namespace QF
open cr fQ fc hI gK jq fF cS dL dj dA gF fT ia ig iv iF iw iG iT iU jH jN kK lr mg jU og pn kJ po
def fkB(b:Bool)(p:Pl):Pl:=match b with
 |true=>.fk p .no
 |false=>.fk .no p
def zB(b:Bool)(z:Int):Prop:=match b with
 |true=>z≠0
 |false=>z=0
def xB(b:Bool)(x y:List St):List St:=match b with
 |true=>x
 |false=>y
theorem tfB{T:Prop}{z:Int}(b:Bool)(hz:zB b z)(t:T):(z≠0->(match b with|true=>T|false=>False))/\(¬z≠0->(match b with|true=>False|false=>T)):=by
 cases b with
 |true=>exact⟨fun _=>t,fun h=>h hz⟩
 |false=>exact⟨fun h=>h hz,fun _=>t⟩
noncomputable abbrev G6(fs:List Fr)(n:Nat):Fr:=({(aB (fs.take n)<|(((0+n):Nat):Int) - 1) with au:=((aB (fs.take n)<|(((0+n):Nat):Int) - 1).au+1),turns:=(aB (fs.take n)<|(((0+n):Nat):Int) - 1).turns}:Fr)
noncomputable abbrev Kh(a:MN)(n:Nat)(u:AV)(fs:List Fr)(X:List St):VS:=bh a.pre ((((0+n):Nat):Int).toNat+1) (.ar ((((0+n):Nat):Int).toNat+1) 13) (a.steps+1) u<|((fs.take n).set ((((0+n):Nat):Int) - 1).toNat<|G6 fs n).take (((0+n):Nat):Int).toNat++[(⟨X,0,0,false,[0,0,0,0,0,0,0,0],none⟩:Fr)]
noncomputable abbrev Ki(to op nn:Int)(N L:Nat)(aZ n2:Int)(N2 L2:Nat)(bd el:List St):AV:=.tuple [(.agg [(u8<|.ofNat 4),(i6 to),(u8<|op),(i6 nn),(.ab N 0 L),(u8<|aZ),(i6 n2),(.ab N2 0 L2),(.ab (nm (bd.map a9).flatten) 0 bd.length),(.ab (nm (el.map a9).flatten) 0 el.length)]),(.bool true)]
noncomputable abbrev Kj(a:MN)(n:Nat)(u:AV)(fs:List Fr):VS:=bh a.pre (0+n) (.ar (0+n) 13) (a.steps+1) u<|(fs.take n).set ((((0+n):Nat):Int) - 1).toNat<|G6 fs n
noncomputable abbrev PA(X:List St):List AV:=[(.ab (nm (X.map a9).flatten) 0 X.length),i0,i0,(.bool false),i0,i0,i0,i0,i0,i0,i0,i0,(.slice none 0<|.known 0)]
theorem ahF{B:aJ}{a:MN}{n c:Nat}{u:AV}{fs:List Fr}{A1:MN}{m1 c1:Nat}{u1:AV}{bK:List Fr}{A2:MN}{m2 c2:Nat}{u2:AV}{bD:List Fr}{N L N2 L2:Nat}{to op nn aZ n2 z:Int}{bd el X:List St}{tk:Bool}(mc:Mt LM B)(h1:1<=n)(hn:n<=fs.length)(hc:n<=c)(hf:fs.length<=1000000)(hR:fs.length*13<=top)(ay:yQ fs n)(cQ:0<=a.steps/\a.steps<=1000000000000)(hlen:bD.length<=1000000)(pj:(AV.ab A2.G A2.q A2.lg).cq=true)(hz:zB tk z)(hX:X=xB tk bd el)(k0:bQ 10 (bh a.pre n (.ar c 13) a.steps u fs)=true)(k1:vR lP (bh a.pre n (.ar c 13) a.steps u fs) []=some (.agg [(u8<|.ofNat 1),i0,i0]))(k2:((Ki to op nn N L aZ n2 N2 L2 bd el):AV).hi=true)(k3:vR jj (bh a.pre n (.ar c 13) a.steps u fs) []=some (Ki to op nn N L aZ n2 N2 L2 bd el))(k4:([.agg [.int .u8 op,.int .i64 nn,.ab N 0 L]]:List AV).all AV.hi=true)(k5:bQ 10 (Kj a n u fs)=true)(k6:vR jG (Kj a n u fs) [(.agg [(u8<|op),(i6 nn),(.ab N 0 L)])]=some (i6 z))(k7:bQ 10 (Kh a n u fs X)=true)(k8:ep fh (Kh a n u fs X) []=some (.tuple [],(bh A1.pre m1 (.ar c1 13) A1.steps u1 bK)))(k9:bQ 10 (bh A1.pre m1 (.ar c1 13) A1.steps u1 bK)=true)(sS:ep fh (bh A1.pre m1 (.ar c1 13) A1.steps u1 bK) []=some (.tuple [],(bh A2.pre m2 (.ar c2 13) A2.steps u2 bD)))(y9:bQ 10 (bh A2.pre m2 (.ar c2 13) A2.steps u2 bD)=true)(H:iJ B (aA Tryz.f49) (bh A2.pre m2 (.ar c2 13) A2.steps u2 bD) (mR 49 2 38<|dq 49 [1,1,1,1,1,1,1,1,1])<|nM A2 m2 (.ar c2 13) u2 bD):iJ B (aA Tryz.f49) (bh A2.pre m2 (.ar c2 13) A2.steps u2 bD) (sF 49 Tryz.f49 [(.ptr<|some (270,0))])<|aj (aq++bO (dP 270 3<|bh a.pre n (.ar c 13) a.steps u fs)) 273:=by
 have ht:top=549755813888:=rfl;have TT:=(Bb LM 38 272 (vR lP) [] (bh a.pre n (.ar c 13) a.steps u fs) (.agg [(u8<|.ofNat 1),i0,i0]) k0 k1
  (ko LM 60 272 (vR jj) [] (bh a.pre n (.ar c 13) a.steps u fs) (Ki to op nn N L aZ n2 N2 L2 bd el) k0 k3 cC k2
  (ai (wI<|a.steps+1)
  (Dv (fs:=fs) (n:=n) ah wZ wZ
  (Dz h1 hn hf ay (ko LM 61 276 (vR jG) [(.agg [(u8<|op),(i6 nn),(.ab N 0 L)])] (Kj a n u fs) (i6 z) k5 k6 k4 cC
  (tfB tk hz<|ai (show 0<=(((0+n):Nat):Int) from ah)<|ai (show(((0+n):Nat):Int)<=(((0+n):Nat):Int) from ah) (ai (show(((0+n):Nat):Int)<=Int.ofNat (jB (0+n)<|.ar (0+n) 13) from(show(((0+n):Nat):Int)<=(((0+n):Nat):Int) from by omega))
  (MX (fs:=((fs.take n).set ((((0+n):Nat):Int) - 1).toNat<|G6 fs n)) (n:=(((0+n):Nat):Int).toNat) (f:=(⟨X,0,0,false,[0,0,0,0,0,0,0,0],none⟩:Fr)) (cs:=(PA X)) (show aS (⟨X,0,0,false,[0,0,0,0,0,0,0,0],none⟩:Fr)=(PA X) from rfl) ah wZ wZ
  (xh LM 72 280 (ep fh) [] (Kh a n u fs X) (bh A1.pre m1 (.ar c1 13) A1.steps u1 bK) k7 k8 k9
  (xh LM 72 280 (ep fh) [] (bh A1.pre m1 (.ar c1 13) A1.steps u1 bK) (bh A2.pre m2 (.ar c2 13) A2.steps u2 bD) k9 sS y9
  (F3 49 2 38 (dq 49 [1,1,1,1,1,1,1,1,1]) A2 m2 (.ar c2 13) u2 bD 280 281 hlen pj))))))))))))
 let P:Pl:=(Dy a n c u fs (.agg [(u8<|.ofNat 1),i0,i0]) (Ki to op nn N L aZ n2 N2 L2 bd el) 6<|.en<|.rt 2<|.en<|.st 1<|.rg<|.go 6<|.il<|.st 4<|.rg<|.go 3<|.cg (i6 z) (vG 276) (vQ 276<|Kj a n u fs)<|fkB tk<|.en<|.st 2<|.rg<|.go 4<|.il<|.st 3<|.rg<|.go 15<|.s3<|.go 2<|.an (((((fs.take n).set ((((0+n):Nat):Int) - 1).toNat<|G6 fs n)).map aS).flatten) (PA X) ((((((fs.take n).set ((((0+n):Nat):Int) - 1).toNat<|G6 fs n).take (((0+n):Nat):Int).toNat++[(⟨X,0,0,false,[0,0,0,0,0,0,0,0],none⟩:Fr)])).map aS).flatten)<|.go 3<|.en<|.rg<|.go 1<|.cg (.tuple []) (vF 280<|bh A1.pre m1 (.ar c1 13) A1.steps u1 bK) (vQ 280<|Kh a n u fs X)<|.en<|.rt 1<|.en<|.rt 1<|.en<|.st 1<|.rg<|.go 1<|.cg (.tuple []) (vF 280<|bh A2.pre m2 (.ar c2 13) A2.steps u2 bD) (vQ 280<|bh A1.pre m1 (.ar c1 13) A1.steps u1 bK)<|.en<|.st 2<|(Dw 2 A2 m2 (.ar c2 13) u2 bD 280 281));subst hX;cases tk
 all_goals exact Dx mc H P TT uC
end QF
end
section
open Go Go.Rn Go.RowKit Go.Proofs
namespace XV
open cr fQ fc hI gK jq fF cS dL dj dA gF fT ia ig iv iF iw iG iT iU jH jN kK lr mg jU og pn kJ po
noncomputable abbrev G7(fs:List Fr)(n:Nat):Fr:=({(aB (fs.take n)<|(((0+n):Nat):Int) - 1) with au:=((aB (fs.take n)<|(((0+n):Nat):Int) - 1).au+1),turns:=(aB (fs.take n)<|(((0+n):Nat):Int) - 1).turns}:Fr)
noncomputable abbrev Kk(a:MN)(n:Nat)(u:AV)(fs:List Fr)(bd:List St)(z:Int):VS:=bh a.pre ((((0+n):Nat):Int).toNat+1) (.ar ((((0+n):Nat):Int).toNat+1) 13) (a.steps+1) u<|((fs.take n).set ((((0+n):Nat):Int) - 1).toNat<|G7 fs n).take (((0+n):Nat):Int).toNat++[(⟨bd,0,((eR (cR z<|0)<|8) - 1),false,[0,0,0,0,0,0,0,0],none⟩:Fr)]
noncomputable abbrev Kl(to op nn:Int)(N L:Nat)(aZ n2:Int)(N2 L2:Nat)(bd el:List St):AV:=.tuple [(.agg [(u8<|.ofNat 5),(i6 to),(u8<|op),(i6 nn),(.ab N 0 L),(u8<|aZ),(i6 n2),(.ab N2 0 L2),(.ab (nm (bd.map a9).flatten) 0 bd.length),(.ab (nm (el.map a9).flatten) 0 el.length)]),(.bool true)]
noncomputable abbrev PB(bd:List St)(z:Int):List AV:=[(.ab (nm (bd.map a9).flatten) 0 bd.length),i0,(i6<|((eR (cR z (0:Int)) (8:Int)) - 1)),(.bool false),i0,i0,i0,i0,i0,i0,i0,i0,(.slice none 0<|.known 0)]
noncomputable abbrev Km(a:MN)(n:Nat)(u:AV)(fs:List Fr):VS:=bh a.pre (0+n) (.ar (0+n) 13) (a.steps+1) u<|(fs.take n).set ((((0+n):Nat):Int) - 1).toNat<|G7 fs n
theorem ahG{B:aJ}{a:MN}{n c:Nat}{u:AV}{fs:List Fr}{A1:MN}{m1 c1:Nat}{u1:AV}{bK:List Fr}{A2:MN}{m2 c2:Nat}{u2:AV}{bD:List Fr}{N L N2 L2:Nat}{to op nn aZ n2 z:Int}{bd el:List St}(mc:Mt LM B)(h1:1<=n)(hn:n<=fs.length)(hc:n<=c)(hf:fs.length<=1000000)(hR:fs.length*13<=top)(ay:yQ fs n)(cQ:0<=a.steps/\a.steps<=1000000000000)(hlen:bD.length<=1000000)(pj:(AV.ab A2.G A2.q A2.lg).cq=true)(hz:0<(eR (cR z<|0)<|8)/\(eR (cR z<|0)<|8)<=8)(k0:bQ 10 (bh a.pre n (.ar c 13) a.steps u fs)=true)(k1:vR lP (bh a.pre n (.ar c 13) a.steps u fs) []=some (.agg [(u8<|.ofNat 1),i0,i0]))(k2:((Kl to op nn N L aZ n2 N2 L2 bd el):AV).hi=true)(k3:vR jj (bh a.pre n (.ar c 13) a.steps u fs) []=some (Kl to op nn N L aZ n2 N2 L2 bd el))(k4:([.agg [.int .u8 op,.int .i64 nn,.ab N 0 L]]:List AV).all AV.hi=true)(k5:bQ 10 (Km a n u fs)=true)(k6:vR jG (Km a n u fs) [(.agg [(u8<|op),(i6 nn),(.ab N 0 L)])]=some (i6 z))(k7:bQ 10 (Kk a n u fs bd z)=true)(k8:ep fh (Kk a n u fs bd z) []=some (.tuple [],(bh A1.pre m1 (.ar c1 13) A1.steps u1 bK)))(k9:bQ 10 (bh A1.pre m1 (.ar c1 13) A1.steps u1 bK)=true)(sS:ep fh (bh A1.pre m1 (.ar c1 13) A1.steps u1 bK) []=some (.tuple [],(bh A2.pre m2 (.ar c2 13) A2.steps u2 bD)))(y9:bQ 10 (bh A2.pre m2 (.ar c2 13) A2.steps u2 bD)=true)(H:iJ B (aA Tryz.f49) (bh A2.pre m2 (.ar c2 13) A2.steps u2 bD) (mR 49 2 38<|dq 49 [1,1,1,1,1,1,1,1,1])<|nM A2 m2 (.ar c2 13) u2 bD):iJ B (aA Tryz.f49) (bh A2.pre m2 (.ar c2 13) A2.steps u2 bD) (sF 49 Tryz.f49 [(.ptr<|some (270,0))])<|aj (aq++bO (dP 270 3<|bh a.pre n (.ar c 13) a.steps u fs)) 273:=by have ht:top=549755813888:=rfl;exact Dx mc H (Dy a n c u fs (.agg [(u8<|.ofNat 1),i0,i0]) (Kl to op nn N L aZ n2 N2 L2 bd el) 6<|.en<|.rt 2<|.en<|.st 1<|.rg<|.go 6<|.il<|.st 3<|.rg<|.go 3<|.cg (i6 z) (vG 276) (vQ 276<|Km a n u fs)<|.vl (i6<|(cR z (0:Int)))<|.vl (i6<|(eR (cR z (0:Int)) (8:Int)))<|.go 1<|.en<|.st 1<|.rg<|.go 1<|.fk (.en<|.st 1<|.rg<|.go 4<|.vl (i6<|(eR (cR z (0:Int)) (8:Int)) - 1)<|.go 1<|.il<|.st 3<|.rg<|.go 15<|.s3<|.go 2<|.an (((((fs.take n).set ((((0+n):Nat):Int) - 1).toNat<|G7 fs n)).map aS).flatten) (PB bd z) ((((((fs.take n).set ((((0+n):Nat):Int) - 1).toNat<|G7 fs n).take (((0+n):Nat):Int).toNat++[(⟨bd,0,((eR (cR z<|0)<|8) - 1),false,[0,0,0,0,0,0,0,0],none⟩:Fr)])).map aS).flatten)<|.go 3<|.en<|.rg<|.go 1<|.cg (.tuple []) (vF 280<|bh A1.pre m1 (.ar c1 13) A1.steps u1 bK) (vQ 280<|Kk a n u fs bd z)<|.en<|.rt 1<|.en<|.rt 1<|.en<|.st 1<|.rg<|.go 1<|.cg (.tuple []) (vF 280<|bh A2.pre m2 (.ar c2 13) A2.steps u2 bD) (vQ 280<|bh A1.pre m1 (.ar c1 13) A1.steps u1 bK)<|.en<|.st 2<|(Dw 2 A2 m2 (.ar c2 13) u2 bD 280 281))<|.no)<|Bb LM 38 272 (vR lP) [] (bh a.pre n (.ar c 13) a.steps u fs) (.agg [(u8<|.ofNat 1),i0,i0]) k0 k1<|ko LM 60 272 (vR jj) [] (bh a.pre n (.ar c 13) a.steps u fs) (Kl to op nn N L aZ n2 N2 L2 bd el) k0 k3 cn k2<|ai (wI<|a.steps+1)<|Dv (fs:=fs) (n:=n) ah nH nH<|Dz h1 hn hf ay<|ko LM 61 276 (vR jG) [(.agg [(u8<|op),(i6 nn),(.ab N 0 L)])] (Km a n u fs) (i6 z) k5 k6 k4 cn<|ai (congrArg (AV.int .i64) (show(match decide ((0:Int)>z) with|true=>(0:Int)|false=>z)=cR z (0:Int) from rfl))<|ai (congrArg (AV.int .i64) (show(match decide ((8:Int)<(cR z (0:Int))) with|true=>(8:Int)|false=>(cR z (0:Int)))=eR (cR z (0:Int)) (8:Int) from rfl))<|ax ((eR (cR z (0:Int)) (8:Int))>0) (fun _=>(ai (wI<|(eR (cR z (0:Int)) (8:Int)) - 1)<|ai (show 0<=(((0+n):Nat):Int) from ah)<|ai (show(((0+n):Nat):Int)<=(((0+n):Nat):Int) from ah)<|ai (show(((0+n):Nat):Int)<=Int.ofNat (jB (0+n)<|.ar (0+n) 13) from(show(((0+n):Nat):Int)<=(((0+n):Nat):Int) from by omega))<|MX (fs:=((fs.take n).set ((((0+n):Nat):Int) - 1).toNat<|G7 fs n)) (n:=(((0+n):Nat):Int).toNat) (f:=(⟨bd,0,((eR (cR z<|0)<|8) - 1),false,[0,0,0,0,0,0,0,0],none⟩:Fr)) (cs:=(PB bd z)) (show aS (⟨bd,0,((eR (cR z<|0)<|8) - 1),false,[0,0,0,0,0,0,0,0],none⟩:Fr)=(PB bd z) from rfl) ah nH nH<|xh LM 72 280 (ep fh) [] (Kk a n u fs bd z) (bh A1.pre m1 (.ar c1 13) A1.steps u1 bK) k7 k8 k9<|xh LM 72 280 (ep fh) [] (bh A1.pre m1 (.ar c1 13) A1.steps u1 bK) (bh A2.pre m2 (.ar c2 13) A2.steps u2 bD) k9 sS y9 Yt)) eM
end XV
end
section
open Go Go.Rn Go.RowKit Go.Proofs
namespace XW
open cr fQ fc hI gK jq fF cS dL dj dA gF fT ia ig iv iF iw iG iT iU jH jN kK lr mg jU og pn kJ po
noncomputable abbrev BR(a:MN)(n:Nat)(u:AV)(fs:List Fr):VS:=bh a.pre (0+n) (.ar (0+n) 13) (a.steps+1) u<|(fs.take n).set ((((0+n):Nat):Int) - 1).toNat ({(aB (fs.take n)<|(((0+n):Nat):Int) - 1) with au:=((aB (fs.take n)<|(((0+n):Nat):Int) - 1).au+1),turns:=(aB (fs.take n)<|(((0+n):Nat):Int) - 1).turns}:Fr)
noncomputable abbrev Kn(to op nn:Int)(N L:Nat)(aZ n2:Int)(N2 L2:Nat)(bd el:List St):AV:=.tuple [(.agg [(u8<|.ofNat 5),(i6 to),(u8<|op),(i6 nn),(.ab N 0 L),(u8<|aZ),(i6 n2),(.ab N2 0 L2),(.ab (nm (bd.map a9).flatten) 0 bd.length),(.ab (nm (el.map a9).flatten) 0 el.length)]),(.bool true)]
theorem ahH{B:aJ}{a:MN}{n c:Nat}{u:AV}{fs:List Fr}{A1:MN}{m1 c1:Nat}{u1:AV}{bK:List Fr}{N L N2 L2:Nat}{to op nn aZ n2 z:Int}{bd el:List St}(mc:Mt LM B)(h1:1<=n)(hn:n<=fs.length)(hc:n<=c)(hf:fs.length<=1000000)(hR:fs.length*13<=top)(ay:yQ fs n)(cQ:0<=a.steps/\a.steps<=1000000000000)(hlen:bK.length<=1000000)(pj:(AV.ab A1.G A1.q A1.lg).cq=true)(hz:(eR (cR z<|0)<|8)<=0)(k0:bQ 10 (bh a.pre n (.ar c 13) a.steps u fs)=true)(k1:vR lP (bh a.pre n (.ar c 13) a.steps u fs) []=some (.agg [(u8<|.ofNat 1),i0,i0]))(k2:((Kn to op nn N L aZ n2 N2 L2 bd el):AV).hi=true)(k3:vR jj (bh a.pre n (.ar c 13) a.steps u fs) []=some (Kn to op nn N L aZ n2 N2 L2 bd el))(k4:([.agg [.int .u8 op,.int .i64 nn,.ab N 0 L]]:List AV).all AV.hi=true)(k5:bQ 10 (BR a n u fs)=true)(k6:vR jG (BR a n u fs) [(.agg [(u8<|op),(i6 nn),(.ab N 0 L)])]=some (i6 z))(k7:ep fh (BR a n u fs) []=some (.tuple [],(bh A1.pre m1 (.ar c1 13) A1.steps u1 bK)))(k8:bQ 10 (bh A1.pre m1 (.ar c1 13) A1.steps u1 bK)=true)(H:iJ B (aA Tryz.f49) (bh A1.pre m1 (.ar c1 13) A1.steps u1 bK) (mR 49 2 38<|dq 49 [1,1,1,1,1,1,1,1,1])<|nM A1 m1 (.ar c1 13) u1 bK):iJ B (aA Tryz.f49) (bh A1.pre m1 (.ar c1 13) A1.steps u1 bK) (sF 49 Tryz.f49 [(.ptr<|some (270,0))])<|aj (aq++bO (dP 270 3<|bh a.pre n (.ar c 13) a.steps u fs)) 273:=by have ht:top=549755813888:=rfl;exact Dx mc H (Dy a n c u fs (.agg [(u8<|.ofNat 1),i0,i0]) (Kn to op nn N L aZ n2 N2 L2 bd el) 6<|.en<|.rt 2<|.en<|.st 1<|.rg<|.go 6<|.il<|.st 3<|.rg<|.go 3<|.cg (i6 z) (vG 276) (vQ 276<|BR a n u fs)<|.vl (i6<|(cR z (0:Int)))<|.vl (i6<|(eR (cR z (0:Int)) (8:Int)))<|.go 1<|.en<|.st 1<|.rg<|.go 1<|.fk (.no)<|.en<|.rt 3<|.en<|.st 1<|.rg<|.go 1<|.cg (.tuple []) (vF 276<|bh A1.pre m1 (.ar c1 13) A1.steps u1 bK) (vQ 276<|BR a n u fs)<|.en<|.st 2<|(Dw 2 A1 m1 (.ar c1 13) u1 bK 276 278))<|Bb LM 38 272 (vR lP) [] (bh a.pre n (.ar c 13) a.steps u fs) (.agg [(u8<|.ofNat 1),i0,i0]) k0 k1<|ko LM 60 272 (vR jj) [] (bh a.pre n (.ar c 13) a.steps u fs) (Kn to op nn N L aZ n2 N2 L2 bd el) k0 k3 cn k2<|ai (wI<|a.steps+1)<|Dv (fs:=fs) (n:=n) ah nH nH<|Dz h1 hn hf ay<|ko LM 61 276 (vR jG) [(.agg [(u8<|op),(i6 nn),(.ab N 0 L)])] (BR a n u fs) (i6 z) k5 k6 k4 cn<|ai (congrArg (AV.int .i64) (show(match decide ((0:Int)>z) with|true=>(0:Int)|false=>z)=cR z (0:Int) from rfl))<|ai (congrArg (AV.int .i64) (show(match decide ((8:Int)<(cR z (0:Int))) with|true=>(8:Int)|false=>(cR z (0:Int)))=eR (cR z (0:Int)) (8:Int) from rfl))<|ax ((eR (cR z (0:Int)) (8:Int))>0) eM fun _=>(xh LM 72 276 (ep fh) [] (BR a n u fs) (bh A1.pre m1 (.ar c1 13) A1.steps u1 bK) k5 k7 k8<|F3 49 2 38 (dq 49 [1,1,1,1,1,1,1,1,1]) A1 m1 (.ar c1 13) u1 bK 276 278 hlen pj)
end XW
end
section
open Go Go.Rn Go.RowKit Go.Proofs
namespace YO
open cr fQ fc hI gK jq fF cS dL dj dA gF fT ia ig iv iF iw iG iT iU jH jN kK lr mg jU og pn kJ po
noncomputable abbrev K6(a:MN)(n:Nat)(ub:AV)(fs:List Fr)(bd el:List St):VS:=bh a.pre ((((0+n):Nat):Int).toNat+1) (.ar ((((0+n):Nat):Int).toNat+1) 13) (a.steps+1) ub<|((fs.take n).set ((((0+n):Nat):Int) - 1).toNat ({(aB (fs.take n)<|(((0+n):Nat):Int) - 1) with au:=((aB (fs.take n)<|(((0+n):Nat):Int) - 1).au+1),turns:=(aB (fs.take n)<|(((0+n):Nat):Int) - 1).turns}:Fr)).take (((0+n):Nat):Int).toNat++[(⟨bd,0,0,true,[a.x0,a.x1,a.x2,a.x3,a.x4,a.x5,a.x6,a.x7],(some el)⟩:Fr)]
noncomputable abbrev K7(to op nn:Int)(N L:Nat)(aZ n2:Int)(N2 L2:Nat)(bd el:List St):AV:=.tuple [(.agg [(u8<|.ofNat 7),(i6 to),(u8<|op),(i6 nn),(.ab N 0 L),(u8<|aZ),(i6 n2),(.ab N2 0 L2),(.ab (nm (bd.map a9).flatten) 0 bd.length),(.ab (nm (el.map a9).flatten) 0 el.length)]),(.bool true)]
noncomputable abbrev P7(bd:List St)(a:MN)(el:List St):List AV:=[(.ab (nm (bd.map a9).flatten) 0 bd.length),i0,i0,(.bool true),(i6 a.x0),(i6 a.x1),(i6 a.x2),(i6 a.x3),(i6 a.x4),(i6 a.x5),(i6 a.x6),(i6 a.x7),(.ab (nm (el.map a9).flatten) 0 el.length)]
noncomputable abbrev P8(fs:List Fr)(n:Nat):Fr:=({(aB (fs.take n)<|(((0+n):Nat):Int) - 1) with au:=((aB (fs.take n)<|(((0+n):Nat):Int) - 1).au+1),turns:=(aB (fs.take n)<|(((0+n):Nat):Int) - 1).turns}:Fr)
theorem ajs{B:aJ}{a:MN}{n c:Nat}{u:AV}{fs:List Fr}{A1:MN}{m1 c1:Nat}{u1:AV}{bK:List Fr}{A2:MN}{m2 c2:Nat}{u2:AV}{bD:List Fr}{N L N2 L2:Nat}{to op nn aZ n2 z:Int}{bd el:List St}{ub:AV}(mc:Mt LM B)(h1:1<=n)(hn:n<=fs.length)(hc:n<=c)(hf:fs.length<=1000000)(hR:fs.length*13<=top)(ay:yQ fs n)(cQ:0<=a.steps/\a.steps<=1000000000000)(hlen:bD.length<=1000000)(pj:(AV.ab A2.G A2.q A2.lg).cq=true)(k0:bQ 10 (bh a.pre n (.ar c 13) a.steps u fs)=true)(k1:vR lP (bh a.pre n (.ar c 13) a.steps u fs) []=some (.agg [(u8<|.ofNat 1),i0,i0]))(k2:((K7 to op nn N L aZ n2 N2 L2 bd el):AV).hi=true)(k3:vR jj (bh a.pre n (.ar c 13) a.steps u fs) []=some (K7 to op nn N L aZ n2 N2 L2 bd el))(k4:gQ (eW cv KY) u []=some ((.int .i64 0:AV),ub))(k5:bQ 10 (K6 a n ub fs bd el)=true)(k6:ep fh (K6 a n ub fs bd el) []=some (.tuple [],(bh A1.pre m1 (.ar c1 13) A1.steps u1 bK)))(k7:bQ 10 (bh A1.pre m1 (.ar c1 13) A1.steps u1 bK)=true)(k8:ep fh (bh A1.pre m1 (.ar c1 13) A1.steps u1 bK) []=some (.tuple [],(bh A2.pre m2 (.ar c2 13) A2.steps u2 bD)))(k9:bQ 10 (bh A2.pre m2 (.ar c2 13) A2.steps u2 bD)=true)(H:iJ B (aA Tryz.f49) (bh A2.pre m2 (.ar c2 13) A2.steps u2 bD) (mR 49 2 38<|dq 49 [1,1,1,1,1,1,1,1,1])<|nM A2 m2 (.ar c2 13) u2 bD):iJ B (aA Tryz.f49) (bh A2.pre m2 (.ar c2 13) A2.steps u2 bD) (sF 49 Tryz.f49 [(.ptr<|some (270,0))])<|aj (aq++bO (dP 270 3<|bh a.pre n (.ar c 13) a.steps u fs)) 273:=by have ht:top=549755813888:=rfl;exact Dx mc H (Dy a n c u fs (.agg [(u8<|.ofNat 1),i0,i0]) (K7 to op nn N L aZ n2 N2 L2 bd el) 6<|.en<|.rt 2<|.en<|.st 1<|.rg<|.go 6<|.il<|.st 3<|.rg<|.go 4<|.kt i0 ub<|.en<|.rg<|.go 10<|.il<|.st 3<|.rg<|.go 15<|.s3<|.go 2<|.an (((((fs.take n).set ((((0+n):Nat):Int) - 1).toNat<|P8 fs n)).map aS).flatten) (P7 bd a el) ((((((fs.take n).set ((((0+n):Nat):Int) - 1).toNat<|P8 fs n).take (((0+n):Nat):Int).toNat++[(⟨bd,0,0,true,[a.x0,a.x1,a.x2,a.x3,a.x4,a.x5,a.x6,a.x7],(some el)⟩:Fr)])).map aS).flatten)<|.go 3<|.en<|.rg<|.go 1<|.cg (.tuple []) (vF 280<|bh A1.pre m1 (.ar c1 13) A1.steps u1 bK) (vQ 280<|K6 a n ub fs bd el)<|.en<|.rt 1<|.en<|.rt 1<|.en<|.st 1<|.rg<|.go 1<|.cg (.tuple []) (vF 280<|bh A2.pre m2 (.ar c2 13) A2.steps u2 bD) (vQ 280<|bh A1.pre m1 (.ar c1 13) A1.steps u1 bK)<|.en<|.st 2<|(Dw 2 A2 m2 (.ar c2 13) u2 bD 280 281))<|Bb LM 38 272 (vR lP) [] (bh a.pre n (.ar c 13) a.steps u fs) (.agg [(u8<|.ofNat 1),i0,i0]) k0 k1<|ko LM 60 272 (vR jj) [] (bh a.pre n (.ar c 13) a.steps u fs) (K7 to op nn N L aZ n2 N2 L2 bd el) k0 k3 cn k2<|ai (wI<|a.steps+1)<|Dv (fs:=fs) (n:=n) ah nH nH<|Dz h1 hn hf ay<|ai k4<|ai (show 0<=(((0+n):Nat):Int) from ah)<|ai (show(((0+n):Nat):Int)<=(((0+n):Nat):Int) from ah)<|ai (show(((0+n):Nat):Int)<=Int.ofNat (jB (0+n)<|.ar (0+n) 13) from(show(((0+n):Nat):Int)<=(((0+n):Nat):Int) from by omega))<|MX (fs:=((fs.take n).set ((((0+n):Nat):Int) - 1).toNat<|P8 fs n)) (n:=(((0+n):Nat):Int).toNat) (f:=(⟨bd,0,0,true,[a.x0,a.x1,a.x2,a.x3,a.x4,a.x5,a.x6,a.x7],(some el)⟩:Fr)) (cs:=(P7 bd a el)) (show aS (⟨bd,0,0,true,[a.x0,a.x1,a.x2,a.x3,a.x4,a.x5,a.x6,a.x7],(some el)⟩:Fr)=(P7 bd a el) from rfl) ah nH nH<|xh LM 72 280 (ep fh) [] (K6 a n ub fs bd el) (bh A1.pre m1 (.ar c1 13) A1.steps u1 bK) k5 k6 k7<|xh LM 72 280 (ep fh) [] (bh A1.pre m1 (.ar c1 13) A1.steps u1 bK) (bh A2.pre m2 (.ar c2 13) A2.steps u2 bD) k7 k8 k9 Yt
end YO
end
section
open Go Go.Rn Go.RowKit Go.Proofs
namespace YP
open cr fQ fc hI gK jq fF cS dL dj dA gF fT ia ig iv iF iw iG iT iU jH jN kK lr mg jU og pn kJ po
noncomputable abbrev EC(fs:List Fr)(n:Nat):Fr:=({(aB (fs.take n)<|(((0+n):Nat):Int) - 1) with au:=((aB (fs.take n)<|(((0+n):Nat):Int) - 1).au+1),turns:=(aB (fs.take n)<|(((0+n):Nat):Int) - 1).turns}:Fr)
noncomputable abbrev K8(a:MN)(y0 y1 y2 y3 y4 y5 y6 y7 wi:Int)(ub:AV)(fs:List Fr)(n:Nat)(ol:List St):VS:=bh [(i6 a.vars),(.ab a.G a.q a.lg),(i6 y0),(i6 y1),(i6 y2),(i6 y3),(i6 y4),(i6 y5),(i6 y6),(i6 y7)] ((((wi).toNat:Nat):Int).toNat+1) (.ar ((((wi).toNat:Nat):Int).toNat+1) 13) (a.steps+1) ub<|((fs.take n).set ((((0+n):Nat):Int) - 1).toNat<|EC fs n).take (((wi).toNat:Nat):Int).toNat++[(⟨ol,0,0,false,[0,0,0,0,0,0,0,0],none⟩:Fr)]
noncomputable abbrev K9(to op nn:Int)(N L:Nat)(aZ n2:Int)(N2 L2:Nat)(bd el:List St):AV:=.tuple [(.agg [(u8<|.ofNat 6),(i6 to),(u8<|op),(i6 nn),(.ab N 0 L),(u8<|aZ),(i6 n2),(.ab N2 0 L2),(.ab (nm (bd.map a9).flatten) 0 bd.length),(.ab (nm (el.map a9).flatten) 0 el.length)]),(.bool true)]
noncomputable abbrev Lc(a:MN)(n:Nat)(u:AV)(fs:List Fr):VS:=bh a.pre (0+n) (.ar (0+n) 13) (a.steps+1) u<|(fs.take n).set ((((0+n):Nat):Int) - 1).toNat<|EC fs n
noncomputable abbrev P9(ol:List St):List AV:=[(.ab (nm (ol.map a9).flatten) 0 ol.length),i0,i0,(.bool false),i0,i0,i0,i0,i0,i0,i0,i0,(.slice none 0<|.known 0)]
theorem ajt{B:aJ}{a:MN}{n c:Nat}{u:AV}{fs:List Fr}{A1:MN}{m1 c1:Nat}{u1:AV}{bK:List Fr}{A2:MN}{m2 c2:Nat}{u2:AV}{bD:List Fr}{N L N2 L2:Nat}{to op nn aZ n2 z wi:Int}{bd el ol fb:List St}{fa ft y0 y1 y2 y3 y4 y5 y6 y7:Int}{fo:Bool}{ub:AV}(mc:Mt LM B)(h1:1<=n)(hn:n<=fs.length)(hc:n<=c)(hf:fs.length<=1000000)(hR:fs.length*13<=top)(ay:yQ fs n)(cQ:0<=a.steps/\a.steps<=1000000000000)(hlen:bD.length<=1000000)(pj:(AV.ab A2.G A2.q A2.lg).cq=true)(hz:1<=wi/\wi<(n:Int))(k0:bQ 10 (bh a.pre n (.ar c 13) a.steps u fs)=true)(k1:vR lP (bh a.pre n (.ar c 13) a.steps u fs) []=some (.agg [(u8<|.ofNat 1),i0,i0]))(k2:((K9 to op nn N L aZ n2 N2 L2 bd el):AV).hi=true)(k3:vR jj (bh a.pre n (.ar c 13) a.steps u fs) []=some (K9 to op nn N L aZ n2 N2 L2 bd el))(k4:bQ 10 (Lc a n u fs)=true)(k5:vR rV (Lc a n u fs) []=some (i6 wi))(k6:((fs.take n).set ((((0+n):Nat):Int) - 1).toNat<|EC fs n)[wi.toNat]? =some (⟨fb,fa,ft,fo,[y0,y1,y2,y3,y4,y5,y6,y7],some ol⟩:Fr))(k7:gQ (eW cv KZ) u []=some ((.int .i64 0:AV),ub))(k8:bQ 10 (K8 a y0 y1 y2 y3 y4 y5 y6 y7 wi ub fs n ol)=true)(k9:ep fh (K8 a y0 y1 y2 y3 y4 y5 y6 y7 wi ub fs n ol) []=some (.tuple [],(bh A1.pre m1 (.ar c1 13) A1.steps u1 bK)))(sS:bQ 10 (bh A1.pre m1 (.ar c1 13) A1.steps u1 bK)=true)(y9:ep fh (bh A1.pre m1 (.ar c1 13) A1.steps u1 bK) []=some (.tuple [],(bh A2.pre m2 (.ar c2 13) A2.steps u2 bD)))(k12:bQ 10 (bh A2.pre m2 (.ar c2 13) A2.steps u2 bD)=true)(H:iJ B (aA Tryz.f49) (bh A2.pre m2 (.ar c2 13) A2.steps u2 bD) (mR 49 2 38<|dq 49 [1,1,1,1,1,1,1,1,1])<|nM A2 m2 (.ar c2 13) u2 bD):iJ B (aA Tryz.f49) (bh A2.pre m2 (.ar c2 13) A2.steps u2 bD) (sF 49 Tryz.f49 [(.ptr<|some (270,0))])<|aj (aq++bO (dP 270 3<|bh a.pre n (.ar c 13) a.steps u fs)) 273:=by have ht:top=549755813888:=rfl;exact Dx mc H (Dy a n c u fs (.agg [(u8<|.ofNat 1),i0,i0]) (K9 to op nn N L aZ n2 N2 L2 bd el) 6<|.en<|.rt 2<|.en<|.st 1<|.rg<|.go 6<|.il<|.st 3<|.rg<|.go 1<|.cg (i6 wi) (vG 276) (vQ 276<|Lc a n u fs)<|.go 1<|.en<|.st 1<|.rg<|.go 5<|.ix<|.ld [(.ab (nm (fb.map a9).flatten) 0 fb.length),(i6 fa),(i6 ft),(.bool fo),(i6 y0),(i6 y1),(i6 y2),(i6 y3),(i6 y4),(i6 y5),(i6 y6),(i6 y7),(.ab (nm (ol.map a9).flatten) 0 ol.length)]<|.go 2<|.en<|.st 1<|.rg<|.go 6<|.so<|.go 3<|.en<|.st 1<|.rg<|.go 4<|.kt i0 ub<|.en<|.st 2<|.rg<|.go 4<|.il<|.st 3<|.rg<|.go 15<|.s3<|.go 2<|.an (((((fs.take n).set ((((0+n):Nat):Int) - 1).toNat<|EC fs n)).map aS).flatten) (P9 ol) ((((((fs.take n).set ((((0+n):Nat):Int) - 1).toNat<|EC fs n).take (((wi).toNat:Nat):Int).toNat++[(⟨ol,0,0,false,[0,0,0,0,0,0,0,0],none⟩:Fr)])).map aS).flatten)<|.go 3<|.en<|.rg<|.go 1<|.cg (.tuple []) (vF 281<|bh A1.pre m1 (.ar c1 13) A1.steps u1 bK) (vQ 281<|K8 a y0 y1 y2 y3 y4 y5 y6 y7 wi ub fs n ol)<|.en<|.rt 1<|.en<|.rt 1<|.en<|.st 1<|.rg<|.go 1<|.cg (.tuple []) (vF 281<|bh A2.pre m2 (.ar c2 13) A2.steps u2 bD) (vQ 281<|bh A1.pre m1 (.ar c1 13) A1.steps u1 bK)<|.en<|.st 2<|(Dw 2 A2 m2 (.ar c2 13) u2 bD 281 282))<|Bb LM 38 272 (vR lP) [] (bh a.pre n (.ar c 13) a.steps u fs) (.agg [(u8<|.ofNat 1),i0,i0]) k0 k1<|ko LM 60 272 (vR jj) [] (bh a.pre n (.ar c 13) a.steps u fs) (K9 to op nn N L aZ n2 N2 L2 bd el) k0 k3 cn k2<|ai (wI<|a.steps+1)<|Dv (fs:=fs) (n:=n) ah nH nH<|Dz h1 hn hf ay<|Bb LM 62 276 (vR rV) [] (Lc a n u fs) (i6 wi) k4 k5<|eZ wi (((0+n):Nat):Int)<|ai (nk jx nH k6 0 13 rfl)<|ai (show(0:Int)=0 from rfl)<|ai (show 0<=wi from ah)<|ai (show wi<=Int.ofNat (jB (0+n)<|.ar (0+n) 13) from(show wi<=(((0+n):Nat):Int) from by omega))<|ai k7<|ai (show 0<=(((wi).toNat:Nat):Int) from ah)<|ai (show(((wi).toNat:Nat):Int)<=(((wi).toNat:Nat):Int) from ah)<|ai (show(((wi).toNat:Nat):Int)<=Int.ofNat (jB ((wi).toNat)<|.ar (0+n) 13) from(show(((wi).toNat:Nat):Int)<=(((0+n):Nat):Int) from by omega))<|MX (fs:=((fs.take n).set ((((0+n):Nat):Int) - 1).toNat<|EC fs n)) (n:=(((wi).toNat:Nat):Int).toNat) (f:=(⟨ol,0,0,false,[0,0,0,0,0,0,0,0],none⟩:Fr)) (cs:=(P9 ol)) (show aS (⟨ol,0,0,false,[0,0,0,0,0,0,0,0],none⟩:Fr)=(P9 ol) from rfl) ah nH nH<|xh LM 72 281 (ep fh) [] (K8 a y0 y1 y2 y3 y4 y5 y6 y7 wi ub fs n ol) (bh A1.pre m1 (.ar c1 13) A1.steps u1 bK) k8 k9 sS<|xh LM 72 281 (ep fh) [] (bh A1.pre m1 (.ar c1 13) A1.steps u1 bK) (bh A2.pre m2 (.ar c2 13) A2.steps u2 bD) sS y9 k12<|F3 49 2 38 (dq 49 [1,1,1,1,1,1,1,1,1]) A2 m2 (.ar c2 13) u2 bD 281 282 hlen pj
end YP
end
section
open Go Go.Rn Go.RowKit Go.Proofs
namespace YQ
open cr fQ fc hI gK jq fF cS dL dj dA gF fT ia ig iv iF iw iG iT iU jH jN kK lr mg jU og pn kJ po
noncomputable abbrev yk(a:MN)(to xx:Int)(n:Nat)(u:AV)(fs:List Fr):VS:=bh ((a.pre:List AV).set (2+to.toNat)<|i6 xx) (0+n) (.ar (0+n) 13) (a.steps+1) u<|(fs.take n).set ((((0+n):Nat):Int) - 1).toNat ({(aB (fs.take n)<|(((0+n):Nat):Int) - 1) with au:=((aB (fs.take n)<|(((0+n):Nat):Int) - 1).au+1),turns:=(aB (fs.take n)<|(((0+n):Nat):Int) - 1).turns}:Fr)
noncomputable abbrev Lf(to op nn:Int)(N L:Nat)(aZ n2:Int)(N2 L2:Nat)(bd el:List St):AV:=.tuple [(.agg [(u8<|.ofNat 2),(i6 to),(u8<|op),(i6 nn),(.ab N 0 L),(u8<|aZ),(i6 n2),(.ab N2 0 L2),(.ab (nm (bd.map a9).flatten) 0 bd.length),(.ab (nm (el.map a9).flatten) 0 el.length)]),(.bool true)]
theorem aju{B:aJ}{a:MN}{n c:Nat}{u:AV}{fs:List Fr}{A1:MN}{m1 c1:Nat}{u1:AV}{bK:List Fr}{N L N2 L2:Nat}{to op nn aZ n2 z wi:Int}{bd el:List St}{xx:Int}(mc:Mt LM B)(h1:1<=n)(hn:n<=fs.length)(hc:n<=c)(hf:fs.length<=1000000)(hR:fs.length*13<=top)(ay:yQ fs n)(cQ:0<=a.steps/\a.steps<=1000000000000)(hlen:bK.length<=1000000)(pj:(AV.ab A1.G A1.q A1.lg).cq=true)(h0:0<=to)(h8:to<8)(k0:bQ 10 (bh a.pre n (.ar c 13) a.steps u fs)=true)(k1:vR lP (bh a.pre n (.ar c 13) a.steps u fs) []=some (.agg [(u8<|.ofNat 2),(i6 wi),i0]))(k2:((Lf to op nn N L aZ n2 N2 L2 bd el):AV).hi=true)(k3:vR jj (bh a.pre n (.ar c 13) a.steps u fs) []=some (Lf to op nn N L aZ n2 N2 L2 bd el))(k4:bQ 10 (yk a to xx n u fs)=true)(k5:ep fh (yk a to xx n u fs) []=some (.tuple [],(bh A1.pre m1 (.ar c1 13) A1.steps u1 bK)))(k6:bQ 10 (bh A1.pre m1 (.ar c1 13) A1.steps u1 bK)=true)(H:iJ B (aA Tryz.f55) (bh A1.pre m1 (.ar c1 13) A1.steps u1 bK) (mR 55 4 38<|dq 55 [1,1,1,1,1,1,1,1])<|nM A1 m1 (.ar c1 13) u1 bK):iJ B (aA Tryz.f55) (bh A1.pre m1 (.ar c1 13) A1.steps u1 bK) (sF 55 Tryz.f55 [(.ptr<|some (270,0)),(i6 xx)])<|aj (aq++bO (dP 270 3<|bh a.pre n (.ar c 13) a.steps u fs)) 273:=by have ht:top=549755813888:=rfl;exact Dx mc H (Dy a n c u fs (.agg [(u8<|.ofNat 2),(i6 wi),i0]) (Lf to op nn N L aZ n2 N2 L2 bd el) 4<|.en<|.rt 2<|.en<|.st 1<|.rg<|.go 6<|.Dd<|.sQ (aI kD<|((a.row (.ptr<|some (271,0)) (.slice (some (275,0)) ((0+n))<|.ar (0+n) 13)<|i6<|(a.steps+1)):List AV).set (2+to.toNat)<|i6 xx)<|.en<|.st 1<|.rg<|.go 1<|.cg (.tuple []) (LD 270 dV eB 3 270 271 275<|bh A1.pre m1 (.ar c1 13) A1.steps u1 bK) (HI 270 dV eB 3 270 271 275<|yk a to xx n u fs)<|.en<|.st 2<|(Dw 4 A1 m1 (.ar c1 13) u1 bK 275 276))<|Bb LM 38 272 (vR lP) [] (bh a.pre n (.ar c 13) a.steps u fs) (.agg [(u8<|.ofNat 2),(i6 wi),i0]) k0 k1<|ko LM 60 272 (vR jj) [] (bh a.pre n (.ar c 13) a.steps u fs) (Lf to op nn N L aZ n2 N2 L2 bd el) k0 k3 cn k2<|ai (wI<|a.steps+1)<|Dv (fs:=fs) (n:=n) ah nH nH<|Dz h1 hn hf ay<|eZ to (Int.ofNat 8)<|ai (OP (c':=(i6 xx)) (show((a.row (.ptr<|some (271,0)) (.slice (some (275,0)) ((0+n))<|.ar (0+n) 13)<|i6<|(a.steps+1)):List AV).length<=top from aL.1 uC) (VV (a.row (.ptr<|some (271,0)) (.slice (some (275,0)) ((0+n))<|.ar (0+n) 13)<|i6<|(a.steps+1)) (k:=2+to.toNat) ah) rfl)<|ai (Pw (P:=pg) (F:=FU) (sp:=sp LM) (g:=72) (U:=270) (h0:=dV) (ns:=eB) (rest:=[]) (n:=5) (kp:=10) (k:=3) (val:=ep fh) (a:=270) (r1:=271) (r2:=275) (st:=(yk a to xx n u fs)) (bq:=(bh A1.pre m1 (.ar c1 13) A1.steps u1 bK)) (y:=.tuple []) cn cn cn cn (by simp only[List.length_set];rfl) k4 k5 cn k6)<|ai (show true=true/\true=true/\(some (aI kD<|((a.row (.ptr<|some (271,0)) (.slice (some (275,0)) ((0+n))<|.ar (0+n) 13)<|i6<|(a.steps+1)):List AV).set (2+to.toNat)<|i6 xx):Option ae)=some (bt<|dY ((yk a to xx n u fs)).R 271 275)/\(some (.tok 3 ((yk a to xx n u fs)).u):Option ae)=some (.tok 3 ((yk a to xx n u fs)).u)/\some (bt ((yk a to xx n u fs)).row)=some (bt ((yk a to xx n u fs)).row) from⟨rfl,rfl,congrArg some<|VW (pre:=a.pre) (post:=[(i6<|(a.steps+1))]) (len:=(0+n)) (i:=(2+to.toNat)) (r1:=271) (r2:=275) (cap:=(.ar (0+n) 13)) (c:=(i6 xx)) (by show(2+to.toNat)<10;omega),rfl,rfl⟩)<|F3 55 4 38 (dq 55 [1,1,1,1,1,1,1,1]) A1 m1 (.ar c1 13) u1 bK 275 276 hlen pj
end YQ
end
section
open Go Go.Rn Go.RowKit Go.Proofs
namespace pq
open cr fQ fc hI fF cS dL dj dA gF fT ia ig iv iF iw iG iT iU jH jN kK lr mg jU gK jq
variable {fs:List Fr} {f:Fr}
def lX:Nat->List Fr->bA->Option (List Fr×bA)
 |0,_,_=>none
 |_+1,[],b=>some ([],b)
 |k+1,f::r,b=>
  if f.au<(f.block.length:Int) then some (f::r,b)
  else if 0<f.turns then if 0<(f.block.length:Int) then some ({f with au:=0,turns:=f.turns - 1}::r,b) else lX k ({f with au:=0,turns:=f.turns - 1}::r) b
  else if f.aU=true then(if 2<=b.length then lX k r (gU b) else none)
  else lX k r b
def below:List Fr->Option (Fr×List Fr)
 |[]=>none
 |f::r=>if f.aU=true then some (f,r) else below r
theorem OZ{n:Nat}{r:List Fr}(hn:n<=fs.length)(h:(fs.take n).reverse=f::r):∃m,n=m+1/\m<fs.length/\fs[m]? =some f/\(fs.take m).reverse=r:=by
 cases n with
 |zero=>simp at h
 |succ m=>
  have hm:m<fs.length:=by omega
  rw[List.take_add_one,List.getElem?_eq_getElem hm] at h;simp only[Option.toList,List.reverse_append,List.reverse_cons,List.reverse_nil,List.nil_append,List.cons_append,List.cons.injEq] at h;exact⟨m,rfl,hm,by rw[List.getElem?_eq_getElem hm,h.1],h.2⟩
theorem aej{m:Nat}(h:fs[m]? =some f):(fs.take<|m+1).reverse=f::(fs.take m).reverse:=by rw[List.take_add_one,h];simp only[Option.toList,List.reverse_append,List.reverse_cons,List.reverse_nil,List.nil_append,List.cons_append]
theorem O0{m:Nat}(h:fs[m]? =some f):aB fs (m:Int)=f:=by unfold aB;rw[List.getD_eq_getElem?_getD,show((m:Int)).toNat=m by omega,h];rfl
theorem Vo{m:Nat}(h:fs[m]? =some f):aB fs (((m+1:Nat):Int) - 1)=f:=by rw[show(((m+1:Nat):Int) - 1)=(m:Int) by omega];exact O0 h
theorem take_set{m:Nat}(g:Fr)(hm:m<fs.length):((fs.set m g).take<|m+1).reverse=g::(fs.take m).reverse:=by rw[aej (f:=g)<|by rw[List.getElem?_set_self hm]];congr 2;rw[List.take_set_of_le<|Nat.le_refl m]
theorem JE:∀(k n:Nat) (fs:List Fr) (b:bA) (st bq:List Fr) (b':bA),lX k st b=some (bq,b')->n<=fs.length->(fs.take n).reverse=st->∃n' da,oH k n fs b=some (n',da,b')/\n'<=n/\da.length=fs.length/\(da.take n').reverse=bq
 |0,_,_,_,_,_,_,h,_,_=>by cases h
 |k+1,n,fs,b,st,bq,b',h,hn,e=>by
  cases st with
  |nil=>
   have n0:n=0:=by have:=congrArg List.length e;rw[List.length_reverse,List.length_take] at this;simp only[List.length_nil] at this;omega
   unfold lX at h;injection h with h;injection h with h1 h2
   subst h1;subst h2;exact⟨n,fs,by unfold oH;rw[if_pos n0],Nat.le_refl _,rfl,e⟩
  |cons f r=>
   obtain⟨m,rfl,hm,hf,hr⟩:=OZ hn e;have ef:=Vo hf;have em:(((m+1:Nat):Int) - 1).toNat=m:=by omega
   unfold lX at h;unfold oH;rw[if_neg ah];simp only[ef,em];by_cases c1:f.au<(f.block.length:Int)
   ·rw[if_pos c1] at h ⊢;injection h with h;injection h with h1 h2
    subst h1;subst h2;exact⟨m+1,fs,rfl,Nat.le_refl _,rfl,e⟩
   ·rw[if_neg c1] at h ⊢;by_cases c2:0<f.turns
    ·rw[if_pos c2] at h ⊢;have e2:=take_set {f with au:=0,turns:=f.turns - 1} hm;rw[hr] at e2;by_cases c3:0<(f.block.length:Int)
     ·rw[if_pos c3] at h ⊢;injection h with h;injection h with h1 h2
      subst h1;subst h2;exact⟨m+1,_,rfl,Nat.le_refl _,List.length_set,e2⟩
     ·rw[if_neg c3] at h ⊢;obtain⟨n',da,a1,a2,a3,a4⟩:=JE k (m+1) _ b _ _ _ h (by rw[List.length_set];exact hn) e2;exact⟨n',da,a1,a2,a3.trans List.length_set,a4⟩
    ·rw[if_neg c2] at h ⊢;by_cases c4:f.aU=true
     ·rw[if_pos c4] at h ⊢;by_cases c5:2<=b.length
      ·rw[if_pos c5] at h ⊢;obtain⟨n',da,a1,a2,a3,a4⟩:=JE k m fs _ _ _ _ h ah hr;exact⟨n',da,a1,by omega,a3,a4⟩
      ·rw[if_neg c5] at h;cases h
     ·rw[if_neg c4] at h ⊢;obtain⟨n',da,a1,a2,a3,a4⟩:=JE k m fs _ _ _ _ h ah hr;exact⟨n',da,a1,by omega,a3,a4⟩
theorem O1:∀(n:Nat) (fs:List Fr) (st:List Fr),n<=fs.length->(fs.take n).reverse=st->(below st=none->kx fs n= -1)/\(∀g r,below st=some (g,r)->∃i:Nat,kx fs n=(i:Int)/\i<n/\fs[i]? =some g/\(fs.take i).reverse=r)
 |0,fs,st,hn,e=>by rw[List.take_zero] at e;subst e;exact⟨fun _=>rfl,fun g r h=>by cases h⟩
 |n+1,fs,st,hn,e=>by
  cases st with
  |nil=>have:=congrArg List.length e;rw[List.length_reverse,List.length_take] at this;simp only[List.length_nil] at this;omega
  |cons f r=>
   obtain⟨m,ME,hm,hf,hr⟩:=OZ hn e;have ME:n=m:=by omega
   subst ME;have ef:=O0 hf;obtain⟨h1,h2⟩:=O1 n fs r ah hr;unfold below kx;rw[ef];by_cases c:f.aU=true
   ·rw[if_pos c,if_pos c];refine⟨fun h=>(by cases h),fun g r' h=>?_⟩;injection h with h;injection h with e1 e2
    subst e1;subst e2;exact⟨n,rfl,by omega,hf,hr⟩
   ·rw[if_neg c,if_neg c];refine⟨h1,fun g r' h=>?_⟩;obtain⟨i,a1,a2,a3,a4⟩:=h2 g r' h;exact⟨i,a1,by omega,a3,a4⟩
theorem DO:∀(k:Nat) (st:List Fr) (b:bA) (bq:List Fr) (b':bA),lX k st b=some (bq,b')->bq=[]\/∃f r,bq=f::r/\f.au<(f.block.length:Int)
 |0,_,_,_,_,h=>by cases h
 |k+1,[],b,bq,b',h=>by
  unfold lX at h;injection h with h;injection h with h1 h2
  exact .inl h1.symm
 |k+1,f::r,b,bq,b',h=>by
  unfold lX at h;by_cases c1:f.au<(f.block.length:Int)
  ·rw[if_pos c1] at h;injection h with h;injection h with h1 h2
   exact .inr ⟨f,r,h1.symm,c1⟩
  ·rw[if_neg c1] at h;by_cases c2:0<f.turns
   ·rw[if_pos c2] at h;by_cases c3:0<(f.block.length:Int)
    ·rw[if_pos c3] at h;injection h with h;injection h with h1 h2
     exact .inr ⟨_,r,h1.symm,c3⟩
    ·rw[if_neg c3] at h;exact DO k _ b _ _ h
   ·rw[if_neg c2] at h;by_cases c4:f.aU=true
    ·rw[if_pos c4] at h;by_cases c5:2<=b.length
     ·rw[if_pos c5] at h;exact DO k _ _ _ _ h
     ·rw[if_neg c5] at h;cases h
    ·rw[if_neg c4] at h;exact DO k _ _ _ _ h
theorem aaS{k:Nat}{st:List Fr}{b:bA}{bq:List Fr}{b':bA}(h:lX k st b=some (bq,b')):lX 1 bq b'=some (bq,b'):=by
 rcases DO k st b bq b' h with rfl|⟨f,r,rfl,hf⟩
 ·rfl
 ·unfold lX;rw[if_pos hf]
def gd(a:dQ)(e:Ex):Int:=(Ah e a.l a.aH).1
def Z8:List Int:=[0,0,0,0,0,0,0,0]
def mA(z:Int):Int:=eR (cR z 0) 8
def fin(a:dQ)(st:List Fr)(b:bA):Option dQ:=match lX 1000 st b with
 |some p=>some {a with fs:=p.1.reverse,b:=p.2}
 |none=>none
def E5(a:dQ):Option dQ:=match a.fs.reverse with
 |[]=>none
 |f::r=>match f.block[f.au.toNat]? with
  |none=>none
  |some (.mk kind to ea eb bd el)=>
   if kind=1 then fin {a with l:=a.l.set to.toNat<|gd a ea,steps:=a.steps+1} ({f with au:=f.au+1}::r) a.b
   else if kind=2 then fin {a with l:=a.l.set to.toNat (lq a.b<|iV (gd a ea) a.vars).1,steps:=a.steps+1} ({f with au:=f.au+1}::r) a.b
   else if kind=3 then fin {a with steps:=a.steps+1} ({f with au:=f.au+1}::r) (mD a.b (iV (gd a ea) a.vars)<|gd a eb)
   else if kind=4 then fin {a with steps:=a.steps+1} (⟨if gd a ea≠0 then bd else el,0,0,false,Z8,none⟩::{f with au:=f.au+1}::r) a.b
   else if kind=5 then(if 0<mA (gd a ea) then fin {a with steps:=a.steps+1} (⟨bd,0,mA (gd a ea) - 1,false,Z8,none⟩::{f with au:=f.au+1}::r) a.b else fin {a with steps:=a.steps+1} ({f with au:=f.au+1}::r) a.b)
   else if kind=6 then(match below (f::r) with
    |some (⟨_,_,_,_,kept,some ol⟩,r')=>fin {a with l:=kept,steps:=a.steps+1} (⟨ol,0,0,false,Z8,none⟩::r') a.b.dropLast
    |_=>none)
   else if kind=7 then fin {a with steps:=a.steps+1} (⟨bd,0,0,true,a.l,some el⟩::{f with au:=f.au+1}::r) (a.b++[[]])
   else none
def BS(a:dQ)(x:Int):Option dQ:=match a.fs.reverse with
 |[]=>none
 |f::r=>match f.block[f.au.toNat]? with
  |none=>none
  |some (.mk _ to _ _ _ _)=>fin {a with l:=a.l.set to.toNat x,steps:=a.steps+1} ({f with au:=f.au+1}::r) a.b
def fU(a:dQ):Int×Int×Int:=match a.fs.reverse with
 |[]=>(3,0,0)
 |f::r=>match f.block[f.au.toNat]? with
  |none=>(0,0,0)
  |some (.mk kind _ ea _ _ _)=>if kind=8 then(3,0,gd a ea) else if kind=6/\below (f::r)=none then(4,0,0) else if kind=2/\(lq a.b<|iV (gd a ea) a.vars).2=false then(2,iV (gd a ea) a.vars,0) else(1,0,0)
end pq
end
section
open Go Go.Rn Go.RowKit Go.Proofs
namespace sB
open cr fQ fc hI fF cS dL dj dA gF fT ia ig iv iF iw iG iT iU jH jN kK lr mg jU gK jq og pn kJ po pq YN QF XV XW YO YP YQ
variable {fs bK bD:List Fr} {c n1 c1 m2 c2:Nat} {b:bA} {a A1 A2:MN} {B:aJ} {wi:Int}
noncomputable section
def jO(fs:List Fr)(n:Nat):List Fr:=(fs.take n).set ((((0+n):Nat):Int) - 1).toNat ({(aB (fs.take n)<|(((0+n):Nat):Int) - 1) with au:=((aB (fs.take n)<|(((0+n):Nat):Int) - 1).au+1),turns:=(aB (fs.take n)<|(((0+n):Nat):Int) - 1).turns}:Fr)
abbrev ug(fs:List Fr)(k:Nat)(f:Fr):List Fr:=fs.take k++[f]
abbrev rS(k to op nn:Int)(la:List Ex)(aZ n2:Int)(lb:List Ex)(bd el:List St):List AV:=[.int .u8 k,.int .i64 to,.int .u8 op,.int .i64 nn,.ab (nm<|dy la) 0 la.length,.int .u8 aZ,.int .i64 n2,.ab (nm<|dy lb) 0 lb.length,.ab (nm (bd.map a9).flatten) 0 bd.length,.ab (nm (el.map a9).flatten) 0 el.length]
section
variable {k to op nn aZ n2:Int} {la lb:List Ex} {bd el:List St}
theorem lD:a9 (St.mk k to (.mk op nn la) (.mk aZ n2 lb) bd el)=(rS k to op nn la aZ n2 lb bd el):=by rw[U6,aM,aM];rfl
theorem CP{a':MN}{n n' c':Nat}{da:List Fr}{b':bA}{q:Int×Int×Int}(m0:ey a n c fs b)(h6:n<=6)(b6:b.length<=6)(hs:si fs n<|some<|St.mk k to (.mk op nn la) (.mk aZ n2 lb) bd el)(jV:wD a (kx fs n) b (some<|St.mk k to (.mk op nn la) (.mk aZ n2 lb) bd el)=q)(mp:ey a' n' c' da b'):
 vR lP (dx a n c fs b) []=some (AK q)/\vR jj (dx a n c fs b) []=some (.tuple [.agg<|rS k to op nn la aZ n2 lb bd el,.bool true])/\vR jG (dx a' n' c' da b') [.agg [.int .u8 op,.int .i64 nn,.ab (nm<|dy la) 0 la.length]]=some (i6<|fq a'<|.mk op nn la)/\([.agg [.int .u8 op,.int .i64 nn,.ab (nm<|dy la) 0 la.length]]:List AV).all AV.hi=true/\(AV.tuple [.agg<|rS k to op nn la aZ n2 lb bd el,.bool true]:AV).hi=true/\([.agg<|rS k to op nn la aZ n2 lb bd el]:List AV).all AV.hi=true:=by
 have hN:=Wn m0 hs;have hK:=ahE m0 h6 b6 hs;rw[jV] at hK;have hv:=K4 mp<|.mk op nn la;have hA:=Ey<|.mk op nn la;have hH:=XA<|St.mk k to (.mk op nn la) (.mk aZ n2 lb) bd el;unfold E3 at hN;simp only[lD] at hN hH;simp only[aM] at hv hA;exact⟨hK,hN,hv,hA,by show([_,AV.bool true].all AV.wT)=true;rw[List.all_cons,show(AV.agg _).wT=true from hH];rfl,by rw[List.all_cons,hH];rfl⟩
end
structure JH (a:MN) (n c:Nat) (fs:List Fr) (b:bA) (k to op nn:Int) (la:List Ex) (aZ n2:Int) (lb:List Ex) (bd el:List St) (q:Int×Int×Int):Prop where
 m0:ey a n c fs b
 h1:1<=n
 h6:n<=6
 b6:b.length<=6
 hs:si fs n<|some<|St.mk k to (.mk op nn la) (.mk aZ n2 lb) bd el
 jV:wD a (kx fs n) b (some<|St.mk k to (.mk op nn la) (.mk aZ n2 lb) bd el)=q
 ay:yQ fs n
 cQ:0<=a.steps/\a.steps<=1000000000000
 mp:ey {a with steps:=a.steps+1} (0+n) (0+n) (jO fs n) b
noncomputable abbrev Cd(a:MN)(n c:Nat)(fs:List Fr)(b:bA):AS:=aj (aq++bO (dP 270 3<|dx a n c fs b)) 273
theorem j1{ka:Int}{kb:VS->List AV->AV×VS->Prop}{kc:Nat}(hk:(ka=1/\kb=AI/\kc=74)\/(ka=2/\kb=Am/\kc=75)\/(ka=3/\kb=z8/\kc=76)){n:Nat}{b1 b2:bA}{to op nn aZ n2:Int}{la lb:List Ex}{bd el:List St}(mc:Mt LM B)(J:JH a n c fs b ka to op nn la aZ n2 lb bd el (1,0,0))(m1:ey A1 n1 c1 bK b1)(ng:ey A2 m2 c2 bD b2)(hX:ep kb (dx {a with steps:=a.steps+1} (0+n) (0+n) (jO fs n) b) [.agg<|a9<|St.mk ka to (.mk op nn la) (.mk aZ n2 lb) bd el]=some (.tuple [],(dx A1 n1 c1 bK b1)))(rz:ep fh (dx A1 n1 c1 bK b1) []=some (.tuple [],(dx A2 m2 c2 bD b2))):av pg B 271 (ij 270 3 pg (aA Tryz.f49) (.int .i64 0)<|dx A2 m2 c2 bD b2) (sF 49 Tryz.f49 [(.ptr<|some (270,0))])<|Cd a n c fs b:=by
 obtain⟨m0,h1,h6,b6,hs,jV,ay,cQ,mp⟩:=J;obtain⟨hK,hN,hv,hA,hB,sW⟩:=CP m0 h6 b6 hs jV mp;rw[lD] at hX;exact step1 hk (a:=a) (n:=n) (c:=c) (u:=cv b) (fs:=fs) (A1:=A1) (m1:=n1) (c1:=c1) (u1:=cv b1) (bK:=bK) (A2:=A2) (m2:=m2) (c2:=c2) (u2:=cv b2) (bD:=bD) (N:=nm<|dy la) (L:=la.length) (N2:=nm<|dy lb) (L2:=lb.length) (to:=to) (op:=op) (nn:=nn) (aZ:=aZ) (n2:=n2) (bd:=bd) (el:=el) (z:=(fq a<|.mk op nn la)) (wi:=0) (t:=0) (ol:=[]) (fb:=[]) (fa:=0) (ft:=0) (fo:=false) (ub:=.tuple []) (y0:=0) (y1:=0) (y2:=0) (y3:=0) (y4:=0) (y5:=0) (y6:=0) (y7:=0) mc h1 m0.nL m0.rG m0.len CG ay cQ ng.len ng.aH.cq
  wY
  wY
  wY
  wY
  wY
  wY
  wY
  wY
  wY
  wY
  (E4 mc)
theorem j4{n:Nat}{b1 b2:bA}{to op nn aZ n2:Int}{la lb:List Ex}{bd el X:List St}{tk:Bool}(mc:Mt LM B)(J:JH a n c fs b 4 to op nn la aZ n2 lb bd el (1,0,0))(m1:ey A1 n1 c1 bK b1)(ng:ey A2 m2 c2 bD b2)(mE:ey {a with steps:=a.steps+1} (0+n+1) (0+n+1) (ug (jO fs n) (0+n) ⟨X,0,0,false,Z8,none⟩) b)(hE:ep fh (dx {a with steps:=a.steps+1} (0+n+1) (0+n+1) (ug (jO fs n) (0+n) ⟨X,0,0,false,Z8,none⟩) b) []=some (.tuple [],(dx A1 n1 c1 bK b1)))(rz:ep fh (dx A1 n1 c1 bK b1) []=some (.tuple [],(dx A2 m2 c2 bD b2)))(hz:zB tk<|fq a<|.mk op nn la)(hX:X=xB tk bd el):av pg B 271 (ij 270 3 pg (aA Tryz.f49) (.int .i64 0)<|dx A2 m2 c2 bD b2) (sF 49 Tryz.f49 [(.ptr<|some (270,0))])<|Cd a n c fs b:=by
 obtain⟨m0,h1,h6,b6,hs,jV,ay,cQ,mp⟩:=J;obtain⟨hK,hN,hv,hA,hB,sW⟩:=CP m0 h6 b6 hs jV mp;exact ahF (a:=a) (n:=n) (c:=c) (u:=cv b) (fs:=fs) (A1:=A1) (m1:=n1) (c1:=c1) (u1:=cv b1) (bK:=bK) (A2:=A2) (m2:=m2) (c2:=c2) (u2:=cv b2) (bD:=bD) (N:=nm<|dy la) (L:=la.length) (N2:=nm<|dy lb) (L2:=lb.length) (to:=to) (op:=op) (nn:=nn) (aZ:=aZ) (n2:=n2) (bd:=bd) (el:=el) (tk:=tk) (X:=X) (z:=(fq a<|.mk op nn la)) mc h1 m0.nL m0.rG m0.len CG ay cQ ng.len ng.aH.cq hz hX
  kr
  kr
  kr
  kr
  kr
  kr
  kr
  kr
  kr
  kr
  kr
  kr
  (E4 mc)
theorem j5t{n:Nat}{b1 b2:bA}{to op nn aZ n2:Int}{la lb:List Ex}{bd el:List St}(mc:Mt LM B)(J:JH a n c fs b 5 to op nn la aZ n2 lb bd el (1,0,0))(m1:ey A1 n1 c1 bK b1)(ng:ey A2 m2 c2 bD b2)(mE:ey {a with steps:=a.steps+1} (0+n+1) (0+n+1) (ug (jO fs n) (0+n) ⟨bd,0,(mA<|fq a<|.mk op nn la) - 1,false,Z8,none⟩) b)(hE:ep fh (dx {a with steps:=a.steps+1} (0+n+1) (0+n+1) (ug (jO fs n) (0+n) ⟨bd,0,(mA<|fq a<|.mk op nn la) - 1,false,Z8,none⟩) b) []=some (.tuple [],(dx A1 n1 c1 bK b1)))(rz:ep fh (dx A1 n1 c1 bK b1) []=some (.tuple [],(dx A2 m2 c2 bD b2)))(hz:0<mA (fq a<|.mk op nn la)/\mA (fq a<|.mk op nn la)<=8):av pg B 271 (ij 270 3 pg (aA Tryz.f49) (.int .i64 0)<|dx A2 m2 c2 bD b2) (sF 49 Tryz.f49 [(.ptr<|some (270,0))])<|Cd a n c fs b:=by
 obtain⟨m0,h1,h6,b6,hs,jV,ay,cQ,mp⟩:=J;obtain⟨hK,hN,hv,hA,hB,sW⟩:=CP m0 h6 b6 hs jV mp;exact ahG (a:=a) (n:=n) (c:=c) (u:=cv b) (fs:=fs) (A1:=A1) (m1:=n1) (c1:=c1) (u1:=cv b1) (bK:=bK) (A2:=A2) (m2:=m2) (c2:=c2) (u2:=cv b2) (bD:=bD) (N:=nm<|dy la) (L:=la.length) (N2:=nm<|dy lb) (L2:=lb.length) (to:=to) (op:=op) (nn:=nn) (aZ:=aZ) (n2:=n2) (bd:=bd) (el:=el) (z:=(fq a<|.mk op nn la)) mc h1 m0.nL m0.rG m0.len CG ay cQ ng.len ng.aH.cq hz
  kr
  kr
  kr
  kr
  kr
  kr
  kr
  kr
  kr
  kr
  kr
  kr
  (E4 mc)
theorem j5o{n:Nat}{b1:bA}{to op nn aZ n2:Int}{la lb:List Ex}{bd el:List St}(mc:Mt LM B)(J:JH a n c fs b 5 to op nn la aZ n2 lb bd el (1,0,0))(m1:ey A1 n1 c1 bK b1)(jr:mA (fq a<|.mk op nn la)<=0)(rz:ep fh (dx {a with steps:=a.steps+1} (0+n) (0+n) (jO fs n) b) []=some (.tuple [],(dx A1 n1 c1 bK b1))):av pg B 271 (ij 270 3 pg (aA Tryz.f49) (.int .i64 0)<|dx A1 n1 c1 bK b1) (sF 49 Tryz.f49 [(.ptr<|some (270,0))])<|Cd a n c fs b:=by
 obtain⟨m0,h1,h6,b6,hs,jV,ay,cQ,mp⟩:=J;obtain⟨hK,hN,hv,hA,hB,sW⟩:=CP m0 h6 b6 hs jV mp;exact ahH (a:=a) (n:=n) (c:=c) (u:=cv b) (fs:=fs) (A1:=A1) (m1:=n1) (c1:=c1) (u1:=cv b1) (bK:=bK) (N:=nm<|dy la) (L:=la.length) (N2:=nm<|dy lb) (L2:=lb.length) (to:=to) (op:=op) (nn:=nn) (aZ:=aZ) (n2:=n2) (bd:=bd) (el:=el) (z:=(fq a<|.mk op nn la)) mc h1 m0.nL m0.rG m0.len CG ay cQ m1.len m1.aH.cq jr
  zf
  zf
  zf
  zf
  zf
  zf
  zf
  zf
  zf
  (E4 mc)
theorem j7{n:Nat}{b1 b2:bA}{to op nn aZ n2:Int}{la lb:List Ex}{bd el:List St}(mc:Mt LM B)(J:JH a n c fs b 7 to op nn la aZ n2 lb bd el (1,0,0))(m1:ey A1 n1 c1 bK b1)(ng:ey A2 m2 c2 bD b2)(mE:ey {a with steps:=a.steps+1} (0+n+1) (0+n+1) (ug (jO fs n) (0+n) ⟨bd,0,0,true,a.l,some el⟩)<|b++[[]])(hE:ep fh (dx {a with steps:=a.steps+1} (0+n+1) (0+n+1) (ug (jO fs n) (0+n) ⟨bd,0,0,true,a.l,some el⟩)<|b++[[]]) []=some (.tuple [],(dx A1 n1 c1 bK b1)))(rz:ep fh (dx A1 n1 c1 bK b1) []=some (.tuple [],(dx A2 m2 c2 bD b2)))(Z0:b.length<7):av pg B 271 (ij 270 3 pg (aA Tryz.f49) (.int .i64 0)<|dx A2 m2 c2 bD b2) (sF 49 Tryz.f49 [(.ptr<|some (270,0))])<|Cd a n c fs b:=by
 obtain⟨m0,h1,h6,b6,hs,jV,ay,cQ,mp⟩:=J;obtain⟨hK,hN,hv,hA,hB,sW⟩:=CP m0 h6 b6 hs jV mp;have hD:gQ (eW cv KY) (cv b) []=some ((.int .i64 0:AV),cv<|b++[[]]):=by
  unfold gQ;rw[BM xH];show(match ([]:List AV).all AV.hi with
   |true=>((if List.length b<7 then some ((AV.int .i64 0:AV),b++[[]]) else none).map (fun p:AV×bA=>((p.1,cv p.2):AV×AV))).bind fun p:AV×AV=>match p.1.hi with
    |true=>some p
    |false=>none
   |false=>none)=_
  rw[if_pos Z0];rfl
 exact ajs (a:=a) (n:=n) (c:=c) (u:=cv b) (fs:=fs) (A1:=A1) (m1:=n1) (c1:=c1) (u1:=cv b1) (bK:=bK) (A2:=A2) (m2:=m2) (c2:=c2) (u2:=cv b2) (bD:=bD) (N:=nm<|dy la) (L:=la.length) (N2:=nm<|dy lb) (L2:=lb.length) (to:=to) (op:=op) (nn:=nn) (aZ:=aZ) (n2:=n2) (bd:=bd) (el:=el) (z:=(fq a<|.mk op nn la)) (ub:=cv<|b++[[]]) mc h1 m0.nL m0.rG m0.len CG ay cQ ng.len ng.aH.cq
  wX
  wX
  wX
  wX
  wX
  wX
  wX
  wX
  wX
  wX
  (E4 mc)
theorem j6{n:Nat}{b1 b2:bA}{to op nn aZ n2 y0 y1 y2 y3 y4 y5 y6 y7 fa ft:Int}{la lb:List Ex}{bd el ol fb:List St}{fo:Bool}(mc:Mt LM B)(J:JH a n c fs b 6 to op nn la aZ n2 lb bd el (1,0,0))(m1:ey A1 n1 c1 bK b1)(ng:ey A2 m2 c2 bD b2)(mE:ey {a with steps:=a.steps+1,x0:=y0,x1:=y1,x2:=y2,x3:=y3,x4:=y4,x5:=y5,x6:=y6,x7:=y7} (wi.toNat+1) (wi.toNat+1) (ug (jO fs n) wi.toNat ⟨ol,0,0,false,Z8,none⟩) b.dropLast)(hE:ep fh (dx {a with steps:=a.steps+1,x0:=y0,x1:=y1,x2:=y2,x3:=y3,x4:=y4,x5:=y5,x6:=y6,x7:=y7} (wi.toNat+1) (wi.toNat+1) (ug (jO fs n) wi.toNat ⟨ol,0,0,false,Z8,none⟩) b.dropLast) []=some (.tuple [],(dx A1 n1 c1 bK b1)))(rz:ep fh (dx A1 n1 c1 bK b1) []=some (.tuple [],(dx A2 m2 c2 bD b2)))(hwi:kx (jO fs n) (0+n)=wi)(hz:1<=wi/\wi<(n:Int))(bG:(jO fs n)[wi.toNat]? =some (⟨fb,fa,ft,fo,[y0,y1,y2,y3,y4,y5,y6,y7],some ol⟩:Fr))(yY:2<=b.length):av pg B 271 (ij 270 3 pg (aA Tryz.f49) (.int .i64 0)<|dx A2 m2 c2 bD b2) (sF 49 Tryz.f49 [(.ptr<|some (270,0))])<|Cd a n c fs b:=by
 obtain⟨m0,h1,h6,b6,hs,jV,ay,cQ,mp⟩:=J;obtain⟨hK,hN,hv,hA,hB,sW⟩:=CP m0 h6 b6 hs jV mp;have hW:=UB mp ah;rw[hwi] at hW;have hD:gQ (eW cv KZ) (cv b) []=some ((.int .i64 0:AV),cv b.dropLast):=by
  unfold gQ;rw[BM xH];show(match ([]:List AV).all AV.hi with
   |true=>((if 2<=List.length b/\List.length b<=6 then some ((AV.int .i64 0:AV),b.dropLast) else none).map (fun p:AV×bA=>((p.1,cv p.2):AV×AV))).bind fun p:AV×AV=>match p.1.hi with
    |true=>some p
    |false=>none
   |false=>none)=_
  rw[if_pos ⟨yY,b6⟩];rfl
 exact ajt (a:=a) (n:=n) (c:=c) (u:=cv b) (fs:=fs) (A1:=A1) (m1:=n1) (c1:=c1) (u1:=cv b1) (bK:=bK) (A2:=A2) (m2:=m2) (c2:=c2) (u2:=cv b2) (bD:=bD) (N:=nm<|dy la) (L:=la.length) (N2:=nm<|dy lb) (L2:=lb.length) (to:=to) (op:=op) (nn:=nn) (aZ:=aZ) (n2:=n2) (bd:=bd) (el:=el) (z:=(fq a<|.mk op nn la)) (wi:=wi) (ol:=ol) (fb:=fb) (fa:=fa) (ft:=ft) (fo:=fo) (ub:=cv b.dropLast) (y0:=y0) (y1:=y1) (y2:=y2) (y3:=y3) (y4:=y4) (y5:=y5) (y6:=y6) (y7:=y7) mc h1 m0.nL m0.rG m0.len CG ay cQ ng.len ng.aH.cq hz
  rA
  rA
  rA
  rA
  rA
  rA
  rA
  rA
  rA
  rA
  rA
  rA
  rA
  (E4 mc)
theorem jA{n:Nat}{b1:bA}{to op nn aZ n2 xx:Int}{la lb:List Ex}{bd el:List St}(mc:Mt LM B)(J:JH a n c fs b 2 to op nn la aZ n2 lb bd el (2,wi,0))(m1:ey A1 n1 c1 bK b1)(h0:0<=to)(h8:to<8)(mx:ey (MN.iu {a with steps:=a.steps+1} to xx) (0+n) (0+n) (jO fs n) b)(rz:ep fh (dx (MN.iu {a with steps:=a.steps+1} to xx) (0+n) (0+n) (jO fs n) b) []=some (.tuple [],(dx A1 n1 c1 bK b1))):av pg B 271 (ij 270 3 pg (aA Tryz.f55) (.int .i64 0)<|dx A1 n1 c1 bK b1) (sF 55 Tryz.f55 [(.ptr<|some (270,0)),(i6 xx)])<|Cd a n c fs b:=by
 obtain⟨m0,h1,h6,b6,hs,jV,ay,cQ,mp⟩:=J;obtain⟨hK,hN,hv,hA,hB,sW⟩:=CP m0 h6 b6 hs jV mp;have hx:= @P6 {a with steps:=a.steps+1} (0+n) (0+n) (jO fs n) b to xx h0 h8;unfold iU.wq at hx;rw[←hx] at rz;have Zw:=mx.bQ;rw[←hx] at Zw;exact aju (a:=a) (n:=n) (c:=c) (u:=cv b) (fs:=fs) (A1:=A1) (m1:=n1) (c1:=c1) (u1:=cv b1) (bK:=bK) (N:=nm<|dy la) (L:=la.length) (N2:=nm<|dy lb) (L2:=lb.length) (to:=to) (op:=op) (nn:=nn) (aZ:=aZ) (n2:=n2) (bd:=bd) (el:=el) (z:=(fq a<|.mk op nn la)) (wi:=wi) (xx:=xx) mc h1 m0.nL m0.rG m0.len CG ay cQ m1.len m1.aH.cq h0 h8
  Di
  Di
  Di
  Di
  Di
  Di
  Di
  (ajr mc)
end
end sB
end
section
open Go Go.Rn Go.RowKit Go.Proofs
namespace ql
open cr fQ fc hI fF cS dL dj dA gF fT ia ig iv iF iw iG iT iU jH jN kK lr mg jU gK jq og pn kJ po pq sB
variable {fs bq st:List Fr} {b b':bA} {A:MN} {s:AS} {rs:List ResultVar} {k:Nat} {P:Program} {B:aJ}
theorem Ri{n m:Nat}{Q Q':Tr AV->List Nat->Option Code->AS->Prop}{fr:AF}(hm:m<=n)(h:∀t d j s,Q t d j s->Q' t d j s)(H:av P B n Q fr s):av P B m Q' fr s:=by intro ρ w b a cs q1 q2 q3;obtain⟨aQ,j,s1,σ,a',w',e1,e2,e3,e4⟩:=H ρ w b a cs q1 q2 q3;exact⟨aQ,j,s1,σ,a',w',h _ _ _ _ e1,by omega,fun k hk ht=>e3 k ah ht,e4⟩
theorem YR{R R':AV->AS->Prop}(h:∀y s,R y s->R' y s):∀t d j s,Rn.Fin P rs R t d j s->Rn.Fin P rs R' t d j s:=by intro t d j s q;obtain⟨v,s2,a,b⟩:=q;exact⟨v,s2,a,h _ _ b⟩
noncomputable def mn(a:dQ):MN:=⟨a.vars,nm (a.aH.map Ag).flatten,0,a.aH.length,a.aH,a.l.getD 0 0,a.l.getD 1 0,a.l.getD 2 0,a.l.getD 3 0,a.l.getD 4 0,a.l.getD 5 0,a.l.getD 6 0,a.l.getD 7 0,a.steps⟩
theorem YS{a:dQ}(h:a.l.length=8):(mn a).l=a.l:=(K2 a.l h).symm
theorem LF{a:dQ}(h:a.l.length=8)(e:Ex):fq (mn a) e=gd a e:=by unfold fq gd;rw[YS h];rfl
theorem Vp(a:dQ)(cf:List Fr)(c:Nat):dP 270 3 (dx (mn a) a.fs.length c (a.fs++cf) a.b)=o8 a cf c:=rfl
structure Good (a:dQ):Prop where
 ok:B3 a
 ov:iy a.fs
 jc:a.fs.length<=6
 b6:a.b.length<=6
 steps:0<=a.steps/\a.steps<=1000000000000
 au:∀f∈a.fs,0<=f.au/\f.au<=1000000
theorem iy.app{l m:List Fr}(h:iy l)(k:iy m):iy<|l++m:=fun f hf=>by
 rcases List.mem_append.1 hf with q|q
 ·exact h f q
 ·exact k f q
theorem iy.take{l:List Fr}(h:iy l)(n:Nat):iy<|l.take n:=fun f hf=>h f<|List.mem_of_mem_take hf
section
variable {a:dQ} {cf:List Fr} {c:Nat} {f:Fr} {r:List Fr} {m:Nat}
theorem Good.fO(h:Good a)(hj:yc a cf c):ey (mn a) a.fs.length c (a.fs++cf) a.b:=⟨di.aD MF a.aH,h.ok.2.1,iy.app h.ov hj.2.2,by rw[List.length_append];omega,hj.1,hj.2.1,h.ok.2.2.2.2⟩
theorem Jv:∀{k n:Nat} {fs:List Fr} {b:bA} {n':Nat} {da:List Fr} {b':bA},oH k n fs b=some (n',da,b')->n<=fs.length->iy fs->fy b->iy da/\fy b'
 |0,_,_,_,_,_,_,h,_,_,_=>by cases h
 |k+1,n,fs,b,n',da,b',h,hn,hf,hb=>by
  unfold oH at h;by_cases n0:n=0
  ·rw[if_pos n0] at h;injection h with h;injection h with e1 h;injection h with e2 e3
   subst e2;subst e3;exact⟨hf,hb⟩
  ·rw[if_neg n0] at h;simp only at h;have ay:=hf.at<|(n:Int) - 1;have hk:=hf.kept (z:=(n:Int) - 1) ah ah;by_cases c1:(aB fs<|(n:Int) - 1).au<(((aB fs<|(n:Int) - 1).block.length:Nat):Int)
   ·rw[if_pos c1] at h;injection h with h;injection h with e1 h;injection h with e2 e3
    subst e2;subst e3;exact⟨hf,hb⟩
   ·rw[if_neg c1] at h;by_cases c2:0<(aB fs<|(n:Int) - 1).turns
    ·rw[if_pos c2] at h;have hs:iy<|fs.set ((n:Int) - 1).toNat {aB fs ((n:Int) - 1) with au:=0,turns:=(aB fs<|(n:Int) - 1).turns - 1}:=hf.set ⟨⟨by show 0<=_ - 1;omega,by show _ - 1<=1000000;omega⟩,hk⟩;by_cases c3:0<(((aB fs<|(n:Int) - 1).block.length:Nat):Int)
     ·rw[if_pos c3] at h;injection h with h;injection h with e1 h;injection h with e2 e3
      subst e2;subst e3;exact⟨hs,hb⟩
     ·rw[if_neg c3] at h;exact Jv h (by rw[List.length_set];exact hn) hs hb
    ·rw[if_neg c2] at h;by_cases c4:(aB fs<|(n:Int) - 1).aU=true
     ·rw[if_pos c4] at h;by_cases c5:2<=b.length
      ·rw[if_pos c5] at h;exact Jv h ah hf<|JV hb c5
      ·rw[if_neg c5] at h;cases h
     ·rw[if_neg c4] at h;exact Jv h ah hf hb
structure jS (A:MN) (n c:Nat) (fs:List Fr) (b:bA) (bq:List Fr) (b':bA) (n':Nat) (da:List Fr):Prop where
 fO:ey A n' c da b'
 run:ep fh (dx A n c fs b) []=some (.tuple [],dx A n' c da b')
 eq:(da.take n').reverse=bq
 len:da.length=fs.length
 le:n'<=n
theorem tS{n c:Nat}(m:ey A n c fs b)(e:(fs.take n).reverse=st)(h:lX k st b=some (bq,b')):∃n' da,jS A n c fs b bq b' n' da:=by
 obtain⟨n',da,a1,a2,a3,a4⟩:=JE k n fs b st bq b' h m.nL e;obtain⟨q1,q2⟩:=Jv a1 m.nL m.ov m.buf;have fC:n'<=da.length:=by rw[a3];have:=m.nL;omega
 exact⟨n',da,⟨m.aH,q2,q1,fC,by have:=m.rG;omega,by rw[a3];exact m.len,m.vars⟩,ac4 m a1,a4,a3,a2⟩
theorem jS.again{n c:Nat}{n':Nat}{da:List Fr}(h:lX k st b=some (bq,b'))(d:jS A n c fs b bq b' n' da):∃n2 bD,jS A n' c da b' bq b' n2 bD:=tS d.fO d.eq<|aaS h
theorem vT{fr:AF}{n c:Nat}{y:AV}{a':dQ}(hA:A=mn a')(hb:b=a'.b)(ok:B3 a')(m:ey A n c fs b)(e:(fs.take n).reverse=a'.fs.reverse)(H:av pg B 271 (ij 270 3 pg rs y<|dx A n c fs b) fr s):av pg B 271 (mf XT pg rs 4 y<|eJ a') fr s:=by
 subst hA;subst hb;have e:fs.take n=a'.fs:=List.reverse_inj.1 e;have hl:a'.fs.length=n:=by rw[←e,List.length_take];have:=m.nL;omega
 have e2:fs=a'.fs++fs.drop n:=by rw[←e,List.take_append_drop]
 refine Ri (Nat.le_refl _) (YR fun y1 s' q=>⟨q.1,o8 a' (fs.drop n) c,XT.CI a' ok _ c ⟨by rw[hl];exact m.rG,by rw[←e2];exact m.len,fun f hf=>m.ov f<|List.mem_of_mem_drop hf⟩,?_⟩) H;have hx:=q.2;rw[←Vp,hl, ←e2];exact hx
structure yy (a:dQ) (cf:List Fr) (f:Fr) (r:List Fr) (m:Nat):Prop where
 n:a.fs.length=m+1
 get:(a.fs++cf)[m]? =some f
 rest:((a.fs++cf).take m).reverse=r
 all:((a.fs++cf).take<|m+1).reverse=f::r
 mem:f∈a.fs
theorem Qa(h:a.fs.reverse=f::r):∃m,yy a cf f r m:=by
 have e:(a.fs++cf).take a.fs.length=a.fs:=List.take_left;have e2:((a.fs++cf).take a.fs.length).reverse=f::r:=by rw[e];exact h
 obtain⟨m,h1,h2,h3,h4⟩:=OZ (by rw[List.length_append];omega) e2;refine⟨m,h1,h3,h4,by rw[←h1];exact e2,?_⟩;have:f∈a.fs.reverse:=by rw[h];exact List.mem_cons_self
 exact List.mem_reverse.1 this
theorem PC(t:yy a cf f r m)(h0:0<=f.au){s:St}(hs:f.block[f.au.toNat]? =some s):si (a.fs++cf) a.fs.length<|some s:=by
 have e:AJ (a.fs++cf) a.fs.length=f:=by unfold AJ;rw[t.n];exact Vo t.get
 exact .inr ⟨by rw[t.n];omega,by rw[e];exact h0,s,by rw[e];exact hs,rfl⟩
theorem Ko(t:yy a cf f r m):aB ((a.fs++cf).take a.fs.length) (((0+a.fs.length:Nat):Int) - 1)=f/\jO (a.fs++cf) a.fs.length=((a.fs++cf).take a.fs.length).set m {f with au:=f.au+1}:=by
 have e0:((((0+a.fs.length):Nat):Int) - 1)=(m:Int):=by rw[t.n];omega
 have hg:((a.fs++cf).take a.fs.length)[m]? =some f:=by rw[List.getElem?_take_of_lt (by rw[t.n];omega)];exact t.get
 have e:aB ((a.fs++cf).take a.fs.length) (((0+a.fs.length:Nat):Int) - 1)=f:=by rw[e0];exact O0 hg
 refine⟨e,?_⟩;unfold jO;rw[e,e0];rfl
theorem vB(t:yy a cf f r m):(jO (a.fs++cf) a.fs.length).length=a.fs.length/\((jO (a.fs++cf) a.fs.length).take<|0+a.fs.length).reverse={f with au:=f.au+1}::r/\jO (a.fs++cf) a.fs.length=(jO (a.fs++cf) a.fs.length).take (0+a.fs.length):=by
 have e:(a.fs++cf).take a.fs.length=a.fs:=List.take_left;have el:(jO (a.fs++cf) a.fs.length).length=a.fs.length:=by rw[(Ko t).2,e,List.length_set]
 refine⟨el,?_,by rw[List.take_of_length_le (by rw[el];omega)]⟩;rw[(Ko t).2,e,Nat.zero_add,t.n,take_set _ (by rw[t.n];omega)];have:=t.rest;rw[List.take_append_of_le_length (by rw[t.n];omega)] at this;rw[this]
theorem Good.mp(h:Good a)(hj:yc a cf c)(t:yy a cf f r m):ey {mn a with steps:=a.steps+1} (0+a.fs.length) (0+a.fs.length) (jO (a.fs++cf) a.fs.length) a.b:=by obtain⟨p1,p2,p3⟩:=vB t;refine⟨(h.fO hj).aH,h.ok.2.1,?_,by rw[p1];omega,Nat.le_refl _,by rw[p1];have:=h.jc;omega,(h.fO hj).vars⟩;rw[(Ko t).2];exact(iy.take (h.fO hj).ov _).set<|h.ov f t.mem
theorem Good.ay(h:Good a)(t:yy a cf f r m):0<=(aB ((a.fs++cf).take a.fs.length)<|((0+a.fs.length:Nat):Int) - 1).au/\(aB ((a.fs++cf).take a.fs.length)<|((0+a.fs.length:Nat):Int) - 1).au<=1000000:=by rw[(Ko t).1];exact h.au f t.mem
theorem Qb(h:Good a)(t:yy a cf f r m)(cQ:a.fs.reverse=f::r)(s:St)(hs:f.block[f.au.toNat]? =some s):wD (mn a) (kx (a.fs++cf) a.fs.length) a.b (some s)=fU a:=by
 obtain⟨kind,to,ea,eb,bd,el⟩:=s;have hw:=O1 a.fs.length (a.fs++cf) (f::r) (by rw[List.length_append];omega) (by rw[t.n];exact t.all);unfold fU;rw[GG,cQ];simp only[hs,LF h.ok.1];have ev:(mn a).vars=a.vars:=rfl;rw[ev];by_cases c8:kind=8
 ·rw[if_pos c8,if_pos c8]
 ·rw[if_neg c8,if_neg c8];cases hb:below (f::r) with
  |none=>
   have e:=hw.1 hb;rw[e];by_cases c6:kind=6
   ·rw[if_pos ⟨c6,by omega⟩,if_pos ⟨c6,rfl⟩]
   ·simp only[c6,false_and,if_false]
  |some p=>obtain⟨i,e,_⟩:=hw.2 p.1 p.2 hb;rw[e,if_neg (show ¬(kind=6/\(i:Int)<0) from fun q=>by have:=q.2;omega),if_neg (show ¬(kind=6/\some p=none) from fun q=>by cases q.2)]
end
end ql
end
