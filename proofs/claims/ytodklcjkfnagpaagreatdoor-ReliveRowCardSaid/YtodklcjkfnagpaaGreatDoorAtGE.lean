import Derived.Test.YtodklcjkfnagpaaGreatDoorProg
import Derived.Test.YtodklcjkfnagpaaGreatDoorRnGD
import Derived.Test.YtodklcjkfnagpaaGreatDoorRnGC
import Derived.KernelRfl
set_option maxRecDepth 100000
set_option maxHeartbeats 8000000
set_option linter.unusedSimpArgs false
set_option linter.unusedVariables false
section
open Go Go.Rn Go.RowKit Go.Proofs
namespace dP
def OH:List<|Option FuncId:=[none,none,none,none,some 138,some 139,some 140,some 141,some 143]
noncomputable section
def FG:List AV:=OH.map yX
def dI:Tr U:=(Tr.nil).put 0<|some<|.ro FG.length<|Tr.fill FG 0 .nil
end
def eH:List Nat:=[0]
theorem bX:Tryz.prog.follows .mixedOrders=true:=by kernel_rfl
theorem yL:fw<=270:=aL.1 (by kernel_rfl)
theorem Mf:fw<=271:=aL.1 (by kernel_rfl)
theorem Mg:fw<=272:=aL.1 (by kernel_rfl)
theorem NJ:272<=top:=aL.1 (by kernel_rfl)
theorem Cs:270<=top:=aL.1 (by kernel_rfl)
noncomputable def ar:List<|Nat×Option U:=eH.map fun n=>(n,dI.get n)
theorem GQ:jA ar=dI:=by kernel_rfl
theorem pn:ab ar 270=⟨dI,270,0,[],[]⟩:=by show(⟨jA ar,270,0,[],[]⟩:AS)=_;rw[GQ]
theorem II:∀p∈ar,p.1<top:=fun p hp=>by obtain⟨k,hk,rfl⟩:=List.mem_map.1 hp;exact A2 (m:=top) (l:=eH) (by kernel_rfl) k hk
theorem Qm:∀n o,(n,some o)∈ar->dI.get n=some o:=fun n o hm=>by
 obtain⟨k,hk,e⟩:=List.mem_map.1 hm;injection e with e1 e2
 rw[←e1];exact e2
theorem CY(n:Nat)(o:U)(_:n<top)(h:dI.get n=some o):n∈eH:=by
 rw[←GQ] at h;obtain⟨k,hk,e⟩:=List.mem_map.1<|o6 (l:=ar) II h;injection e with e1 _
 rw[←e1];exact hk
theorem zV:∀n∈eH,n<270:=fun n hn=>A2 (m:=270) (l:=eH) (by kernel_rfl) n hn
def aH(n:Int):List AV:=[.int .i64 n]
theorem eI:kh 1 aH:=⟨fun _=>rfl,fun _=>rfl⟩
theorem BJ(x y:Int)(h:aH x=aH y):x=y:=by simp only[aH,List.cons.injEq,AV.int.injEq,true_and,_root_.and_true] at h;exact h
def rD(c:AV):List AV:=[c]
noncomputable abbrev en(L:bZ):Env:=zR Tryz.prog 270 eH dI L 270 true
noncomputable abbrev xH(L:bZ):Env:=zR Tryz.prog 270 eH dI L 271 true
noncomputable abbrev Ao(L:bZ):Env:=zR Tryz.prog 270 eH dI L 272 true
noncomputable abbrev sp(L:bZ):Sp:=ed 270 eH dI L
inductive XT:TX
theorem SL(l:List AV):(l.map rD).flatten=l:=by
 induction l with
 |nil=>rfl
 |cons x l ih=>rw[List.map_cons,List.flatten_cons,ih];rfl
theorem Jh(x:AV):(rD x).length=1:=rfl
theorem SA{l:List AV}{i:Nat}{c:AV}(hl:l.length<=top)(hc:l[i]? =some c):cellsOf (some<|aG rD l) i 1=some [c]:=by have:=Co Jh (l:=l) (i:=i) (by omega) hc 0 1 rfl;rwa[Nat.mul_one,Nat.add_zero] at this
theorem NK{l:List AV}{i:Nat}{c c':AV}(hl:l.length<=top)(hc:l[i]? =some c)(h1:c'.bB=true):gW (some<|aG rD l) i [c']=some (aG rD<|l.set i c'):=by have:=Cp Jh (l:=l) (i:=i) (c':=c') (r:=[c']) (by omega) hc 0 rfl rfl (by rw[List.all_cons,h1];rfl);rwa[Nat.mul_one,Nat.add_zero] at this
theorem aaa{l:List AV}{i z:Nat}{c c':AV}(hl:l.length<=top)(hc:l[i+z]? =some c)(h1:c'.bB=true):gW (some<|aG rD l) (i+z*1) [c']=some (aG rD<|l.set (i+z) c'):=by rw[Nat.mul_one];exact NK hl hc h1
theorem SE{n:Nat}(h:n<1024):n<top:=by have:top=549755813888:=rfl;omega
theorem S8:Rv XT 270:=⟨fun k v L hx=>(by cases hx),fun k v L hx=>(by cases hx)⟩
abbrev cL(L:bZ):Prop:=gR XT 270 Tryz.prog<|sp L
abbrev Mt(L:bZ)(B:aC):Prop:=zS XT Tryz.prog 270 eH dI L B
theorem ai{A B:Prop}(a:A)(b:B):A/\B:=⟨a,b⟩
theorem oF(h:False):False:=h
theorem rX{α:Type}(x:α):x=x:=rfl
theorem mS(l:List<|Nat×AV):l.map (fun q=>some q.2)=l.map (fun q=>some q.2):=rfl
theorem mO(l:List<|Nat×Option U):l.map (fun q=>q.2)=l.map (fun q=>q.2):=rfl
theorem wI(z:Int)(h: -9223372036854775808<=z/\z<=9223372036854775807:=by omega):AV.int .i64 (IntKind.wrap .i64 z)=AV.int .i64 z:=congrArg (AV.int .i64)<|Kr h
theorem S9{A:Prop}(z n:Int)(h1:0<=z)(h2:z<n)(x:A):0<=z/\z<n/\A:=⟨h1,h2,x⟩
theorem Ta{A:Prop}(z n:Int)(x:A)(h1:0<=z:=by omega)(h2:z<n:=by omega):0<=z/\z<n/\A:=⟨h1,h2,x⟩
abbrev i6(n:Int):AV:=.int .i64 n
abbrev u8(n:Int):AV:=.int .u8 n
abbrev i0:AV:=.int .i64<|.ofNat 0
section
variable {L:bZ} {B:aC} (mc:Mt L B) {f nt:Nat} {t:Tr AV} {K:List Item} {s:AS} {rs:List ResultVar} {R:AV->AS->Prop}
include mc
theorem wS(p:Pl){T:Prop}(x:T)(h:T=wp (en L) 900 6 (.fr f nt K t s) p rs (fun v s _=>R v s) (fun _ _ _=>False):=by as_aux_lemma=>kernel_rfl)(h0:Nat.ble 270 s.nx=true:=by as_aux_lemma=>kernel_rfl):bp Tryz.prog B 270 (Fin Tryz.prog rs R) ⟨f,t,nt,K,[],none⟩ s:=Cn (E:=en L) tv rfl bX mc.2.2.1 mc.2.2.2 900 p x h h0
theorem lC(p:Pl){T:Prop}(x:T)(h:T=wp (xH L) 900 6 (.fr f nt K t s) p rs (fun v s _=>R v s) (fun _ _ _=>False):=by as_aux_lemma=>kernel_rfl)(h0:Nat.ble 271 s.nx=true:=by as_aux_lemma=>kernel_rfl):bp Tryz.prog B 271 (Fin Tryz.prog rs R) ⟨f,t,nt,K,[],none⟩ s:=Cn (E:=xH L) tv rfl bX mc.2.2.1 mc.2.2.2 900 p x h h0
theorem wC{C:ug}(hC:∀fr s p,C fr s p->bp Tryz.prog B 270 (Fin Tryz.prog rs R) fr s)(p:Pl){T:Prop}(x:T)(h:T=wp (en L) 900 6 (.fr f nt K t s) p rs (fun v s _=>R v s) C:=by as_aux_lemma=>kernel_rfl)(h0:Nat.ble 270 s.nx=true:=by as_aux_lemma=>kernel_rfl):bp Tryz.prog B 270 (Fin Tryz.prog rs R) ⟨f,t,nt,K,[],none⟩ s:=Cl (E:=en L) tv rfl bX mc.2.2.1 mc.2.2.2 yL rfl mc.1 hC 900 p x h h0
theorem RE{C:ug}(hC:∀fr s p,C fr s p->bp Tryz.prog B 271 (Fin Tryz.prog rs R) fr s)(p:Pl){T:Prop}(x:T)(h:T=wp (xH L) 900 6 (.fr f nt K t s) p rs (fun v s _=>R v s) C:=by as_aux_lemma=>kernel_rfl)(h0:Nat.ble 271 s.nx=true:=by as_aux_lemma=>kernel_rfl):bp Tryz.prog B 271 (Fin Tryz.prog rs R) ⟨f,t,nt,K,[],none⟩ s:=Cl (E:=xH L) tv rfl bX mc.2.2.1 mc.2.2.2 Mf rfl mc.1 hC 900 p x h h0
end
abbrev Sm(B:aC)(f:Func)(v:AV)(fr:AF)(s:AS):Prop:=bp Tryz.prog B 270 (Fin Tryz.prog f.results.toList fun y _=>y=v) fr s
theorem rE{L L':bZ}{g:Nat}{fn:Func}{val:List AV->Option AV}(hP:dp Tryz.prog)(h:cL L)(h':cL L')(cw:Tryz.prog.funcs[g]? =some fn)(gF:∀args v,val args=some v->max fn.ntmps args.length<=top/\∀B:aC,Mt L' B->bp Tryz.prog B 270 (Fin Tryz.prog fn.results.toList fun y _=>y=v) ⟨g,bt args,max fn.ntmps args.length,[.code<|aJ Tryz.prog g []],[],none⟩ ⟨dI,270,0,[],[]⟩)(cV:fn.body=some (aJ Tryz.prog g []):=by kernel_rfl)(hn:(fn.name == "runtime.NumGoroutine")=false:=by kernel_rfl):cL<|(g,.val val)::L:=ND hP yL Cs CY zV h h' cw cV hn gF
end dP
end
section
namespace eg
abbrev I(l:List Int)(i:Nat):Int:=l.getD i 0
abbrev Lq(cv:Int->Int->Int)(x y:Int):Prop:=¬cv y x<0
structure Ord (cv:Int->Int->Int) (n:Int):Prop where
 tr:∀x y z,(0<=x/\x<n)->(0<=y/\y<n)->(0<=z/\z<n)->Lq cv x y->Lq cv y z->Lq cv x z
 Ji:∀x y,(0<=x/\x<n)->(0<=y/\y<n)->Lq cv x y\/Lq cv y x
 Qn:∀x y,(0<=x/\x<n)->(0<=y/\y<n)->Lq cv x y->Lq cv y x->x=y
abbrev Rg(l:List Int)(n:Int):Prop:=∀x∈l,0<=x/\x<n
abbrev b7(cv:Int->Int->Int)(l:List Int)(a b:Nat):Prop:=∀i j,a<=i->i<j->j<b->Lq cv (I l i) (I l j)
structure bG (cv:Int->Int->Int) (l:List Int) (a b:Nat) (l':List Int):Prop where
 pm:l'.Perm l
 out:∀i,i<a\/b<=i->I l' i=I l i
 ks:b7 cv l' a b
theorem kO{l:List Int}{i:Nat}(h:i<l.length):I l i=l[i]:=by rw[I,List.getD_eq_getElem?_getD,List.getElem?_eq_getElem h];rfl
theorem yZ{l:List Int}{i:Nat}(h:i<l.length):l[i]? =some (I l i):=by rw[kO h,List.getElem?_eq_getElem h]
theorem Hk{l:List Int}{i:Nat}(h:l.length<=i):I l i=0:=by rw[I,List.getD_eq_getElem?_getD,List.getElem?_eq_none h];rfl
theorem at_mem{l:List Int}{i:Nat}(h:i<l.length):I l i∈l:=by rw[kO h];exact List.getElem_mem h
theorem dz{l:List Int}{n:Int}{i:Nat}(hr:Rg l n)(h:i<l.length):0<=I l i/\I l i<n:=hr _<|at_mem h
theorem tI{l l':List Int}(hl:l'.length=l.length)(h:∀i,i<l.length->I l' i=I l i):l'=l:=by refine List.ext_getElem hl fun i h1 h2=>?_;have:=h i h2;rwa[kO h1,kO h2] at this
theorem pc{l:List Int}{a i:Nat}(h:i<a):I (l.take a) i=I l i:=by rw[I,I,List.getD_eq_getElem?_getD,List.getD_eq_getElem?_getD,List.getElem?_take_of_lt h]
theorem pd{l:List Int}{a i:Nat}:I (l.drop a) i=I l (a+i):=by rw[I,I,List.getD_eq_getElem?_getD,List.getD_eq_getElem?_getD,List.getElem?_drop]
theorem Rg.perm{l l':List Int}{n:Int}(h:Rg l n)(p:l'.Perm l):Rg l' n:=fun x hx=>h x<|p.subset hx
theorem ra(l:List Int)(a b:Nat)(h:a<=b):l=l.take a++((l.drop a).take (b - a)++l.drop b):=by
 conv=>lhs;rw[←List.take_append_drop a l, ←List.take_append_drop (b - a) (l.drop a),List.drop_drop]
 rw[show a+(b - a)=b by omega]
theorem bG.bf{cv:Int->Int->Int}{n:Int}{l l1 l2:List Int}{a b:Nat}(o:Ord cv n)(hr:Rg l n)(mm:a<=b)(hb:b<=l.length)(h1:bG cv l a b l1)(h2:bG cv l a b l2):l1=l2:=by
 have k1:=h1.pm.length_eq;have k2:=h2.pm.length_eq;have e1:l1.take a=l2.take a:=by refine tI (by rw[List.length_take,List.length_take];omega) fun i hi=>?_;rw[List.length_take] at hi;rw[pc (by omega),pc (by omega),h1.out i (by omega),h2.out i<|by omega]
 have e3:l1.drop b=l2.drop b:=by refine tI (by rw[List.length_drop,List.length_drop];omega) fun i hi=>?_;rw[pd,pd,h1.out _ (by omega),h2.out _<|by omega]
 have pm:((l1.drop a).take<|b - a).Perm<|(l2.drop a).take<|b - a:=by have p:l1.Perm l2:=h1.pm.trans h2.pm.symm;rw[ra l1 a b mm,ra l2 a b mm,e1,e3] at p;exact(List.perm_append_right_iff _).1<|(List.perm_append_left_iff _).1 p
 have up:∀l':List Int,bG cv l a b l'->((l'.drop a).take<|b - a).Pairwise (Lq cv):=fun l' h=>by have hl:=h.pm.length_eq;rw[List.pairwise_iff_getElem];intro i j hi hj dq;have bP:=hi;have lv:=hj;rw[List.length_take,List.length_drop] at hi hj;rw[←kO bP, ←kO lv,pc (by omega),pc (by omega),pd,pd];exact h.ks (a+i) (a+j) (by omega) (by omega) (by omega)
 have e2:(l1.drop a).take (b - a)=(l2.drop a).take (b - a):=by refine List.Perm.eq_of_pairwise (le:=Lq cv) (fun x y hx hy q1 q2=>?_) (up l1 h1) (up l2 h2) pm;exact o.Qn x y (hr x<|h1.pm.subset<|List.mem_of_mem_drop<|List.mem_of_mem_take hx) (hr y<|h2.pm.subset<|List.mem_of_mem_drop<|List.mem_of_mem_take hy) q1 q2
 rw[ra l1 a b mm,ra l2 a b mm,e1,e2,e3]
theorem bG.len{cv:Int->Int->Int}{l l':List Int}{a b:Nat}(h:bG cv l a b l'):l'.length=l.length:=h.pm.length_eq
def swp(l:List Int)(i j:Nat):List Int:=(l.set i<|I l j).set j<|I l i
theorem SB(l:List Int)(i j:Nat):(swp l i j).length=l.length:=by unfold swp;rw[List.length_set,List.length_set]
theorem BK{l:List Int}{i j:Nat}(hi:i<l.length)(hj:j<l.length):(swp l i j).Perm l:=by unfold swp;rw[kO hi,kO hj];exact List.set_set_perm hi hj
theorem HK{l:List Int}{i k:Nat}{v:Int}(hi:i<l.length):I (l.set i v) k=if k=i then v else I l k:=by
 rw[I,I,List.getD_eq_getElem?_getD,List.getD_eq_getElem?_getD,List.getElem?_set];split
 ·rename_i e;subst e;simp[hi]
 ·rename_i e;rw[if_neg fun q=>e q.symm]
theorem Ct{l:List Int}{i j k:Nat}(hi:i<l.length)(hj:j<l.length):I (swp l i j) k=if k=j then I l i else if k=i then I l j else I l k:=by unfold swp;rw[HK (by rw[List.length_set];exact hj),HK hi]
def gK(p:Nat->Bool):Nat->Nat->Nat->Nat
 |0,i,_=>i
 |f+1,i,j=>if i<j then(if p ((i+j) / 2) then gK p f ((i+j) / 2+1) j else gK p f i ((i+j) / 2)) else i
theorem tj{p:Nat->Bool}{lo hi:Nat}(mono:∀x y,lo<=x->x<y->y<hi->p y=true->p x=true):∀(f i j:Nat),lo<=i->i<=j->j<=hi->j - i<=f->(∀k,lo<=k->k<i->p k=true)->(∀k,j<=k->k<hi->p k=false)->
 i<=gK p f i j/\gK p f i j<=j/\(∀k,lo<=k->k<gK p f i j->p k=true)/\∀k,gK p f i j<=k->k<hi->p k=false
 |0,i,j,h1,h2,h3,h4,h5,h6=>by
  have:i=j:=by omega
  subst this;exact⟨Nat.le_refl _,Nat.le_refl _,h5,h6⟩
 |f+1,i,j,h1,h2,h3,h4,h5,h6=>by
  unfold gK;by_cases q:i<j
  ·rw[if_pos q];cases e:p ((i+j) / 2) with
   |true=>
    rw[if_pos rfl];obtain⟨a1,a2,a3,a4⟩:=tj mono f ((i+j) / 2+1) j (by omega) (by omega) h3 (by omega) (fun k k1 k2=>by
     by_cases q2:k=(i+j) / 2
     ·rw[q2];exact e
     ·exact mono k ((i+j) / 2) k1 (by omega) (by omega) e) h6
    exact⟨by omega,a2,a3,a4⟩
   |false=>
    rw[if_neg (by intro h;cases h)];obtain⟨a1,a2,a3,a4⟩:=tj mono f i ((i+j) / 2) h1 (by omega) (by omega) (by omega) h5 (fun k k1 k2=>by
     cases e2:p k with
     |false=>rfl
     |true=>
      by_cases q2:k=(i+j) / 2
      ·rw[q2,e] at e2;cases e2
      ·rw[mono ((i+j) / 2) k (by omega) (by omega) k2 e2] at e;cases e)
    exact⟨a1,by omega,a3,a4⟩
  ·rw[if_neg q];have:i=j:=by omega
   subst this;exact⟨Nat.le_refl _,Nat.le_refl _,h5,h6⟩
end eg
end
section
namespace eg
theorem iw{l:List Int}{i j:Nat}(h:i=j):I l i=I l j:=by rw[h]
structure bS (l:List Int) (a m b:Nat) (l':List Int):Prop where
 pm:l'.Perm l
 is:∀k,I l' k=if a<=k/\k<a+(b - m) then I l (k+(m - a)) else if a+(b - m)<=k/\k<b then I l (k - (b - m)) else I l k
structure eh (l:List Int) (a b n:Nat) (l':List Int):Prop where
 pm:l'.Perm l
 is:∀k,I l' k=if a<=k/\k<a+n then I l (b+(k - a)) else if b<=k/\k<b+n then I l (a+(k - b)) else I l k
theorem bS.bf{l l1 l2:List Int}{a m b:Nat}(h1:bS l a m b l1)(h2:bS l a m b l2):l1=l2:=tI (by rw[h1.pm.length_eq,h2.pm.length_eq]) fun i _=>by rw[h1.is,h2.is]
theorem eh.bf{l l1 l2:List Int}{a b n:Nat}(h1:eh l a b n l1)(h2:eh l a b n l2):l1=l2:=tI (by rw[h1.pm.length_eq,h2.pm.length_eq]) fun i _=>by rw[h1.is,h2.is]
theorem bS.len{l l':List Int}{a m b:Nat}(h:bS l a m b l'):l'.length=l.length:=h.pm.length_eq
theorem eh.len{l l':List Int}{a b n:Nat}(h:eh l a b n l'):l'.length=l.length:=h.pm.length_eq
theorem eh.zero(l:List Int)(a b:Nat):eh l a b 0 l:=⟨.refl _,fun k=>by
 split
 ·omega
 ·split
  ·omega
  ·rfl⟩
theorem eh.step{l l':List Int}{a b n:Nat}(h:eh l a b n l')(mm:a+n<b)(hb:b+n<l.length):eh l a b (n+1)<|swp l' (a+n)<|b+n:=by
 have hl:=h.len;refine⟨(BK (by omega)<|by omega).trans h.pm,fun k=>?_⟩;rw[Ct (by omega) (by omega),h.is,h.is,h.is]
 repeat' split
 all_goals first|(exfalso;omega)|rfl|(exact iw<|by omega)
theorem bS.CZ(l:List Int)(a b:Nat):bS l a a b l:=⟨.refl _,fun k=>by
 repeat' split
 all_goals first|(exfalso;omega)|rfl|(exact iw<|by omega)⟩
theorem bS.Ih(l:List Int)(a b:Nat):bS l a b b l:=⟨.refl _,fun k=>by
 repeat' split
 all_goals first|(exfalso;omega)|rfl|(exact iw<|by omega)⟩
theorem bS.up{l l':List Int}{a k:Nat}(h:bS l a (a+1) (k+1) l')(hk:a<=k)(hl:k+1<l.length):bS l a (a+1) (k+2)<|swp l' k<|k+1:=by
 have:=h.len;refine⟨(BK (by omega)<|by omega).trans h.pm,fun i=>?_⟩;rw[Ct (by omega) (by omega),h.is,h.is,h.is]
 repeat' split
 all_goals first|(exfalso;omega)|rfl|(exact iw<|by omega)
theorem bS.down{l l':List Int}{k m:Nat}(h:bS l (k+1) m (m+1) l')(hk:k+1<=m)(hl:m<l.length):bS l k m (m+1)<|swp l' (k+1) k:=by
 have:=h.len;refine⟨(BK (by omega)<|by omega).trans h.pm,fun i=>?_⟩;rw[Ct (by omega) (by omega),h.is,h.is,h.is]
 repeat' split
 all_goals first|(exfalso;omega)|rfl|(exact iw<|by omega)
theorem bS.ex{l:List Int}{a m b:Nat}(h1:a<=m)(h2:m<=b)(h3:b<=l.length):∃l',bS l a m b l':=by
 refine⟨l.take a++((l.drop m).take (b - m)++((l.drop a).take (m - a)++l.drop b)),?_,fun k=>?_⟩
 ·have e:=ra l a b (by omega);have e2:(l.drop a).take (b - a)=(l.drop a).take (m - a)++(l.drop m).take (b - m):=by rw[show b - a=(m - a)+(b - m) by omega,List.take_add,List.drop_drop,show a+(m - a)=m by omega]
  rw[e2,List.append_assoc] at e
  conv=>rhs;rw[e]
  refine(List.perm_append_left_iff _).2 ?_;rw[←List.append_assoc, ←List.append_assoc];exact(List.perm_append_right_iff _).2 List.perm_append_comm
 ·simp only[I,List.getD_eq_getElem?_getD,List.getElem?_append,List.length_take,List.length_drop,List.getElem?_take,List.getElem?_drop];rw[Nat.min_eq_left (by omega),Nat.min_eq_left (by omega),Nat.min_eq_left<|by omega]
  repeat' split
  all_goals first|(exfalso;omega)|rfl|(congr 2;omega)
theorem bS.gt{l l1 l':List Int}{m i j:Nat}(h:eh l (m - i) m j l1)(hm:i<=m)(dq:j<i)(h':bS l1 (m - (i - j)) m (m+j) l'):bS l (m - i) m (m+j) l':=by
 refine⟨h'.pm.trans h.pm,fun k=>?_⟩;rw[h'.is,h.is,h.is,h.is]
 repeat' split
 all_goals first|(exfalso;omega)|rfl|(exact iw<|by omega)
theorem bS.lt{l l1 l':List Int}{m i j:Nat}(h:eh l (m - i) (m+j - i) i l1)(hm:i<=m)(dq:i<j)(h':bS l1 (m - i) m (m+(j - i)) l'):bS l (m - i) m (m+j) l':=by
 refine⟨h'.pm.trans h.pm,fun k=>?_⟩;rw[h'.is,h.is,h.is,h.is]
 repeat' split
 all_goals first|(exfalso;omega)|rfl|(exact iw<|by omega)
theorem bS.eq{l l1:List Int}{m i:Nat}(h:eh l (m - i) m i l1)(hm:i<=m):bS l (m - i) m (m+i) l1:=by
 refine⟨h.pm,fun k=>?_⟩;rw[h.is]
 repeat' split
 all_goals first|(exfalso;omega)|rfl|(exact iw<|by omega)
section
variable {cv:Int->Int->Int} {n:Int} {l l':List Int} {a m b i:Nat}
theorem Lq.of{x y:Int}(o:Ord cv n)(hx:0<=x/\x<n)(hy:0<=y/\y<n)(h:cv x y<0):Lq cv x y:=(o.Ji x y hx hy).resolve_right fun q=>q h
theorem y5(o:Ord cv n)(hr:Rg l n)(hm:m<l.length)(ha:a<=i)(hi:i<=m)(s:b7 cv l a m)(h1:∀h,a<=h->h<i->Lq cv (I l h) (I l m))(h2:∀h,i<=h->h<m->Lq cv (I l m) (I l h))(h:bS l i m (m+1) l'):bG cv l a (m+1) l':=by
 refine⟨h.pm,fun k hk=>?_,fun x y hx Jj hy=>?_⟩
 ·rw[h.is]
  repeat' split
  all_goals first|(exfalso;omega)|rfl|(exact iw<|by omega)
 ·rw[h.is,h.is];by_cases q1:x<i
  ·rw[if_neg (by omega),if_neg<|by omega];by_cases q2:y<i
   ·rw[if_neg (by omega),if_neg<|by omega];exact s x y hx Jj (by omega)
   ·by_cases q3:y=i
    ·rw[if_pos (by omega),iw (show y+(m - i)=m by omega)];exact h1 x hx q1
    ·rw[if_neg (by omega),if_pos<|by omega];exact s x _ hx (by omega) (by omega)
  ·by_cases q2:x=i
   ·rw[if_pos (by omega),if_neg (by omega),if_pos (by omega),iw (show x+(m - i)=m by omega)];exact h2 _ (by omega) (by omega)
   ·rw[if_neg (by omega),if_pos (by omega),if_neg (by omega),if_pos<|by omega];exact s _ _ (by omega) (by omega) (by omega)
theorem NL(o:Ord cv n)(hr:Rg l n)(hb:b<=l.length)(ha:a+1<=i)(hi:i<=b)(s:b7 cv l (a+1) b)(h1:∀h,a+1<=h->h<i->Lq cv (I l h) (I l a))(h2:∀h,i<=h->h<b->Lq cv (I l a) (I l h))(h:bS l a (a+1) i l'):bG cv l a b l':=by
 refine⟨h.pm,fun k hk=>?_,fun x y hx Jj hy=>?_⟩
 ·rw[h.is]
  repeat' split
  all_goals first|(exfalso;omega)|rfl|(exact iw<|by omega)
 ·rw[h.is,h.is];by_cases q1:y+1<i
  ·rw[if_pos (by omega),if_pos<|by omega];exact s _ _ (by omega) (by omega) (by omega)
  ·by_cases q2:y+1=i
   ·rw[if_pos (by omega),if_neg (by omega),if_pos (by omega),iw (show y - (i - (a+1))=a by omega)];exact h1 _ (by omega) (by omega)
   ·rw[show(if a<=y/\y<a+(i - (a+1)) then I l (y+(a+1 - a)) else if a+(i - (a+1))<=y/\y<i then I l (y - (i - (a+1))) else I l y)=I l y by rw[if_neg (by omega),if_neg<|by omega]];by_cases q3:x+1<i
    ·rw[if_pos<|by omega];exact s _ _ (by omega) (by omega) (by omega)
    ·by_cases q4:x+1=i
     ·rw[if_neg (by omega),if_pos (by omega),iw (show x - (i - (a+1))=a by omega)];exact h2 _ (by omega) (by omega)
     ·rw[if_neg (by omega),if_neg<|by omega];exact s _ _ (by omega) (by omega) (by omega)
theorem bG.mem(h:bG cv l a b l')(mm:a<=b)(hb:b<=l.length){i:Nat}(h1:a<=i)(h2:i<b):∃k,a<=k/\k<b/\I l' i=I l k:=by
 have hl:=h.len;have e1:l'.take a=l.take a:=by refine tI (by rw[List.length_take,List.length_take];omega) fun i hi=>?_;rw[List.length_take] at hi;rw[pc (by omega),pc (by omega),h.out i<|by omega]
 have e3:l'.drop b=l.drop b:=by refine tI (by rw[List.length_drop,List.length_drop];omega) fun i hi=>?_;rw[pd,pd,h.out _<|by omega]
 have pm:((l'.drop a).take<|b - a).Perm<|(l.drop a).take<|b - a:=by have p:=h.pm;rw[ra l' a b mm,ra l a b mm,e1,e3] at p;exact(List.perm_append_right_iff _).1<|(List.perm_append_left_iff _).1 p
 have hm:I l' i∈(l'.drop a).take (b - a):=by have:=at_mem (l:=(l'.drop a).take<|b - a) (i:=i - a) (by rw[List.length_take,List.length_drop];omega);rw[pc (by omega),pd,show a+(i - a)=i by omega] at this;exact this
 obtain⟨k,hk,e⟩:=List.mem_iff_getElem.1<|pm.subset hm;have gI:=hk;rw[List.length_take,List.length_drop] at gI;rw[←kO hk,pc (by omega),pd] at e;exact⟨a+k,by omega,by omega,e.symm⟩
end
def ki(cv:Int->Int->Int)(l:List Int)(p:Nat)(c:Nat):Bool:= !decide (cv (I l<|p - c) (I l c)<0)
structure Cut (cv:Int->Int->Int) (l:List Int) (a m b md st:Nat):Prop where
 sm:st<=m
 sa:a<=st
 en:m<=md+m - st
 eb:md+m - st<=b
 sd:st<=md
 x1:∀i j,a<=i->i<st->md+m - st<=j->j<b->Lq cv (I l i) (I l j)
 x2:∀j i,m<=j->j<md+m - st->st<=i->i<m->Lq cv (I l j) (I l i)
section
variable {cv:Int->Int->Int} {n:Int} {l l1 l2 l3:List Int} {a m b md st:Nat}
theorem Lq.nB(o:Ord cv n)(hr:Rg l n){i j k:Nat}(hi:i<l.length)(hj:j<l.length)(hk:k<l.length)(h1:Lq cv (I l i)<|I l j)(h2:Lq cv (I l j)<|I l k):Lq cv (I l i)<|I l k:=o.tr _ _ _ (dz hr hi) (dz hr hj) (dz hr hk) h1 h2
theorem Lq.Qo(o:Ord cv n)(hr:Rg l n){i:Nat}(hi:i<l.length):Lq cv (I l i)<|I l i:=(o.Ji _ _ (dz hr hi)<|dz hr hi).elim id id
theorem b7.le(o:Ord cv n)(hr:Rg l n)(s:b7 cv l a b)(hb:b<=l.length){i j:Nat}(hi:a<=i)(dq:i<=j)(hj:j<b):Lq cv (I l i)<|I l j:=by
 by_cases q:i=j
 ·subst q;exact Lq.Qo o hr (by omega)
 ·exact s i j hi (by omega) hj
theorem OI(o:Ord cv n)(hr:Rg l n)(Tb:a<m)(RG:m<b)(hb:b<=l.length)(sA:b7 cv l a m)(sB:b7 cv l m b)(RH:md=(a+b) / 2){lo hi f:Nat}(cr:lo=if m>md then md+m - b else a)(fE:hi=if m>md then md else m)(hf:hi - lo<=f)(lr:st=gK (ki cv l<|md+m - 1) f lo hi):Cut cv l a m b md st:=by
 have q0:a<=lo/\lo<=hi/\hi<=m/\hi<=md/\(∀c,lo<=c->c<hi->m<=md+m - 1 - c/\md+m - 1 - c<b):=by
  subst cr;subst fE;split
  ·refine⟨by omega,by omega,by omega,by omega,fun c h1 h2=>by omega⟩
  ·refine⟨by omega,by omega,by omega,by omega,fun c h1 h2=>by omega⟩
 obtain⟨p1,p2,p3,p4,p5⟩:=q0;have mono:∀x y,lo<=x->x<y->y<hi->ki cv l (md+m - 1) y=true->ki cv l (md+m - 1) x=true:=fun x y h1 h2 h3 h4=>by
  obtain⟨a1,a2⟩:=p5 x h1 (by omega);obtain⟨b1,b2⟩:=p5 y (by omega) h3;have h4:Lq cv (I l y)<|I l<|md+m - 1 - y:=by simpa[ki] using h4
  have k1:=b7.le o hr sA (by omega) (show a<=x by omega) (Nat.le_of_lt h2) (show y<m by omega);have k2:=b7.le o hr sB (by omega) b1 (show md+m - 1 - y<=md+m - 1 - x by omega) a2;have k3:=Lq.nB o hr (by omega) (by omega) (by omega) (Lq.nB o hr (by omega) (by omega) (by omega) k1 h4) k2;simpa[ki] using k3
 obtain⟨r1,r2,r3,r4⟩:=tj mono f lo hi (Nat.le_refl _) p2 (Nat.le_refl _) hf (fun k h1 h2=>by omega) (fun k h1 h2=>by omega);rw[←lr] at r1 r2 r3 r4;have g:md+m - st<=b/\(lo=a\/(lo=md+m - b))/\(hi=m\/hi=md):=by
  by_cases q:m>md
  ·rw[if_pos q] at cr fE;exact⟨by omega,.inr cr,.inr fE⟩
  ·rw[if_neg q] at cr fE;exact⟨by omega,.inl cr,.inl fE⟩
 obtain⟨g1,g2,g3⟩:=g;refine⟨by omega,by omega,by omega,g1,by omega,fun i j h1 h2 h3 h4=>?_,fun j i h1 h2 h3 h4=>?_⟩
 ·by_cases q:st=lo
  ·rcases g2 with e|e<;>(exfalso;omega)
  ·have c:=r3 (st - 1) (by omega) (by omega);have c:Lq cv (I l<|st - 1)<|I l<|md+m - 1 - (st - 1):=by simpa[ki] using c
   have k1:=b7.le o hr sA (by omega) h1 (show i<=st - 1 by omega) (by omega);have k2:=b7.le o hr sB (by omega) (show m<=md+m - 1 - (st - 1) by omega) (show md+m - 1 - (st - 1)<=j by omega) h4;exact Lq.nB o hr (by omega) (by omega) (by omega) (Lq.nB o hr (by omega) (by omega) (by omega) k1 c) k2
 ·by_cases q:st=hi
  ·rcases g3 with e|e<;>(exfalso;omega)
  ·have c:=r4 st (Nat.le_refl _) (by omega);have c:cv (I l<|md+m - 1 - st) (I l st)<0:=by simpa[ki] using c
   obtain⟨b1,b2⟩:=p5 st r1 (by omega);have c:=Lq.of o (dz hr<|by omega) (dz hr<|by omega) c;have k1:=b7.le o hr sB (by omega) h1 (show j<=md+m - 1 - st by omega) (by omega);have k2:=b7.le o hr sA (by omega) (show a<=st by omega) h3 h4;exact Lq.nB o hr (by omega) (by omega) (by omega) (Lq.nB o hr (by omega) (by omega) (by omega) k1 c) k2
theorem NM(o:Ord cv n)(hr:Rg l n)(hb:b<=l.length)(RG:m<=b)(sA:b7 cv l a m)(sB:b7 cv l m b)(C:Cut cv l a m b md st)(h:bS l st m (md+m - st) l1):
 b7 cv l1 a st/\b7 cv l1 st md/\b7 cv l1 md (md+m - st)/\b7 cv l1 (md+m - st) b/\(∀i j,a<=i->i<md->md<=j->j<b->Lq cv (I l1 i) (I l1 j))/\(∀k,k<a\/b<=k->I l1 k=I l k):=by
 obtain⟨c1,c2,c3,c4,c5,x1,x2⟩:=C;have f1:∀k,k<st->I l1 k=I l k:=fun k hk=>by rw[h.is,if_neg (by omega),if_neg<|by omega]
 have f2:∀k,st<=k->k<md->I l1 k=I l (k+(m - st)):=fun k h1 h2=>by rw[h.is,if_pos<|by omega]
 have f3:∀k,md<=k->k<md+m - st->I l1 k=I l (k - (md - st)):=fun k h1 h2=>by rw[h.is,if_neg (by omega),if_pos<|by omega];exact iw (by omega)
 have f4:∀k,md+m - st<=k->I l1 k=I l k:=fun k hk=>by rw[h.is,if_neg (by omega),if_neg<|by omega]
 refine⟨fun i j h1 h2 h3=>?_,fun i j h1 h2 h3=>?_,fun i j h1 h2 h3=>?_,fun i j h1 h2 h3=>?_,fun i j h1 h2 h3 h4=>?_,fun k hk=>?_⟩
 ·rw[f1 i (by omega),f1 j<|by omega];exact sA i j h1 h2 (by omega)
 ·rw[f2 i (by omega) (by omega),f2 j (by omega)<|by omega];exact sB _ _ (by omega) (by omega) (by omega)
 ·rw[f3 i (by omega) (by omega),f3 j (by omega)<|by omega];exact sA _ _ (by omega) (by omega) (by omega)
 ·rw[f4 i (by omega),f4 j<|by omega];exact sB _ _ (by omega) (by omega) (by omega)
 ·by_cases q1:i<st
  ·rw[f1 i q1];by_cases q2:j<md+m - st
   ·rw[f3 j h3 q2];exact sA _ _ h1 (by omega) (by omega)
   ·rw[f4 j<|by omega];exact x1 i j h1 q1 (by omega) h4
  ·rw[f2 i (by omega) h2];by_cases q2:j<md+m - st
   ·rw[f3 j h3 q2];exact x2 _ _ (by omega) (by omega) (by omega) (by omega)
   ·rw[f4 j<|by omega];exact sB _ _ (by omega) (by omega) h4
 ·rcases hk with hk|hk
  ·exact f1 k (by omega)
  ·exact f4 k (by omega)
theorem NN(hb:b<=l.length)(RI:a<=md)(RJ:md<=b)(hp:l1.Perm l)(ho:∀k,k<a\/b<=k->I l1 k=I l k)(hx:∀i j,a<=i->i<md->md<=j->j<b->Lq cv (I l1 i) (I l1 j))(h2:bG cv l1 a md l2)(h3:bG cv l2 md b l3):bG cv l a b l3:=by
 have e1:=hp.length_eq;have e2:=h2.len;refine⟨h3.pm.trans<|h2.pm.trans hp,fun k hk=>?_,fun i j hi dq hj=>?_⟩
 ·rw[h3.out k (by omega),h2.out k (by omega),ho k hk]
 ·by_cases q1:j<md
  ·rw[h3.out i (by omega),h3.out j<|by omega];exact h2.ks i j hi dq q1
  ·by_cases q2:md<=i
   ·exact h3.ks i j q2 dq hj
   ·obtain⟨k,k1,k2,k3⟩:=h3.mem RJ (by omega) (show md<=j by omega) hj;obtain⟨z,z1,z2,z3⟩:=h2.mem RI (by omega) hi (show i<md by omega);rw[h3.out i (by omega),k3,h2.out k (by omega),z3];exact hx z k z1 z2 k1 k2
theorem bG.refl(s:b7 cv l a b):bG cv l a b l:=⟨.refl _,fun _ _=>rfl,s⟩
theorem b7.other{l':List Int}{c d:Nat}(s:b7 cv l c d)(h:bG cv l a b l')(hd:d<=a\/b<=c):b7 cv l' c d:=fun i j h1 h2 h3=>by rw[h.out i (by omega),h.out j<|by omega];exact s i j h1 h2 h3
end
end eg
end
section
open Go Go.Rn Go.RowKit Go.Proofs
namespace fq
open dP eg
abbrev cY(l:List Int):List AV:=(l.map aH).flatten
noncomputable abbrev mR(l:List Int)(c:AV):List<|Nat×Option U:=ar++[(270,some<|aG aH l),(271,some<|au [c])]
abbrev bL(sl:List<|Nat×AV)(o:List<|Nat×Option U)(fr:AF)(s:AS):Prop:=(sl.map (fun q=>some q.2)=sl.map (fun q=>some q.2))/\(o.map (fun q=>q.2)=o.map (fun q=>q.2))/\(fr=fr/\s=s)
theorem bQ{sl:List<|Nat×AV}{o:List<|Nat×Option U}{fr:AF}{s:AS}:bL sl o fr s:=⟨rfl,rfl,rfl,rfl⟩
abbrev RR(l':List Int)(c:AV)(v:AV)(s:AS):Prop:=v= .tuple []/\s.h.get 270=some (au<|cY l')/\s.h.get 271=some (au [c])
abbrev aN(B:aC)(f:Func)(l':List Int)(c:AV)(fr:AF)(s:AS):Prop:=bp Tryz.prog B 272 (Fin Tryz.prog f.results.toList<|RR l' c) fr s
abbrev mw(l:List Int)(c:AV):Prop:=AV.tuple []=AV.tuple []/\some (aG aH l)=some (au<|cY l)/\some (au [c])=some (au [c])
theorem nC{l:List Int}{c:AV}:mw l c:=⟨rfl,rfl,rfl⟩
section
variable {L:bZ} {B:aC} {f nt:Nat} {t:Tr AV} {K:List Item} {s:AS} {rs:List ResultVar} {R:AV->AS->Prop}
theorem rS(mc:Mt L B)(p:Pl){T:Prop}(x:T)(h:T=wp (Ao L) 900 6 (.fr f nt K t s) p rs (fun v s _=>R v s) (fun _ _ _=>False):=by as_aux_lemma=>kernel_rfl)(h0:Nat.ble 272 s.nx=true:=by as_aux_lemma=>kernel_rfl):bp Tryz.prog B 272 (Fin Tryz.prog rs R) ⟨f,t,nt,K,[],none⟩ s:=Cn (E:=Ao L) tv rfl bX mc.2.2.1 mc.2.2.2 900 p x h h0
theorem rC(mc:Mt L B){F:AF}{S:AS}(H:bp Tryz.prog B 272 (Fin Tryz.prog rs R) F S)(p:Pl){T:Prop}(x:T)(h:T=wp (Ao L) 900 6 (.fr f nt K t s) p rs (fun v s _=>R v s) (fun fr s1 _=>fr=F/\s1=S):=by as_aux_lemma=>kernel_rfl)(h0:Nat.ble 272 s.nx=true:=by as_aux_lemma=>kernel_rfl):bp Tryz.prog B 272 (Fin Tryz.prog rs R) ⟨f,t,nt,K,[],none⟩ s:=Cl (E:=Ao L) (C:=fun fr s1 _=>fr=F/\s1=S) tv rfl bX mc.2.2.1 mc.2.2.2 Mg rfl mc.1 (fun fr s1 p hC=>by obtain⟨rfl,rfl⟩:=hC;exact H) 900 p x h h0
end
theorem wN(z:Int)(k:Nat)(h:z=(k:Int):=by omega)(hk:k<=1000000000:=by omega):AV.int .i64 (IntKind.wrap .i64 z)=AV.int .i64 ((k:Nat):Int):=by rw[h];exact wI _ (by omega)
theorem hU(k:Nat)(hk:k<=1000000000:=by omega):AV.int .u64 (IntKind.wrap .u64 ((k:Nat):Int))=AV.int .u64 ((k:Nat):Int):=by refine congrArg (AV.int .u64) ?_;show((k:Int)) % (2 ^ 64:Int)=_;omega
theorem hS(k:Nat)(hk:k<=1000000000:=by omega):AV.int .i64 (IntKind.wrap .i64<|wO .shr .u64 ((k:Nat):Int)<|.ofNat 1)=AV.int .i64 ((k / 2:Nat):Int):=by
 have e:wO .shr .u64 ((k:Nat):Int) (.ofNat 1)=((k / 2:Nat):Int):=by show((k:Nat):Int).fdiv (2 ^ min 1 64)=_;rw[Int.fdiv_eq_ediv_of_nonneg _<|by decide];show((k:Nat):Int) / 2=_;omega
 rw[e];exact wI _ (by omega)
theorem fa{l:List Int}{k:Nat}(h:k<l.length:=by omega)(hl:l.length<=1000000:=by omega):cellsOf (some<|aG aH l) (((k:Nat):Int).toNat*1) 1=some [.int .i64<|I l k]:=by have:=Co (enc:=aH) (K:=1) (fun _=>rfl) (l:=l) (i:=k) (c:=I l k) (by unfold top;omega) (yZ h) 0 1 rfl;rw[Int.toNat_natCast];exact this
theorem xI{l:List Int}{k:Nat}{v:Int}(h:k<l.length:=by omega)(hl:l.length<=1000000:=by omega):gW (some<|aG aH l) (((k:Nat):Int).toNat*1) [.int .i64 v]=some (aG aH<|l.set k v):=by have:=Cp (enc:=aH) (K:=1) (fun _=>rfl) (l:=l) (i:=k) (c:=I l k) (c':=v) (r:=[.int .i64 v]) (by unfold top;omega) (yZ h) 0 rfl rfl rfl;rw[Int.toNat_natCast];exact this
theorem zW{l:List Int}{i k:Nat}{v w:Int}(h:k<l.length:=by omega)(hl:l.length<=1000000:=by omega):gW (some<|aG aH<|l.set i w) (((k:Nat):Int).toNat*1) [.int .i64 v]=some (aG aH<|(l.set i w).set k v):=xI (by rw[List.length_set];exact h) (by rw[List.length_set];exact hl)
noncomputable abbrev cQ(c:AV):AS->Prop:=rp 270 dI eH [271] [[c]]
noncomputable abbrev cG:AS->AS:=zA 270 dI eH [271]
structure Cm (L:bZ) (g:FuncId) (c:AV) (n:Int) (cv:Int->Int->Int):Prop where
 Qp:∀x y,(0<=x/\x<n)->(0<=y/\y<n)->∀z,cQ c z->br Tryz.prog (sp L) FU 6 (.fn g) [.int .i64 x,.int .i64 y,.ptr<|some (271,0)] z= .ok (.int .i64<|cv x y) (cG z)
 ord:Ord cv n
abbrev CQ(c:AV):Prop:=true=true/\(true=true/\some (au [c])=some (au [c]))/\True
theorem cm{L:bZ}{g:FuncId}{c:AV}{n:Int}{cv:Int->Int->Int}(h:Cm L g c n cv){x y:Int}{T:Prop}(hx:0<=x/\x<n)(hy:0<=y/\y<n)(t:T):(∀z,cQ c z->br Tryz.prog (sp L) FU 6 (.fn g) [.int .i64 x,.int .i64 y,.ptr<|some (271,0)] z= .ok (.int .i64<|cv x y) (cG z))/\CQ c/\T:=⟨h.Qp x y hx hy,⟨rfl,⟨rfl,rfl⟩,trivial⟩,t⟩
noncomputable abbrev dv(g:FuncId):AV:=.func (.func g) [] [.ptr<|some (271,0)]
end fq
end
section
open Go Go.Rn Go.RowKit Go.Proofs
namespace fO
open dP eg fq
abbrev LR:=List AV->List (List AV)->AV->Option (List AV)->Prop
open Classical in
noncomputable def vL(R:LR)(args:List AV)(aw:List<|List AV):Option<|AV×Option (List AV):=if h:∃p:AV×Option (List AV),R args aw p.1 p.2 then some h.choose else none
abbrev iV(R:LR):Prop:=∀args aw y y' c c',R args aw y c->R args aw y' c'->y=y'/\c=c'
theorem wa{R:LR}(hd:iV R){args:List AV}{aw:List<|List AV}{y:AV}{c:Option<|List AV}(h:R args aw y c):vL R args aw=some (y,c):=by have hx:∃p:AV×Option (List AV),R args aw p.1 p.2:=⟨(y,c),h⟩;unfold vL;rw[dif_pos hx];obtain⟨e1,e2⟩:=hd _ _ _ _ _ _ hx.choose_spec h;exact congrArg some<|Prod.ext e1 e2
theorem OJ{R:LR}{args:List AV}{aw:List<|List AV}{y:AV}{c:Option<|List AV}(h:vL R args aw=some (y,c)):R args aw y c:=by
 unfold vL at h;split at h
 ·rename_i hx;injection h with h
  have:=hx.choose_spec;rw[h] at this;exact this
 ·cases h
theorem y6(l:List Int):cY l=l.map (AV.int .i64):=by
 induction l with
 |nil=>rfl
 |cons x l ih=>show aH x++cY l=_;rw[ih];rfl
theorem tz(l:List Int):(cY l).length=l.length:=by rw[y6,List.length_map]
theorem NO{l m:List Int}(h:cY l=cY m):l=m:=by rw[y6,y6] at h;exact(List.map_inj_right fun x y e=>by injection e).1 h
theorem zg(l:List Int):(cY l).all AV.bV=true:=by rw[y6,List.all_map];exact List.all_eq_true.2 fun x _=>rfl
noncomputable abbrev iP(N:Nat)(cap:bc)(is:List Int)(g:FuncId):List AV:=.slice (some (270,0)) N cap::(is.map (AV.int .i64)++[dv g])
theorem M0(N:Nat)(cap:bc)(g:FuncId)(is:List Int):cS (iP N cap is g)=[270,271]:=by
 have h:∀is:List Int,cS (is.map (AV.int .i64)++[dv g])=[271]:=fun is=>by
  induction is with
  |nil=>rfl
  |cons x is ih=>exact ih
 show[270]++cS (is.map (AV.int .i64)++[dv g])=_;rw[h];rfl
theorem M3(N:Nat)(cap:bc)(g:FuncId)(is:List Int):(iP N cap is g).all fT=true:=by
 have h:∀is:List Int,(is.map (AV.int .i64)++[dv g]).all fT=true:=fun is=>by
  induction is with
  |nil=>show(fT (dv g)&&true)=true;kernel_rfl
  |cons x is ih=>rw[List.map_cons,List.cons_append,List.all_cons,ih];rfl
 show(fT (.slice (some (270,0)) N cap)&&(is.map (AV.int .i64)++[dv g]).all fT)=true;rw[h];kernel_rfl
theorem M4(N:Nat)(cap:bc)(g:FuncId)(is:List Int):(iP N cap is g).map (iF fun n=>270+iU [270,271] n)=iP N cap is g:=by
 have h:∀is:List Int,(is.map (AV.int .i64)++[dv g]).map (iF fun n=>270+iU [270,271] n)=is.map (AV.int .i64)++[dv g]:=fun is=>by
  induction is with
  |nil=>rfl
  |cons x is ih=>rw[List.map_cons,List.cons_append,List.map_cons,ih];rfl
 show iF _ (.slice (some (270,0)) N cap)::(is.map (AV.int .i64)++[dv g]).map _=_;rw[h];rfl
theorem s8{N N':Nat}{cap IJ:bc}{is Jk:List Int}{g g':FuncId}(h:iP N cap is g=iP N' IJ Jk g'):N=N'/\cap=IJ/\is=Jk/\g=g':=by
 injection h with h1 h2
 injection h1 with _ h1 h3
 obtain⟨h4,h5⟩:=List.append_inj' h2 rfl;injection h5 with h5 _
 injection h5 with h5 _
 injection h5 with h5
 exact⟨h1,h3,(List.map_inj_right fun x y e=>by injection e).1 h4,h5⟩
theorem tA{l m:List Int}{c d:AV}(h:[cY l,[c]]=[cY m,[d]]):l=m/\c=d:=by
 injection h with h1 h2
 injection h2 with h2 _
 injection h2 with h2 _
 exact⟨NO h1,h2⟩
noncomputable abbrev lQ(l:List Int)(c:AV):AS->Prop:=rp 270 dI eH [270,271] [cY l,[c]]
noncomputable abbrev lG(l:List Int):AS->AS:=CX 270 dI eH 270 [271]<|cY l
abbrev LQ(l:List Int)(c:AV):Prop:=true=true/\(true=true/\some (aG aH l)=some (au<|cY l))/\(true=true/\some (au [c])=some (au [c]))/\True
theorem lL{L:bZ}{f:FuncId}{R:LR}(hs:sp L f=some (eU (vL R) 270 eH dI))(hd:iV R){N:Nat}{cap:bc}{is:List Int}{g:FuncId}{l l':List Int}{c:AV}{T:Prop}(hc:c.bV=true)(h:R (iP N cap is g) [cY l,[c]] (.tuple [])<|some<|cY l')(hl:l.length<=1000000)(iC:l'.length=l.length)(t:T):
 (∀z,lQ l c z->br Tryz.prog (sp L) FU 6 (.fn f) (iP N cap is g) z= .ok (.tuple []) (lG l' z))/\LQ l c/\T:=by
 refine⟨?_,⟨rfl,⟨rfl,rfl⟩,⟨rfl,rfl⟩,trivial⟩,t⟩;have ht:l.length<=top:=by unfold top;omega
 refine HJ (n:=5) (N:=[271]) (m:=270) (c:=cY l') hs (M0 N cap g is) ?_ (by decide) rfl (by kernel_rfl) ?_ ?_ rfl ?_
 ·rw[M3];rfl
 ·show(((cY l).all AV.bV&&Nat.ble (cY l).length top)&&(((c.bV&&true)&&Nat.ble 1 top)&&true))=true;rw[zg,tz,aL.2 ht,hc,aL.2 (show 1<=top by unfold top;omega)];rfl
 ·rw[M4];exact wa hd h
 ·rw[zg,tz,iC,aL.2 ht];rfl
theorem mZ{L L':bZ}{g:Nat}{fn:Func}{R:LR}(hP:dp Tryz.prog)(h:cL L)(h':cL L')(cw:Tryz.prog.funcs[g]? =some fn)(gF:∀args aw y c,R args aw y c->max fn.ntmps args.length<=top/\∀B:aC,Mt L' B->bp Tryz.prog B (270+aw.length) (wW 270 Tryz.prog fn.results.toList y<|kY c aw) ⟨g,bt args,max fn.ntmps args.length,[.code<|aJ Tryz.prog g []],[],none⟩ ⟨jA<|ar++pE 270 aw,270+aw.length,0,[],[]⟩)(cV:fn.body=some (aJ Tryz.prog g []):=by kernel_rfl)(hn:(fn.name == "runtime.NumGoroutine")=false:=by kernel_rfl):cL<|(g,.raw<|eU<|vL R)::L:=MZ hP yL NJ CY zV Qm II h h' cw cV hn fun args aw y c e=>gF args aw y c<|OJ e
end fO
end
section
open Go Go.Rn Go.RowKit Go.Proofs
namespace gY
open dP eg
abbrev Pr:=Int×Int
structure At where
 th:Int
 tx:Int
 fr:Int
 to:Int
 rv:Int
 wv:Int
 cm:Bool
 rd:List Pr
 wr:List Pr
deriving Inhabited
theorem eP:kh 2 cD:=⟨fun _=>rfl,fun _=>rfl⟩
noncomputable def aj(a:At):List AV:=[.int .i64 a.th,.int .i64 a.tx,.int .i64 a.fr,.int .i64 a.to,.int .i64 a.rv,.int .i64 a.wv,.bool a.cm,.b9 (nm (a.rd.map cD).flatten) 0 a.rd.length,.b9 (nm (a.wr.map cD).flatten) 0 a.wr.length]
theorem eA:kh 9 aj:=⟨fun _=>rfl,fun a=>by show(true&&(true&&(true&&(true&&(true&&(true&&(true&&(Nat.ble top (nm _)&&(Nat.ble top (nm _)&&true)))))))))=true;rw[aL.2<|aQ _,aL.2<|aQ _];rfl⟩
theorem yM{l m:List Pr}(h:az cD l=az cD m):l=m:=by
 have e:eO cD 2 (az cD l) m:=by rw[h];exact eO.az eP m
 exact eO.inj Me (eO.az eP l) e
theorem BL(x y:At)(h:aj x=aj y):x=y:=by obtain⟨_,_,_,_,_,_,_,r,w⟩:=x;obtain⟨_,_,_,_,_,_,_,r',w'⟩:=y;simp only[aj,List.cons.injEq,AV.int.injEq,AV.bool.injEq,true_and,_root_.and_true] at h;obtain⟨rfl,rfl,rfl,rfl,rfl,rfl,rfl,h1,h2⟩:=h;have e1:=yM (show az cD r=az cD r' from h1);have e2:=yM (show az cD w=az cD w' from h2);rw[e1,e2]
theorem vE{l m:List At}(h:az aj l=az aj m):l=m:=by
 have e:eO aj 9 (az aj l) m:=by rw[h];exact eO.az eA m
 exact eO.inj BL (eO.az eA l) e
theorem Ii(a:At):AV.hi (.agg<|aj a)=true:=by show(aj a).all AV.bV=true;exact List.all_eq_true.2 fun x hx=>BH<|List.all_eq_true.1 (eA.fy a) x hx
def kv(a:At):Int:=if a.wv>0 then a.wv else a.rv
def kk(a:At):Int:=if a.wv>0 then 0 else 1
def cp(x y:Int):Int:=if x<y then -1 else if x>y then 1 else 0
def D9(a b c:Int):Int:=if a≠0 then a else if b≠0 then b else c
def ae(l:List At)(x:Int):At:=l.getD x.toNat default
def nD(l:List At)(x y:Int):Int:=D9 (cp (kv<|ae l x)<|kv<|ae l y) (cp (kk<|ae l x)<|kk<|ae l y)<|cp (ae l x).fr (ae l y).fr
def zB(l:List At):Prop:=∀x y,(0<=x/\x<(l.length:Int))->(0<=y/\y<(l.length:Int))->(ae l x).fr=(ae l y).fr->x=y
theorem zi(l:List At)(x y:Int):nD l x y<0↔kv (ae l x)<kv (ae l y)\/kv (ae l x)=kv (ae l y)/\(kk (ae l x)<kk (ae l y)\/kk (ae l x)=kk (ae l y)/\(ae l x).fr<(ae l y).fr):=by
 unfold nD D9 cp
 repeat' split
 all_goals omega
theorem y7{l:List At}(h:zB l):Ord (nD l) l.length:=by
 refine⟨fun x y z _ _ _ h1 h2=>?_,fun x y _ _=>?_,fun x y hx hy h1 h2=>?_⟩
 ·simp only[Lq,zi] at*;omega
 ·simp only[Lq,zi];omega
 ·simp only[Lq,zi] at*;exact h x y hx hy (by omega)
end gY
end
section
open Go Go.Rn Go.RowKit Go.Proofs
namespace mf
open dP eg fq fO gY
section
variable {L:bZ} {B:aC} {f nt:Nat} {t:Tr AV} {K:List Item} {s:AS} {rs:List ResultVar} {R:AV->AS->Prop}
theorem kC(mc:Mt L B){F:AF}{S:AS}(H:bp Tryz.prog B 271 (Fin Tryz.prog rs R) F S)(p:Pl){T:Prop}(x:T)(h:T=wp (xH L) 900 6 (.fr f nt K t s) p rs (fun v s _=>R v s) (fun fr s1 _=>fr=F/\s1=S):=by as_aux_lemma=>kernel_rfl)(h0:Nat.ble 271 s.nx=true:=by as_aux_lemma=>kernel_rfl):bp Tryz.prog B 271 (Fin Tryz.prog rs R) ⟨f,t,nt,K,[],none⟩ s:=RE mc (C:=fun fr s1 _=>fr=F/\s1=S) (fun fr s1 _ hC=>by obtain⟨rfl,rfl⟩:=hC;exact H) p x h h0
theorem vC(mc:Mt L B){F:AF}{S:AS}(H:bp Tryz.prog B 270 (Fin Tryz.prog rs R) F S)(p:Pl){T:Prop}(x:T)(h:T=wp (en L) 900 6 (.fr f nt K t s) p rs (fun v s _=>R v s) (fun fr s1 _=>fr=F/\s1=S):=by as_aux_lemma=>kernel_rfl)(h0:Nat.ble 270 s.nx=true:=by as_aux_lemma=>kernel_rfl):bp Tryz.prog B 270 (Fin Tryz.prog rs R) ⟨f,t,nt,K,[],none⟩ s:=wC mc (C:=fun fr s1 _=>fr=F/\s1=S) (fun fr s1 _ hC=>by obtain⟨rfl,rfl⟩:=hC;exact H) p x h h0
end
def dk(v:Int)(p:Pr):Bool:=decide (p.1<0)||decide (p.1>=v)
def jd(v:Int):List Pr->Int->Int
 |[],_=> -1
 |p::l,i=>if dk v p then i else jd v l (i+1)
noncomputable abbrev mF(v:Int):List<|Nat×Option U:=ar++[(270,some<|au [i6 v])]
noncomputable abbrev jN:AV:=.func (.func 18) [] [.ptr<|some (270,0)]
abbrev RF(y:AV)(v:Int)(r:AV)(s:AS):Prop:=r=y/\s.h.get 270=some (au [i6 v])
abbrev nE(B:aC)(f:Func)(y:AV)(v:Int)(fr:AF)(s:AS):Prop:=bp Tryz.prog B 271 (Fin Tryz.prog f.results.toList<|RF y v) fr s
abbrev xJ(y:AV)(v:Int):Prop:=y=y/\some (au [i6 v])=some (au [i6 v])
theorem uj{l:List Pr}{i:Nat}(h:i<l.length):eK FU (nm (l.map cD).flatten) (0+((i:Nat):Int).toNat*2) 2=some [i6 (l.getD i (0,0)).1,i6 (l.getD i (0,0)).2]:=by
 have e:l[i]? =some (l.getD i (0,0)):=by rw[List.getD_eq_getElem?_getD,List.getElem?_eq_getElem h];rfl
 have:=qZ eP e 0 2 (by omega);rw[Nat.add_zero] at this;rw[Nat.zero_add,Int.toNat_natCast];exact this
theorem Ij{l:List Pr}{i:Nat}(h:i<l.length):eK FU (nm (l.map cD).flatten) (0+((i:Nat):Int).toNat*2+0) 1=some [i6 (l.getD i (0,0)).1]:=by
 have e:l[i]? =some (l.getD i (0,0)):=by rw[List.getD_eq_getElem?_getD,List.getElem?_eq_getElem h];rfl
 have:=qZ eP e 0 1 (by omega);rw[Nat.zero_add,Int.toNat_natCast];exact this
abbrev VE(nx:Nat)(x:AV):Prop:=∀r:Nat->Nat,(∀k,k<nx->r k=k)->(∀k,top<=k->r k=k)->cn r x x
abbrev OE(nx:Nat)(o:U):Prop:=∀r:Nat->Nat,(∀k,k<nx->r k=k)->(∀k,top<=k->r k=k)->fX r o o
def my(nx:Nat):List (Nat×AV)->Prop
 |[]=>True
 |p::l=>VE nx p.2/\my nx l
def mz(nx:Nat):List (Nat×Option U)->Prop
 |[]=>True
 |p::l=>(∀x,p.2=some x->OE nx x)/\mz nx l
theorem my.at{nx:Nat}:∀{l:List<|Nat×AV},my nx l->∀p∈l,VE nx p.2
 |_::_,h,p,hp=>by
  rcases List.mem_cons.1 hp with rfl|hp
  ·exact h.1
  ·exact my.at h.2 p hp
theorem mz.at{nx:Nat}:∀{l:List<|Nat×Option U},mz nx l->∀p∈l,∀x,p.2=some x->OE nx x
 |_::_,h,p,hp=>by
  rcases List.mem_cons.1 hp with rfl|hp
  ·exact h.1
  ·exact mz.at h.2 p hp
theorem rF{nx:Nat}{l:List<|Nat×AV}{o:List<|Nat×Option U}(hn:270<=nx)(hl:my nx l)(ho:mz nx o):uf nx l<|ar++o:=fun r h1 h2=>by
 refine⟨fun p hp=>hl.at p hp r h1 h2,fun p hp x hx=>?_⟩;rcases List.mem_append.1 hp with hp|hp
 ·exact BG (nx:=270) (fun k hk=>h1 k<|by omega) (by as_aux_lemma=>kernel_rfl) p hp x hx
 ·exact ho.at p hp x hx r h1 h2
theorem RK{nx:Nat}{x:AV}(h:x.hi=true):VE nx x:=fun r _ r2 ρ v k=>AV.tP (fun m x hm e=>by show ρ (r m)=_;rw[r2 m hm];exact e) h k
theorem sC{nx n o:Nat}(h:n<nx):VE nx<|.ptr<|some (n,o):=fun r r1 _=>cn.ptr<|r1 n h
theorem Ea{nx n:Nat}(h:n<nx):VE nx<|.map<|some n:=fun r r1 _=>cn.map<|r1 n h
theorem RL{nx n len:Nat}{c:bc}(h:n<nx):VE nx<|.slice (some (n,0)) len c:=fun r r1 _=>cn.slice<|r1 n h
theorem Ap{nx n o:Nat}{g:FuncId}(h:n<nx):VE nx<|.func (.func g) [] [.ptr<|some (n,o)]:=fun r r1 _ ρ v k=>by simp only[VR,aq] at k ⊢;rw[r1 n h];exact k
theorem fU{nx:Nat}{n:Int}:VE nx<|.int .i64 n:=fun r _ _=>cn.int _ _
theorem Tc{nx:Nat}{b:Bool}:VE nx<|.bool b:=fun r _ _=>cn.bool _
theorem mA{nx:Nat}{α:Type}{enc:α->List AV}{l:List α}:VE nx<|az enc l:=RK<|aL.2<|aQ _
theorem lD{nx:Nat}{o:U}(h:OE nx o):∀x,some o=some x->OE nx x:=fun x e=>by cases e;exact h
theorem Aq{nx:Nat}{cs:List AV}(hl:cs.length<=top)(h:∀c∈cs,VE nx c)(h1:cs.all AV.bB=true):OE nx<|au cs:=fun r r1 r2=>by
 have go:∀l:List AV,(∀c∈l,VE nx c)->kb r l l:=fun l=>by
  induction l with
  |nil=>intro _;trivial
  |cons c l ih=>intro h;exact⟨h c List.mem_cons_self r r1 r2,ih fun c hc=>h c<|List.mem_cons_of_mem _ hc⟩
 exact fX.cells hl (go cs h) h1
abbrev p6(nx:Nat)(sl:List<|Nat×AV)(o:List<|Nat×Option U)(fr:AF)(s:AS):Prop:=(sl.map (fun q=>some q.2)=sl.map (fun q=>some q.2))/\(o.map (fun q=>q.2)=o.map (fun q=>q.2))/\uf nx sl o/\(fr=fr/\s=s)
theorem sD{nx:Nat}{sl:List<|Nat×AV}{o:List<|Nat×Option U}{fr:AF}{s:AS}(h:uf nx sl o):p6 nx sl o fr s:=⟨rfl,rfl,h,rfl,rfl⟩
theorem Ar{nx:Nat}{v:Int}:OE nx<|au [i6 v]:=Aq (by show 1<=top;unfold top;omega) (fun c hc=>by rw[List.mem_singleton] at hc;subst hc;exact fU) rfl
end mf
end
section
open Go Go.Rn Go.RowKit Go.Proofs
namespace Dq
open dP eg fq fO gY mf
noncomputable def mC(l:List Pr)(i:Nat):List<|Nat×AV:=[(0,az cD l),(1,jN),(7,.int .i64 (l.length:Int)),(8,.int .i64 (i:Int))]
noncomputable def KI:List Item:=[.code<|aJ Tryz.prog 29 [1,0,1,0,0],.inLoop<|aJ Tryz.prog 29 [1,0,1,0,0],.inBlock 0,.code<|aJ Tryz.prog 29 [1,1]]
noncomputable def gL(l:List Pr)(i:Nat):AF:=⟨29,cH<|mC l i,(max Tryz.f29.ntmps 2),KI,[],none⟩
section
variable {B:aC} {y:AV} {v:Int} {l:List Pr} {i:Nat}
theorem i0(mc:Mt [] B)(H:nE B Tryz.f29 y v (gL l 0)<|ab (mF v) 271):nE B Tryz.f29 y v ⟨29,bt [az cD l,jN],(max Tryz.f29.ntmps 2),[.code<|aJ Tryz.prog 29 []],[],none⟩<|ab (mF v) 271:=kC mc H (.st 7<|.ls (mC l 0) (mF v) 271 .no) (show bL (mC l 0) (mF v) (gL l 0) (ab (mF v) 271) from bQ)
theorem iE(mc:Mt [] B)(h0:l.length<=i):nE B Tryz.f29 (i6<|-1) v (gL l i)<|ab (mF v) 271:=lC mc (R:=RF (i6<|-1) v) (.st 1<|.rg<|.fk .no<|.en<|.rt 7<|.no)<|av ((i:Int)<(l.length:Int)) (fun h=>show False by omega) fun _=>(show xJ (i6<|-1) v from⟨rfl,rfl⟩)
theorem RM(mc:Mt [] B)(hi:i<l.length)(h:(l.getD i (0,0)).1<0):nE B Tryz.f29 (i6 (i:Int)) v (gL l i)<|ab (mF v) 271:=lC mc (R:=RF (i6 (i:Int)) v) (.st 1<|.rg<|.fk (.en<|.st 8<|.rg<|.go 3<|.a9<|.ba ([i6 (l.getD i (0,0)).1,i6 (l.getD i (0,0)).2])<|.il<|.st 3<|.rg<|.go 2<|.fk (.go 7<|.en<|.rt 2<|.en<|.rt 5<|.no) .no) .no)<|av ((i:Int)<(l.length:Int)) (fun _=>(And.intro (show(0:Int)<=(i:Int) by omega)<|And.intro (show(i:Int)<((l.length:Nat):Int) by omega)<|And.intro (aQ (l.map cD).flatten)<|And.intro (uj (l:=l) (i:=i)<|by omega)<|av ((l.getD i (0,0)).1<0) (fun _=>(show xJ (i6 (i:Int)) v from⟨rfl,rfl⟩)) (fun h=>show False by omega))) (fun h=>show False by omega)
theorem RO(mc:Mt [] B)(hi:i<l.length)(h:¬(l.getD i (0,0)).1<0)(h2:(l.getD i (0,0)).1>=v):nE B Tryz.f29 (i6 (i:Int)) v (gL l i)<|ab (mF v) 271:=lC mc (R:=RF (i6 (i:Int)) v) (.st 1<|.rg<|.fk (.en<|.st 8<|.rg<|.go 3<|.a9<|.ba ([i6 (l.getD i (0,0)).1,i6 (l.getD i (0,0)).2])<|.il<|.st 3<|.rg<|.go 2<|.fk .no<|.go 4<|.fk (.go 2<|.en<|.rt 2<|.en<|.rt 5<|.no) .no) .no)<|av ((i:Int)<(l.length:Int)) (fun _=>(And.intro (show(0:Int)<=(i:Int) by omega)<|And.intro (show(i:Int)<((l.length:Nat):Int) by omega)<|And.intro (aQ (l.map cD).flatten)<|And.intro (uj (l:=l) (i:=i)<|by omega)<|av ((l.getD i (0,0)).1<0) (fun h=>show False by omega) fun _=>(av ((l.getD i (0,0)).1>=v) (fun _=>(show xJ (i6 (i:Int)) v from⟨rfl,rfl⟩)) (fun h=>show False by omega)))) (fun h=>show False by omega)
theorem iN(mc:Mt [] B)(hl:l.length<=1000000)(hi:i<l.length)(h:¬(l.getD i (0,0)).1<0)(h2:¬(l.getD i (0,0)).1>=v)(H:nE B Tryz.f29 y v (gL l<|i+1)<|ab (mF v) 271):nE B Tryz.f29 y v (gL l i)<|ab (mF v) 271:=kC mc H (.st 1<|.rg<|.fk (.en<|.st 8<|.rg<|.go 3<|.a9<|.ba ([i6 (l.getD i (0,0)).1,i6 (l.getD i (0,0)).2])<|.il<|.st 3<|.rg<|.go 2<|.fk .no<|.go 4<|.fk .no<|.go 2<|.en<|.rt 2<|.en<|.st 3<|.rg<|.vl (.int .i64 ((i+1:Nat):Int))<|.go 1<|.en<|.st 1<|.bk (mC l<|i+1) (mF v) 271 .no) .no)<|av ((i:Int)<(l.length:Int)) (fun _=>(And.intro (show(0:Int)<=(i:Int) by omega)<|And.intro (show(i:Int)<((l.length:Nat):Int) by omega)<|And.intro (aQ (l.map cD).flatten)<|And.intro (uj (l:=l) (i:=i)<|by omega)<|av ((l.getD i (0,0)).1<0) (fun h=>show False by omega) fun _=>(av ((l.getD i (0,0)).1>=v) (fun h=>show False by omega) fun _=>(And.intro (wN ((i:Int)+1)<|i+1) (show p6 271 (mC l<|i+1) (mF v) (gL l<|i+1) (ab (mF v) 271) from sD<|rF (by omega) ⟨mA,Ap (by omega),fU,fU,trivial⟩ ⟨lD Ar,trivial⟩))))) (fun h=>show False by omega)
end
theorem HL{B:aC}{v:Int}{l:List Pr}(mc:Mt [] B)(hl:l.length<=1000000):∀(r i:Nat),l.length - i=r->i<=l.length->nE B Tryz.f29 (i6<|jd v (l.drop i) i) v (gL l i) (ab (mF v) 271)
 |0,i,h,hi=>by rw[List.drop_of_length_le<|by omega];exact iE mc (by omega)
 |r+1,i,h,hi=>by
  have hk:i<l.length:=by omega
  have e:l[i]=l.getD i (0,0):=by rw[List.getD_eq_getElem?_getD,List.getElem?_eq_getElem hk];rfl
  rw[List.drop_eq_getElem_cons hk,e,jd];by_cases q:(l.getD i (0,0)).1<0
  ·rw[if_pos (by unfold dk;rw[decide_eq_true q];rfl)];exact RM mc hk q
  ·by_cases q2:(l.getD i (0,0)).1>=v
   ·rw[if_pos (by unfold dk;rw[decide_eq_false q,decide_eq_true q2];rfl)];exact RO mc hk q q2
   ·rw[if_neg (by unfold dk;rw[decide_eq_false q,decide_eq_false q2];intro h;cases h)];exact iN mc hl hk q q2 (HL mc hl r (i+1) (by omega)<|by omega)
def wX:LR:=fun args aw y c=>∃(l:List Pr) (v:Int),args=[az cD l,jN]/\aw=[[i6 v]]/\l.length<=1000000/\y=i6 (jd v l 0)/\c=none
theorem wX.bf:iV wX:=fun args aw y y' c c' h h'=>by
 obtain⟨l,v,rfl,rfl,_,rfl,rfl⟩:=h;obtain⟨l2,v2,e1,e2,_,rfl,rfl⟩:=h';injection e1 with e1 _
 injection e2 with e2 _;injection e2 with e2 _;injection e2 with _ e2
 rw[yM e1,e2];exact⟨rfl,rfl⟩
noncomputable def rG:FuncId×KE:=(29,.raw<|eU<|vL wX)
theorem NP(hP:dp Tryz.prog){L:bZ}(h:cL L):cL<|rG::L:=by refine mZ hP h gE Tryz.func29 fun args aw y c e=>?_;obtain⟨l,v,rfl,rfl,hl,rfl,rfl⟩:=e;refine⟨aL.1 (by kernel_rfl),fun B mc=>tU ?_⟩;exact i0 mc<|HL mc hl _ 0 rfl<|Nat.zero_le _
noncomputable abbrev fQ(v:Int):AS->Prop:=rp 270 dI eH [270] [[i6 v]]
noncomputable abbrev fG:AS->AS:=zA 270 dI eH [270]
abbrev FQ(v:Int):Prop:=true=true/\(true=true/\some (au [i6 v])=some (au [i6 v]))/\True
theorem qC{L:bZ}{f:FuncId}{R:LR}(hs:sp L f=some (eU (vL R) 270 eH dI))(hd:iV R){l:List Pr}{v:Int}{y:AV}{T:Prop}(hy:y.hi=true)(h:R [az cD l,jN] [[i6 v]] y none)(t:T):
 (∀z,fQ v z->br Tryz.prog (sp L) FU 6 (.fn f) [az cD l,jN] z= .ok y (fG z))/\FQ v/\T:=by
 refine⟨?_,⟨rfl,⟨rfl,rfl⟩,trivial⟩,t⟩;refine Cr (n:=5) (N:=[270]) (aw:=[[i6 v]]) hs rfl ?_ (by decide) rfl (by kernel_rfl) (by kernel_rfl) (wa hd h) hy;show(((or (AV.hi<|az cD l)<|not (ui<|az cD l).isEmpty)&&(fT jN&&true))&&Nat.ble 1 2)=true;rw[show AV.hi (az cD l)=true from aL.2<|aQ _];kernel_rfl
section
variable {B:aC} {v:Int} {l:List Pr}
theorem cT(mc:Mt [rG] B)(hl:l.length<=1000000)(hc:jd v l 0>=0):nE B Tryz.f20 (.bool true) v ⟨20,bt [az cD l,jN],(max Tryz.f20.ntmps 2),[.code<|aJ Tryz.prog 20 []],[],none⟩<|ab (mF v) 271:=lC mc (L:=[rG]) (R:=RF (.bool true) v) (.st 3<|.rg<|.go 2<|.cg (i6<|jd v l 0) fG (fQ v)<|.fk (.go 1<|.en<|.rt 2<|.no) .no)<|qC (L:=[rG]) (f:=29) (by as_aux_lemma=>kernel_rfl) wX.bf (l:=l) (v:=v) (y:=i6<|jd v l 0) rfl ⟨l,v,rfl,rfl,hl,rfl,rfl⟩<|av (jd v l 0>=0) (fun _=>(show xJ (.bool true) v from⟨rfl,rfl⟩)) (fun h=>show False from h hc)
theorem cF(mc:Mt [rG] B)(hl:l.length<=1000000)(hc:¬jd v l 0>=0):nE B Tryz.f20 (.bool false) v ⟨20,bt [az cD l,jN],(max Tryz.f20.ntmps 2),[.code<|aJ Tryz.prog 20 []],[],none⟩<|ab (mF v) 271:=lC mc (L:=[rG]) (R:=RF (.bool false) v) (.st 3<|.rg<|.go 2<|.cg (i6<|jd v l 0) fG (fQ v)<|.fk .no<|.go 1<|.en<|.rt 2<|.no)<|qC (L:=[rG]) (f:=29) (by as_aux_lemma=>kernel_rfl) wX.bf (l:=l) (v:=v) (y:=i6<|jd v l 0) rfl ⟨l,v,rfl,rfl,hl,rfl,rfl⟩<|av (jd v l 0>=0) (fun h=>show False from hc h) fun _=>(show xJ (.bool false) v from⟨rfl,rfl⟩)
end
theorem Hl(v:Int):∀(l:List Pr) (i:Int),0<=i->(jd v l i>=0↔l.any (dk v)=true)
 |[],i,h=>by simp[jd]
 |p::l,i,h=>by
  rw[jd,List.any_cons];cases e:dk v p with
  |true=>simp[h]
  |false=>rw[if_neg (by intro h;cases h),Bool.false_or];exact Hl v l (i+1) (by omega)
def pJ:LR:=fun args aw y c=>∃(l:List Pr) (v:Int),args=[az cD l,jN]/\aw=[[i6 v]]/\l.length<=1000000/\y= .bool (l.any<|dk v)/\c=none
theorem pJ.bf:iV pJ:=fun args aw y y' c c' h h'=>by
 obtain⟨l,v,rfl,rfl,_,rfl,rfl⟩:=h;obtain⟨l2,v2,e1,e2,_,rfl,rfl⟩:=h';injection e1 with e1 _
 injection e2 with e2 _;injection e2 with e2 _;injection e2 with _ e2
 rw[yM e1,e2];exact⟨rfl,rfl⟩
noncomputable def cb:FuncId×KE:=(20,.raw<|eU<|vL pJ)
theorem NR(hP:dp Tryz.prog){L:bZ}(h:cL L):cL<|cb::L:=by
 refine mZ hP h (NP hP gE) Tryz.func20 fun args aw y c e=>?_;obtain⟨l,v,rfl,rfl,hl,rfl,rfl⟩:=e;refine⟨aL.1 (by kernel_rfl),fun B mc=>tU ?_⟩;have q:=Hl v l 0<|Int.le_refl _;cases e:l.any (dk v) with
 |true=>exact cT mc hl<|q.2 e
 |false=>exact cF mc hl (fun h=>by rw[q.1 h] at e;cases e)
end Dq
end
section
open Go Go.Rn Go.RowKit Go.Proofs
namespace pK
open dP mf gY
noncomputable def fb(m:List Int):List<|AV×AV:=m.map fun k=>(AV.int .i64 k,AV.agg [])
noncomputable def bq(m:List Int):U:=.map (fb m) m.length
def gu(m:List Int)(k:Int):List Int:=if k∈m then m else m++[k]
theorem Cu(k:Int):∀(m:List Int) (i:Nat),(k ∉ m/\dH (.int .i64 k) (fb m) i=some none)\/∃j,k∈m/\dH (.int .i64 k) (fb m) i=some (some (i+j,.agg []))/\m[j]? =some k
 |[],i=>.inl ⟨by simp,rfl⟩
 |p::l,i=>by
  have hf:dH (.int .i64 k) (fb<|p::l) i=(match some (k == p) with|none=>none|some true=>some (some (i,.agg []))|some false=>dH (.int .i64 k) (fb l)<|i+1):=rfl;by_cases e:p=k
  ·refine .inr ⟨0,by simp[e],?_,by simp[e]⟩;rw[hf,show(k == p)=true by simp[e]];rfl
  ·have bO:(k == p)=false:=by simp;exact fun q=>e q.symm
   rw[hf,bO];rcases Cu k l (i+1) with⟨h1,h2⟩|⟨j,h1,h2,h3⟩
   ·exact .inl ⟨by simp[h1];exact fun q=>e q.symm,h2⟩
   ·exact .inr ⟨j+1,by simp[h1],by rw[show i+(j+1)=i+1+j by omega];exact h2,by simpa using h3⟩
theorem Hm{k:Int}:∀{m:List Int} {j:Nat},m[j]? =some k->putAt (fb m) j (.int .i64 k) (.agg [])=fb m
 |p::l,0,h=>by
  have h:p=k:=by simpa using h
  subst h;rfl
 |p::l,j+1,h=>by show(AV.int .i64 p,AV.agg [])::putAt (fb l) j (.int .i64 k) (.agg [])=_;rw[Hm (m:=l) (j:=j)<|by simpa using h];rfl
noncomputable abbrev uG(n:Nat):AS->AS:=aV n
noncomputable abbrev uW(n:Nat)(m:List Int):AS->AS:=fun z=>fS n (some<|bq m)<|aV n z
abbrev uQ(n:Nat)(m:List Int)(z:AS):Prop:=Nat.blt n z.nx=true/\z.h.get n=some (bq m)
section
variable {ty kt et:TypeId} {k:Int} {m:List Int} {n:Nat}
theorem OK(hu:Tryz.prog.underlying ty=some (.map kt et))(hk:fh Tryz.prog 10000 kt (.int .i64 k)=true)(hp:plainKey Tryz.prog kt (.int .i64 k)=true)(hz:eT Tryz.prog et=some (.agg []))(z:AS)(h:uQ n m z):
 jR Tryz.prog ty (.map<|some n) (.int .i64 k) true z= .ok (.tuple [.agg [],.bool<|decide<|k∈m]) (uG n z):=by
 unfold jR;simp only[hu];have hf:mN Tryz.prog kt (.int .i64 k) (.map<|some n) z= .ok (fb m) (aV n z):=by
  show((aY n).bind fun o=>match o with
   | .map es _=>M.pure es
   | .cK es=>ay (or (plainKey Tryz.prog kt<|.int .i64 k)<|short es) <| M.pure es
   |_=>fail) z=_
  rw[M.bo<|jV h.1 h.2];rfl
 rw[M.bo hf,hk,bC];have mr:findKey Tryz.prog kt (.int .i64 k) (fb m)=dH (.int .i64 k) (fb m) 0:=by unfold findKey;simp only[iY,hp]
 rw[mr];rcases Cu k m 0 with⟨h1,h2⟩|⟨j,h1,h2,_⟩
 ·rw[h2,aP,decide_eq_false h1];show(aA (eT Tryz.prog et) fun z=>M.pure<|nn true z false) (aV n z)=_;rw[hz,aP];rfl
 ·rw[h2,aP,decide_eq_true h1];rfl
theorem Px(hu:Tryz.prog.underlying ty=some (.map kt et))(hk:fh Tryz.prog 10000 kt (.int .i64 k)=true)(hp:plainKey Tryz.prog kt (.int .i64 k)=true)(ht:Nat.blt n top=true)(z:AS)(h:uQ n m z):
 iJ Tryz.prog ty (.map<|some n) (.int .i64 k) (.agg []) z= .ok () (uW n (gu m k) z):=by
 have w:∀o:U,aZ n (some o) (aV n z)= .ok () (fS n (some o)<|aV n z):=fun o=>qN (by rw[(gk n z).2.1];exact h.1) (by rw[(gk n z).1];exact h.2) rfl ht;unfold iJ;simp only[hu];rw[M.bo<|jV h.1 h.2];show(ay (fh Tryz.prog 10000 kt<|.int .i64 k) <| aA (findKey Tryz.prog kt (.int .i64 k)<|fb m) fun f=>pq n (.int .i64 k) (.agg []) (fb m) m.length f) (aV n z)=_;rw[hk,bC];have mr:findKey Tryz.prog kt (.int .i64 k) (fb m)=dH (.int .i64 k) (fb m) 0:=by unfold findKey;simp only[iY,hp]
 rw[mr];rcases Cu k m 0 with⟨h1,h2⟩|⟨j,h1,h2,h3⟩
 ·rw[h2,aP];show aZ n (some<|.map (fb m++[(.int .i64 k,.agg [])])<|m.length+1) (aV n z)=_;rw[w];unfold uW gu;rw[if_neg h1];simp only[bq,fb,List.map_append,List.map_cons,List.map_nil,List.length_append,List.length_cons,List.length_nil]
 ·rw[h2,aP];have he:(fb m)[0+j]? =some (.int .i64 k,.agg []):=by rw[Nat.zero_add];unfold fb;rw[List.getElem?_map,h3];rfl
  show(aA (fb m)[0+j]? fun bD=>ay (sameBits bD.1<|.int .i64 k) <| aZ n<|some<|.map (putAt (fb m) (0+j) (.int .i64 k)<|.agg []) m.length) (aV n z)=_;rw[he,aP];have hs:sameBits (.int .i64 k) (.int .i64 k)=true:=by show(match sameKey (.int .i64 k) (.int .i64 k) with|some true=>true|_=>false)=true;rw[GD];simp
  show(ay (sameBits (.int .i64 k)<|.int .i64 k) <| aZ n<|some<|.map (putAt (fb m) (0+j) (.int .i64 k)<|.agg []) m.length) (aV n z)=_;rw[hs,bC,w,Nat.zero_add,Hm h3];unfold uW gu;rw[if_pos h1];rfl
end
theorem Ik:∀{m:List Int} {ρ σ:ah} {l:List MapEntry} {i:Nat},eC ρ (fb m) l i->eC σ (fb m) l i
 |[],_,_,_,_,h=>h
 |_::_,_,_,_,_,h=>by obtain⟨e,es,a,b,c,d,f⟩:=h;exact⟨e,es,a,b,(by simp only[VR,aq] at c ⊢;exact c),d,Ik f⟩
theorem Eb{nx:Nat}{m:List Int}:OE nx<|bq m:=fun r r1 r2 ρ N o k=>by obtain⟨l,h1,h2,h3⟩:=k;exact⟨l,h1,h2,Ik h3⟩
theorem Ec{nx:Nat}{g:FuncId}:VE nx<|.func (.func g) [] []:=fun r r1 _ ρ v k=>by simp only[VR,aq] at k ⊢;exact k
theorem RP{nx:Nat}{l:List Int}(h:l.length<=1000000):OE nx<|aG aH l:=fun r r1 r2=>fX.aG (fun x=>⟨rfl,rfl⟩) (by rw[show(l.map aH).flatten.length=l.length from fO.tz l];unfold top;omega)
theorem Qq{nx:Nat}{x:AV}(h:x.bV=true):VE nx x:=fun r _ r2 ρ v k=>AV.tE (fun m x hm e=>by show ρ (r m)=_;rw[r2 m hm];exact e) h k
theorem Jl{nx:Nat}{a:At}:OE nx<|au<|aj a:=Aq (by show 9<=top;unfold top;omega) (fun c hc=>Qq<|BH<|List.all_eq_true.1 (eA.fy a) c hc)<|List.all_eq_true.2 fun c hc=>Bq<|List.all_eq_true.1 (eA.fy a) c hc
end pK
end
section
open Go Go.Rn Go.RowKit Go.Proofs
namespace IK
open dP eg fq fO gY mf Dq pK
def uO(args:List AV)(v:AV):Prop:=∃a:At,args=[.agg<|aj a]/\v= .bool (decide<|a.wv>0)
theorem uO.bf(args:List AV)(v v':AV)(h:uO args v)(h':uO args v'):v=v':=by
 obtain⟨a,rfl,rfl⟩:=h;obtain⟨a',e,rfl⟩:=h';injection e with e1 _
 injection e1 with e1
 rw[BL _ _ e1]
noncomputable def cd:FuncId×KE:=(19,.val<|fY uO)
def uP(args:List AV)(v:AV):Prop:=∃n:Int,args=[i6 n]/\v= .bool (decide<|0<=n/\n<=1099511627776)
theorem uP.bf(args:List AV)(v v':AV)(h:uP args v)(h':uP args v'):v=v':=by
 obtain⟨a,rfl,rfl⟩:=h;obtain⟨a',e,rfl⟩:=h';injection e with e1 _
 injection e1 with _ e1
 rw[e1]
noncomputable def cf:FuncId×KE:=(17,.val<|fY uP)
theorem uI{B:aC}{a:At}(mc:Mt [] B)(h:a.wv>0):Sm B Tryz.f19 (.bool true) ⟨19,bt [.agg<|aj a],(max Tryz.f19.ntmps 1),[.code<|aJ Tryz.prog 19 []],[],none⟩<|ab ar 270:=wS mc (R:=fun r0 _=>r0= .bool true) (.st 3<|.rg<|.go 2<|.fk (.go 1<|.en<|.rt 2<|.no) .no)<|av (a.wv>0) (fun _=>(show AV.bool true=AV.bool true from rfl)) (fun h=>show False by omega)
theorem RQ{B:aC}{a:At}(mc:Mt [] B)(h:¬a.wv>0):Sm B Tryz.f19 (.bool false) ⟨19,bt [.agg<|aj a],(max Tryz.f19.ntmps 1),[.code<|aJ Tryz.prog 19 []],[],none⟩<|ab ar 270:=wS mc (R:=fun r0 _=>r0= .bool false) (.st 3<|.rg<|.go 2<|.fk .no<|.go 1<|.en<|.rt 2<|.no)<|av (a.wv>0) (fun h=>show False by omega) fun _=>(show AV.bool false=AV.bool false from rfl)
theorem RS{B:aC}{n:Int}(mc:Mt [] B)(h:0<=n)(h2:n<=1099511627776):Sm B Tryz.f17 (.bool true) ⟨17,bt [i6 n],(max Tryz.f17.ntmps 1),[.code<|aJ Tryz.prog 17 []],[],none⟩<|ab ar 270:=wS mc (R:=fun r0 _=>r0= .bool true) (.st 3<|.rg<|.go 1<|.fk (.go 2<|.fk (.go 2<|.en<|.rt 2<|.no) .no) .no)<|av (n>=0) (fun _=>(av (n<=1099511627776) (fun _=>(show AV.bool true=AV.bool true from rfl)) (fun h=>show False by omega))) (fun h=>show False by omega)
theorem RT{B:aC}{n:Int}(mc:Mt [] B)(h:0<=n)(h2:¬n<=1099511627776):Sm B Tryz.f17 (.bool false) ⟨17,bt [i6 n],(max Tryz.f17.ntmps 1),[.code<|aJ Tryz.prog 17 []],[],none⟩<|ab ar 270:=wS mc (R:=fun r0 _=>r0= .bool false) (.st 3<|.rg<|.go 1<|.fk (.go 2<|.fk .no<|.go 2<|.en<|.rt 2<|.no) .no)<|av (n>=0) (fun _=>(av (n<=1099511627776) (fun h=>show False by omega) fun _=>(show AV.bool false=AV.bool false from rfl))) (fun h=>show False by omega)
theorem RU{B:aC}{n:Int}(mc:Mt [] B)(h:¬0<=n):Sm B Tryz.f17 (.bool false) ⟨17,bt [i6 n],(max Tryz.f17.ntmps 1),[.code<|aJ Tryz.prog 17 []],[],none⟩<|ab ar 270:=wS mc (R:=fun r0 _=>r0= .bool false) (.st 3<|.rg<|.go 1<|.fk .no<|.go 5<|.en<|.rt 2<|.no)<|av (n>=0) (fun h=>show False by omega) fun _=>(show AV.bool false=AV.bool false from rfl)
theorem OL(hP:dp Tryz.prog){L:bZ}(h:cL L):cL<|cd::L:=by
 refine rE hP h gE Tryz.func19 fun args v e=>?_;obtain⟨a,rfl,rfl⟩:=o8 e;refine⟨aL.1 (by kernel_rfl),fun B mc=>?_⟩;rw[←pn];by_cases q:a.wv>0
 ·rw[decide_eq_true q];exact uI mc q
 ·rw[decide_eq_false q];exact RQ mc q
theorem OM(hP:dp Tryz.prog){L:bZ}(h:cL L):cL<|cf::L:=by
 refine rE hP h gE Tryz.func17 fun args v e=>?_;obtain⟨n,rfl,rfl⟩:=o8 e;refine⟨aL.1 (by kernel_rfl),fun B mc=>?_⟩;rw[←pn];by_cases q:0<=n
 ·by_cases q2:n<=1099511627776
  ·rw[decide_eq_true ⟨q,q2⟩];exact RS mc q q2
  ·rw[decide_eq_false fun h=>q2 h.2];exact RT mc q q2
 ·rw[decide_eq_false fun h=>q h.1];exact RU mc q
theorem pL{a:At}{b:Bool}(h:decide (a.wv>0)=b):jD (fY uO) [.agg<|aj a]=some (.bool b):=pa (pb uO.bf ⟨a,rfl,by rw[h]⟩) (by rw[List.all_cons,Ii];rfl) rfl
theorem nj{n:Int}{b:Bool}(h:decide (0<=n/\n<=1099511627776)=b):jD (fY uP) [i6 n]=some (.bool b):=pa (pb uP.bf ⟨n,rfl,by rw[h]⟩) rfl rfl
theorem look{k:Int}{m:List Int}{b:Bool}(h:decide (k∈m)=b)(z:AS)(hz:uQ 271 m z):jR Tryz.prog 58 (.map<|some 271) (.int .i64 k) true z= .ok (.tuple [.agg [],.bool b]) (uG 271 z):=by rw[←h];exact OK (kt:=3) (et:=59) (by kernel_rfl) (by kernel_rfl) (by kernel_rfl) (by kernel_rfl) z hz
theorem put{k:Int}{m:List Int}(z:AS)(hz:uQ 271 m z):iJ Tryz.prog 58 (.map<|some 271) (.int .i64 k) (.agg []) z= .ok () (uW 271 (gu m k) z):=Px (kt:=3) (et:=59) (by kernel_rfl) (by kernel_rfl) (by kernel_rfl) (by kernel_rfl) z hz
abbrev UQ(m:List Int):Prop:=true=true/\some (bq m)=some (bq m)
theorem uq{m:List Int}:UQ m:=⟨rfl,rfl⟩
abbrev cM(B:aC)(y:Bool)(fr:AF)(s:AS):Prop:=Sm B Tryz.f7 (.bool y) fr s
theorem Ed(a:At):cellsOf (some<|au<|aj a) 6 1=some [.bool a.cm]:=by kernel_rfl
noncomputable def ku(l:List At)(v:Int)(last:Int)(i:Nat)(m:List Int):List<|Nat×AV:=[(5,.ptr<|some (270,0)),(6,.func (.func 17) [] []),(7,jN),(8,.map<|some 271),(9,i6 last),(26,az aj l),(27,.int .i64 (l.length:Int)),(28,.int .i64 (i:Int))]
noncomputable def KO:List Item:=[.code<|aJ Tryz.prog 7 [1,1,1,1,1,1,1,0,1,0,0],.inLoop<|aJ Tryz.prog 7 [1,1,1,1,1,1,1,0,1,0,0],.inBlock 0,.code<|aJ Tryz.prog 7 [1,1,1,1,1,1,1,1]]
noncomputable def gA(l:List At)(v:Int)(last:Int)(i:Nat)(m:List Int):AF:=⟨7,cH<|ku l v last i m,(max Tryz.f7.ntmps 2),KO,[],none⟩
noncomputable def Ee(l:List At)(v:Int)(last:Int)(i:Nat)(m:List Int)(a:At)(tw:Bool):List<|Nat×AV:=[(5,.ptr<|some (270,0)),(6,.func (.func 17) [] []),(7,jN),(8,.map<|some 271),(9,i6 last),(26,az aj l),(27,.int .i64 (l.length:Int)),(28,.int .i64 (i:Int)),(11,.ptr<|some (272,0)),(13,.bool tw)]
noncomputable def K1:List Item:=[.code<|aJ Tryz.prog 7 [1,1,1,1,1,1,1,0,1,0,0,1,1,0,0,1,1],.inBlock 1,.code<|aJ Tryz.prog 7 [1,1,1,1,1,1,1,0,1,0,0,1,1,1],.inLoop<|aJ Tryz.prog 7 [1,1,1,1,1,1,1,0,1,0,0],.inBlock 0,.code<|aJ Tryz.prog 7 [1,1,1,1,1,1,1,1]]
noncomputable def aU(l:List At)(v:Int)(last:Int)(i:Nat)(m:List Int)(a:At)(tw:Bool):AF:=⟨7,cH<|Ee l v last i m a tw,(max Tryz.f7.ntmps 2),K1,[],none⟩
noncomputable def xK(l:List At)(v:Int)(last:Int)(i:Nat)(m:List Int)(a:At)(tw:Bool):List<|Nat×AV:=[(5,.ptr<|some (270,0)),(6,.func (.func 17) [] []),(7,jN),(8,.map<|some 271),(9,i6 last),(26,az aj l),(27,.int .i64 (l.length:Int)),(28,.int .i64 (i:Int)),(11,.ptr<|some (272,0)),(13,.bool tw)]
noncomputable def K2:List Item:=[.code<|aJ Tryz.prog 7 [1,1,1,1,1,1,1,0,1,0,0,1,1,0,0,1,1,0,0,1,1],.inBlock 2,.code<|aJ Tryz.prog 7 [1,1,1,1,1,1,1,0,1,0,0,1,1,0,0,1,1,1],.inBlock 1,.code<|aJ Tryz.prog 7 [1,1,1,1,1,1,1,0,1,0,0,1,1,1],.inLoop<|aJ Tryz.prog 7 [1,1,1,1,1,1,1,0,1,0,0],.inBlock 0,.code<|aJ Tryz.prog 7 [1,1,1,1,1,1,1,1]]
noncomputable def fC(l:List At)(v:Int)(last:Int)(i:Nat)(m:List Int)(a:At)(tw:Bool):AF:=⟨7,cH<|xK l v last i m a tw,(max Tryz.f7.ntmps 2),K2,[],none⟩
noncomputable def xL(l:List At)(v:Int)(last:Int)(i:Nat)(m:List Int)(a:At):List<|Nat×AV:=[(5,.ptr<|some (270,0)),(6,.func (.func 17) [] []),(7,jN),(8,.map<|some 271),(9,i6 last),(26,az aj l),(27,.int .i64 (l.length:Int)),(28,.int .i64 (i:Int)),(11,.ptr<|some (272,0))]
noncomputable def K3:List Item:=[.code<|aJ Tryz.prog 7 [1,1,1,1,1,1,1,0,1,0,0,1,1,0,0,1,1,0,0,1,1,1,1],.inBlock 2,.code<|aJ Tryz.prog 7 [1,1,1,1,1,1,1,0,1,0,0,1,1,0,0,1,1,1],.inBlock 1,.code<|aJ Tryz.prog 7 [1,1,1,1,1,1,1,0,1,0,0,1,1,1],.inLoop<|aJ Tryz.prog 7 [1,1,1,1,1,1,1,0,1,0,0],.inBlock 0,.code<|aJ Tryz.prog 7 [1,1,1,1,1,1,1,1]]
noncomputable def p7(l:List At)(v:Int)(last:Int)(i:Nat)(m:List Int)(a:At):AF:=⟨7,cH<|xL l v last i m a,(max Tryz.f7.ntmps 2),K3,[],none⟩
noncomputable def sE(l:List At)(v:Int)(last:Int)(i:Nat)(m:List Int)(a:At)(k:Nat):List<|Nat×AV:=[(5,.ptr<|some (270,0)),(6,.func (.func 17) [] []),(7,jN),(8,.map<|some 271),(9,i6 last),(26,az aj l),(27,.int .i64 (l.length:Int)),(28,.int .i64 (i:Int)),(11,.ptr<|some (272,0)),(94,az cD a.wr),(95,.int .i64 (a.wr.length:Int)),(96,.int .i64 (k:Int))]
noncomputable def K4:List Item:=[.code<|aJ Tryz.prog 7 [1,1,1,1,1,1,1,0,1,0,0,1,1,0,0,1,1,1,0,1,0,0],.inLoop<|aJ Tryz.prog 7 [1,1,1,1,1,1,1,0,1,0,0,1,1,0,0,1,1,1,0,1,0,0],.inBlock 3,.code<|aJ Tryz.prog 7 [1,1,1,1,1,1,1,0,1,0,0,1,1,0,0,1,1,1,1],.inBlock 1,.code<|aJ Tryz.prog 7 [1,1,1,1,1,1,1,0,1,0,0,1,1,1],.inLoop<|aJ Tryz.prog 7 [1,1,1,1,1,1,1,0,1,0,0],.inBlock 0,.code<|aJ Tryz.prog 7 [1,1,1,1,1,1,1,1]]
noncomputable def mD(l:List At)(v:Int)(last:Int)(i:Nat)(m:List Int)(a:At)(k:Nat):AF:=⟨7,cH<|sE l v last i m a k,(max Tryz.f7.ntmps 2),K4,[],none⟩
section
variable {B:aC} {y:Bool} {l:List At} {v last:Int} {i k:Nat} {m:List Int} {a:At} {tw:Bool} {init:List Int}
theorem x1(mc:Mt [cd,cf,cb] B)(h:init.length<1):cM B false ⟨7,bt [az aH init,az aj l],(max Tryz.f7.ntmps 2),[.code<|aJ Tryz.prog 7 []],[],none⟩<|ab ar 270:=wS mc (L:=[cd,cf,cb]) (R:=fun r0 _=>r0= .bool false) (.st 6<|.rg<|.go 1<|.fk (.go 4<|.en<|.rt 5<|.no) .no)<|av (((init.length:Nat):Int)<1) (fun _=>(show AV.bool false=AV.bool false from rfl)) (fun h=>show False by omega)
theorem x2(mc:Mt [cd,cf,cb] B)(h0:¬init.length<1)(h:init.length>32):cM B false ⟨7,bt [az aH init,az aj l],(max Tryz.f7.ntmps 2),[.code<|aJ Tryz.prog 7 []],[],none⟩<|ab ar 270:=wS mc (L:=[cd,cf,cb]) (R:=fun r0 _=>r0= .bool false) (.st 6<|.rg<|.go 1<|.fk .no<|.go 2<|.fk (.go 1<|.en<|.rt 5<|.no) .no)<|av (((init.length:Nat):Int)<1) (fun h=>show False by omega) fun _=>(av (((init.length:Nat):Int)>32) (fun _=>(show AV.bool false=AV.bool false from rfl)) (fun h=>show False by omega))
theorem x3(mc:Mt [cd,cf,cb] B)(h0:¬init.length<1)(h:¬init.length>32)(H:cM B y (gA l (((init.length:Nat):Int)) (-1) (0)<|[])<|ab (ar++[(270,some<|au [i6<|((init.length:Nat):Int)]),(271,some<|bq<|[])]) 272):cM B y ⟨7,bt [az aH init,az aj l],(max Tryz.f7.ntmps 2),[.code<|aJ Tryz.prog 7 []],[],none⟩<|ab ar 270:=vC mc H (.st 6<|.rg<|.go 1<|.fk .no<|.go 2<|.fk .no<|.go 1<|.en<|.st 15<|.ls (ku l (((init.length:Nat):Int)) (-1) (0)<|[]) (ar++[(270,some<|au [i6<|((init.length:Nat):Int)]),(271,some<|bq<|[])]) 272 .no)<|av (((init.length:Nat):Int)<1) (fun h=>show False by omega) fun _=>(av (((init.length:Nat):Int)>32) (fun h=>show False by omega) fun _=>(show bL (ku l (((init.length:Nat):Int)) (-1) (0)<|[]) (ar++[(270,some<|au [i6<|((init.length:Nat):Int)]),(271,some<|bq<|[])]) (gA l (((init.length:Nat):Int)) (-1) (0)<|[]) (ab (ar++[(270,some<|au [i6<|((init.length:Nat):Int)]),(271,some<|bq<|[])]) 272) from bQ))
theorem oE(mc:Mt [cd,cf,cb] B)(h:l.length<=i):cM B true (gA l v last i m)<|ab (ar++[(270,some<|au [i6 v]),(271,some<|bq m)]) 272:=wS mc (L:=[cd,cf,cb]) (R:=fun r0 _=>r0= .bool true) (.st 1<|.rg<|.fk .no<|.en<|.rt 7<|.no)<|av ((i:Int)<(l.length:Int)) (fun h=>show False by omega) fun _=>(show AV.bool true=AV.bool true from rfl)
theorem o1(mc:Mt [cd,cf,cb] B)(hi:i<l.length)(hx:eK FU (nm (l.map aj).flatten) (0+((i:Nat):Int).toNat*9) 9=some (aj a))(ht:decide (a.wv∈m)=tw)(H:cM B y (aU l v last i m a tw)<|ab (ar++[(270,some<|au [i6 v]),(271,some<|bq m),(272,some<|au<|aj a)]) 274):cM B y (gA l v last i m)<|ab (ar++[(270,some<|au [i6 v]),(271,some<|bq m)]) 272:=vC mc H (.st 1<|.rg<|.fk (.en<|.st 6<|.rg<|.a9<|.ba (aj a)<|.go 2<|.en<|.st 1<|.rg<|.go 3<|.lx (.tuple [.agg [],.bool tw]) (uG 271) (uQ 271 m)<|.go 6<|.en<|.ls (Ee l v last i m a tw) (ar++[(270,some<|au [i6 v]),(271,some<|bq m),(272,some<|au<|aj a)]) 274 .no) .no)<|av ((i:Int)<(l.length:Int)) (fun _=>(And.intro (show(0:Int)<=(i:Int) by omega)<|And.intro (show(i:Int)<((l.length:Nat):Int) by omega)<|And.intro (aQ (l.map aj).flatten)<|And.intro (hx)<|And.intro (look ht)<|And.intro (uq (m:=m)) (show bL (Ee l v last i m a tw) (ar++[(270,some<|au [i6 v]),(271,some<|bq m),(272,some<|au<|aj a)]) (aU l v last i m a tw) (ab (ar++[(270,some<|au [i6 v]),(271,some<|bq m),(272,some<|au<|aj a)]) 274) from bQ))) (fun h=>show False by omega)
theorem f1(mc:Mt [cd,cf,cb] B)(h1:a.fr<=last):cM B false (aU l v last i m a tw)<|ab (ar++[(270,some<|au [i6 v]),(271,some<|bq m),(272,some<|au<|aj a)]) 274:=wS mc (L:=[cd,cf,cb]) (R:=fun r0 _=>r0= .bool false) (.st 4<|.rg<|.go 3<|.fk (.go 1<|.en<|.rt 7<|.no) .no)<|av (a.fr<=last) (fun _=>(show AV.bool false=AV.bool false from rfl)) (fun h=>show False by omega)
theorem f2(mc:Mt [cd,cf,cb] B)(h1:¬a.fr<=last)(h2:a.to≠ -1)(h3:a.to<a.fr):cM B false (aU l v last i m a tw)<|ab (ar++[(270,some<|au [i6 v]),(271,some<|bq m),(272,some<|au<|aj a)]) 274:=wS mc (L:=[cd,cf,cb]) (R:=fun r0 _=>r0= .bool false) (.st 4<|.rg<|.go 3<|.fk .no<|.go 1<|.en<|.st 2<|.rg<|.go 2<|.fk (.go 5<|.fk (.go 2<|.en<|.rt 7<|.no) .no) .no)<|av (a.fr<=last) (fun h=>show False by omega) fun _=>(av (a.to≠ -1) (fun _=>(av (a.to<a.fr) (fun _=>(show AV.bool false=AV.bool false from rfl)) (fun h=>show False by omega))) (fun h=>show False by omega))
theorem RV(mc:Mt [cd,cf,cb] B)(h1:¬a.fr<=last)(h2:a.to= -1)(jc:decide (0<=a.rv/\a.rv<=1099511627776)=false):cM B false (aU l v last i m a tw)<|ab (ar++[(270,some<|au [i6 v]),(271,some<|bq m),(272,some<|au<|aj a)]) 274:=wS mc (L:=[cd,cf,cb]) (R:=fun r0 _=>r0= .bool false) (.st 4<|.rg<|.go 3<|.fk .no<|.go 1<|.en<|.st 2<|.rg<|.go 2<|.fk .no<|.go 8<|.en<|.st 2<|.rg<|.go 3<|.kn (.bool false)<|.go 2<|.en<|.rt 7<|.no)<|av (a.fr<=last) (fun h=>show False by omega) fun _=>(av (a.to≠ -1) (fun h=>show False by omega) fun _=>(And.intro (nj jc) (show AV.bool false=AV.bool false from rfl)))
theorem RW(mc:Mt [cd,cf,cb] B)(h1:¬a.fr<=last)(h2:a.to= -1)(jc:decide (0<=a.rv/\a.rv<=1099511627776)=true)(mE:decide (0<=a.wv/\a.wv<=1099511627776)=false):cM B false (aU l v last i m a tw)<|ab (ar++[(270,some<|au [i6 v]),(271,some<|bq m),(272,some<|au<|aj a)]) 274:=wS mc (L:=[cd,cf,cb]) (R:=fun r0 _=>r0= .bool false) (.st 4<|.rg<|.go 3<|.fk .no<|.go 1<|.en<|.st 2<|.rg<|.go 2<|.fk .no<|.go 8<|.en<|.st 2<|.rg<|.go 3<|.kn (.bool true)<|.go 2<|.en<|.st 1<|.rg<|.go 3<|.kn (.bool false)<|.go 2<|.en<|.rt 5<|.no)<|av (a.fr<=last) (fun h=>show False by omega) fun _=>(av (a.to≠ -1) (fun h=>show False by omega) fun _=>(And.intro (nj jc)<|And.intro (nj mE) (show AV.bool false=AV.bool false from rfl)))
theorem RX(mc:Mt [cd,cf,cb] B)(h1:¬a.fr<=last)(h2:a.to= -1)(jc:decide (0<=a.rv/\a.rv<=1099511627776)=true)(mE:decide (0<=a.wv/\a.wv<=1099511627776)=true)(H:cM B y (fC l v last i m a tw)<|ab (ar++[(270,some<|au [i6 v]),(271,some<|bq m),(272,some<|au<|aj a)]) 274):cM B y (aU l v last i m a tw)<|ab (ar++[(270,some<|au [i6 v]),(271,some<|bq m),(272,some<|au<|aj a)]) 274:=vC mc H (.st 4<|.rg<|.go 3<|.fk .no<|.go 1<|.en<|.st 2<|.rg<|.go 2<|.fk .no<|.go 8<|.en<|.st 2<|.rg<|.go 3<|.kn (.bool true)<|.go 2<|.en<|.st 1<|.rg<|.go 3<|.kn (.bool true)<|.go 2<|.en<|.st 1<|.ls (xK l v last i m a tw) (ar++[(270,some<|au [i6 v]),(271,some<|bq m),(272,some<|au<|aj a)]) 274 .no)<|av (a.fr<=last) (fun h=>show False by omega) fun _=>(av (a.to≠ -1) (fun h=>show False by omega) fun _=>(And.intro (nj jc)<|And.intro (nj mE) (show bL (xK l v last i m a tw) (ar++[(270,some<|au [i6 v]),(271,some<|bq m),(272,some<|au<|aj a)]) (fC l v last i m a tw) (ab (ar++[(270,some<|au [i6 v]),(271,some<|bq m),(272,some<|au<|aj a)]) 274) from bQ)))
theorem RY(mc:Mt [cd,cf,cb] B)(h1:¬a.fr<=last)(h2:a.to≠ -1)(h3:¬a.to<a.fr)(jc:decide (0<=a.rv/\a.rv<=1099511627776)=false):cM B false (aU l v last i m a tw)<|ab (ar++[(270,some<|au [i6 v]),(271,some<|bq m),(272,some<|au<|aj a)]) 274:=wS mc (L:=[cd,cf,cb]) (R:=fun r0 _=>r0= .bool false) (.st 4<|.rg<|.go 3<|.fk .no<|.go 1<|.en<|.st 2<|.rg<|.go 2<|.fk (.go 5<|.fk .no<|.go 2<|.en<|.st 2<|.rg<|.go 3<|.kn (.bool false)<|.go 2<|.en<|.rt 7<|.no) .no)<|av (a.fr<=last) (fun h=>show False by omega) fun _=>(av (a.to≠ -1) (fun _=>(av (a.to<a.fr) (fun h=>show False by omega) fun _=>(And.intro (nj jc) (show AV.bool false=AV.bool false from rfl)))) (fun h=>show False by omega))
theorem RZ(mc:Mt [cd,cf,cb] B)(h1:¬a.fr<=last)(h2:a.to≠ -1)(h3:¬a.to<a.fr)(jc:decide (0<=a.rv/\a.rv<=1099511627776)=true)(mE:decide (0<=a.wv/\a.wv<=1099511627776)=false):cM B false (aU l v last i m a tw)<|ab (ar++[(270,some<|au [i6 v]),(271,some<|bq m),(272,some<|au<|aj a)]) 274:=wS mc (L:=[cd,cf,cb]) (R:=fun r0 _=>r0= .bool false) (.st 4<|.rg<|.go 3<|.fk .no<|.go 1<|.en<|.st 2<|.rg<|.go 2<|.fk (.go 5<|.fk .no<|.go 2<|.en<|.st 2<|.rg<|.go 3<|.kn (.bool true)<|.go 2<|.en<|.st 1<|.rg<|.go 3<|.kn (.bool false)<|.go 2<|.en<|.rt 5<|.no) .no)<|av (a.fr<=last) (fun h=>show False by omega) fun _=>(av (a.to≠ -1) (fun _=>(av (a.to<a.fr) (fun h=>show False by omega) fun _=>(And.intro (nj jc)<|And.intro (nj mE) (show AV.bool false=AV.bool false from rfl)))) (fun h=>show False by omega))
theorem R0(mc:Mt [cd,cf,cb] B)(h1:¬a.fr<=last)(h2:a.to≠ -1)(h3:¬a.to<a.fr)(jc:decide (0<=a.rv/\a.rv<=1099511627776)=true)(mE:decide (0<=a.wv/\a.wv<=1099511627776)=true)(H:cM B y (fC l v last i m a tw)<|ab (ar++[(270,some<|au [i6 v]),(271,some<|bq m),(272,some<|au<|aj a)]) 274):cM B y (aU l v last i m a tw)<|ab (ar++[(270,some<|au [i6 v]),(271,some<|bq m),(272,some<|au<|aj a)]) 274:=vC mc H (.st 4<|.rg<|.go 3<|.fk .no<|.go 1<|.en<|.st 2<|.rg<|.go 2<|.fk (.go 5<|.fk .no<|.go 2<|.en<|.st 2<|.rg<|.go 3<|.kn (.bool true)<|.go 2<|.en<|.st 1<|.rg<|.go 3<|.kn (.bool true)<|.go 2<|.en<|.st 1<|.ls (xK l v last i m a tw) (ar++[(270,some<|au [i6 v]),(271,some<|bq m),(272,some<|au<|aj a)]) 274 .no) .no)<|av (a.fr<=last) (fun h=>show False by omega) fun _=>(av (a.to≠ -1) (fun _=>(av (a.to<a.fr) (fun h=>show False by omega) fun _=>(And.intro (nj jc)<|And.intro (nj mE) (show bL (xK l v last i m a tw) (ar++[(270,some<|au [i6 v]),(271,some<|bq m),(272,some<|au<|aj a)]) (fC l v last i m a tw) (ab (ar++[(270,some<|au [i6 v]),(271,some<|bq m),(272,some<|au<|aj a)]) 274) from bQ)))) (fun h=>show False by omega))
theorem R1(mc:Mt [cd,cf,cb] B)(hv:decide (a.wv>0)=true)(hc:a.cm=false):cM B false (fC l v last i m a tw)<|ab (ar++[(270,some<|au [i6 v]),(271,some<|bq m),(272,some<|au<|aj a)]) 274:=wS mc (L:=[cd,cf,cb]) (R:=fun r0 _=>r0= .bool false) (.st 2<|.rg<|.go 1<|.kn (.bool true)<|.go 2<|.jL (a.cm) .no<|.go 6<|.en<|.rt 7<|.no)<|And.intro (pL hv)<|And.intro (Ed a)<|And.intro (fun(h:a.cm=true)=>show False by rw[hc] at h;cases h) fun(_:a.cm=false)=>(show AV.bool false=AV.bool false from rfl)
theorem R2(mc:Mt [cd,cf,cb] B)(hv:decide (a.wv>0)=true)(hc:a.cm=true):cM B false (fC l v last i m a<|true)<|ab (ar++[(270,some<|au [i6 v]),(271,some<|bq m),(272,some<|au<|aj a)]) 274:=wS mc (L:=[cd,cf,cb]) (R:=fun r0 _=>r0= .bool false) (.st 2<|.rg<|.go 1<|.kn (.bool true)<|.go 2<|.jL (a.cm) (.go 6<|.en<|.rt 7<|.no) .no)<|And.intro (pL hv)<|And.intro (Ed a)<|And.intro (fun(_:a.cm=true)=>(show AV.bool false=AV.bool false from rfl)) (fun(h:a.cm=false)=>show False by rw[hc] at h;cases h)
theorem R3(mc:Mt [cd,cf,cb] B)(hv:decide (a.wv>0)=true)(hc:a.cm=true)(H:cM B y (p7 l v last i m a)<|ab (ar++[(270,some<|au [i6 v]),(271,some<|bq m),(272,some<|au<|aj a)]) 274):cM B y (fC l v last i m a<|false)<|ab (ar++[(270,some<|au [i6 v]),(271,some<|bq m),(272,some<|au<|aj a)]) 274:=vC mc H (.st 2<|.rg<|.go 1<|.kn (.bool true)<|.go 2<|.jL (a.cm) (.go 6<|.en<|.st 1<|.rg<|.go 1<|.kn (.bool true)<|.go 8<|.en<|.st 1<|.ls (xL l v last i m a) (ar++[(270,some<|au [i6 v]),(271,some<|bq m),(272,some<|au<|aj a)]) 274 .no) .no)<|And.intro (pL hv)<|And.intro (Ed a)<|And.intro (fun(_:a.cm=true)=>(And.intro (pL hv) (show bL (xL l v last i m a) (ar++[(270,some<|au [i6 v]),(271,some<|bq m),(272,some<|au<|aj a)]) (p7 l v last i m a) (ab (ar++[(270,some<|au [i6 v]),(271,some<|bq m),(272,some<|au<|aj a)]) 274) from bQ))) (fun(h:a.cm=false)=>show False by rw[hc] at h;cases h)
theorem f6(mc:Mt [cd,cf,cb] B)(hv:decide (a.wv>0)=false)(hl:a.wr.length>0):cM B false (fC l v last i m a tw)<|ab (ar++[(270,some<|au [i6 v]),(271,some<|bq m),(272,some<|au<|aj a)]) 274:=wS mc (L:=[cd,cf,cb]) (R:=fun r0 _=>r0= .bool false) (.st 2<|.rg<|.go 1<|.kn (.bool false)<|.go 9<|.en<|.st 1<|.rg<|.go 1<|.kn (.bool false)<|.go 5<|.fk (.go 2<|.en<|.rt 5<|.no) .no)<|And.intro (pL hv)<|And.intro (pL hv)<|av ((a.wr.length:Int)>0) (fun _=>(show AV.bool false=AV.bool false from rfl)) (fun h=>show False by omega)
theorem R4(mc:Mt [cd,cf,cb] B)(hv:decide (a.wv>0)=false)(hl:¬a.wr.length>0)(H:cM B y (p7 l v last i m a)<|ab (ar++[(270,some<|au [i6 v]),(271,some<|bq m),(272,some<|au<|aj a)]) 274):cM B y (fC l v last i m a tw)<|ab (ar++[(270,some<|au [i6 v]),(271,some<|bq m),(272,some<|au<|aj a)]) 274:=vC mc H (.st 2<|.rg<|.go 1<|.kn (.bool false)<|.go 9<|.en<|.st 1<|.rg<|.go 1<|.kn (.bool false)<|.go 5<|.fk .no<|.go 2<|.en<|.st 1<|.ls (xL l v last i m a) (ar++[(270,some<|au [i6 v]),(271,some<|bq m),(272,some<|au<|aj a)]) 274 .no)<|And.intro (pL hv)<|And.intro (pL hv)<|av ((a.wr.length:Int)>0) (fun h=>show False by omega) fun _=>(show bL (xL l v last i m a) (ar++[(270,some<|au [i6 v]),(271,some<|bq m),(272,some<|au<|aj a)]) (p7 l v last i m a) (ab (ar++[(270,some<|au [i6 v]),(271,some<|bq m),(272,some<|au<|aj a)]) 274) from bQ)
theorem f7(mc:Mt [cd,cf,cb] B)(jH:a.rd.length<=1000000)(h1:a.rd.any (dk v)=true):cM B false (p7 l v last i m a)<|ab (ar++[(270,some<|au [i6 v]),(271,some<|bq m),(272,some<|au<|aj a)]) 274:=wS mc (L:=[cd,cf,cb]) (R:=fun r0 _=>r0= .bool false) (.st 2<|.rg<|.go 3<|.cg (.bool true) fG (fQ v)<|.go 1<|.en<|.rt 7<|.no)<|qC (L:=[cd,cf,cb]) (f:=20) (by as_aux_lemma=>kernel_rfl) pJ.bf (l:=a.rd) (v:=v) (y:=.bool true) rfl ⟨a.rd,v,rfl,rfl,jH,by rw[h1],rfl⟩ (show AV.bool false=AV.bool false from rfl)
theorem f8(mc:Mt [cd,cf,cb] B)(jH:a.rd.length<=1000000)(gd:a.wr.length<=1000000)(h1:a.rd.any (dk v)=false)(h2:a.wr.any (dk v)=true):cM B false (p7 l v last i m a)<|ab (ar++[(270,some<|au [i6 v]),(271,some<|bq m),(272,some<|au<|aj a)]) 274:=wS mc (L:=[cd,cf,cb]) (R:=fun r0 _=>r0= .bool false) (.st 2<|.rg<|.go 3<|.cg (.bool false) fG (fQ v)<|.go 1<|.en<|.st 1<|.rg<|.go 3<|.cg (.bool true) fG (fQ v)<|.go 1<|.en<|.rt 5<|.no)<|qC (L:=[cd,cf,cb]) (f:=20) (by as_aux_lemma=>kernel_rfl) pJ.bf (l:=a.rd) (v:=v) (y:=.bool false) rfl ⟨a.rd,v,rfl,rfl,jH,by rw[h1],rfl⟩<|qC (L:=[cd,cf,cb]) (f:=20) (by as_aux_lemma=>kernel_rfl) pJ.bf (l:=a.wr) (v:=v) (y:=.bool true) rfl ⟨a.wr,v,rfl,rfl,gd,by rw[h2],rfl⟩ (show AV.bool false=AV.bool false from rfl)
theorem g4(mc:Mt [cd,cf,cb] B)(jH:a.rd.length<=1000000)(gd:a.wr.length<=1000000)(h1:a.rd.any (dk v)=false)(h2:a.wr.any (dk v)=false)(H:cM B y (mD l v last i m a<|0)<|ab (ar++[(270,some<|au [i6 v]),(271,some<|bq m),(272,some<|au<|aj a)]) 274):cM B y (p7 l v last i m a)<|ab (ar++[(270,some<|au [i6 v]),(271,some<|bq m),(272,some<|au<|aj a)]) 274:=vC mc H (.st 2<|.rg<|.go 3<|.cg (.bool false) fG (fQ v)<|.go 1<|.en<|.st 1<|.rg<|.go 3<|.cg (.bool false) fG (fQ v)<|.go 1<|.en<|.st 8<|.ls (sE l v last i m a<|0) (ar++[(270,some<|au [i6 v]),(271,some<|bq m),(272,some<|au<|aj a)]) 274 .no)<|qC (L:=[cd,cf,cb]) (f:=20) (by as_aux_lemma=>kernel_rfl) pJ.bf (l:=a.rd) (v:=v) (y:=.bool false) rfl ⟨a.rd,v,rfl,rfl,jH,by rw[h1],rfl⟩<|qC (L:=[cd,cf,cb]) (f:=20) (by as_aux_lemma=>kernel_rfl) pJ.bf (l:=a.wr) (v:=v) (y:=.bool false) rfl ⟨a.wr,v,rfl,rfl,gd,by rw[h2],rfl⟩ (show bL (sE l v last i m a<|0) (ar++[(270,some<|au [i6 v]),(271,some<|bq m),(272,some<|au<|aj a)]) (mD l v last i m a<|0) (ab (ar++[(270,some<|au [i6 v]),(271,some<|bq m),(272,some<|au<|aj a)]) 274) from bQ)
theorem k0(mc:Mt [cd,cf,cb] B)(gd:a.wr.length<=1000000)(hk:k<a.wr.length)(h0:k=0)(H:cM B y (mD l v last i m a<|k+1)<|ab (ar++[(270,some<|au [i6 v]),(271,some<|bq m),(272,some<|au<|aj a)]) 274):cM B y (mD l v last i m a k)<|ab (ar++[(270,some<|au [i6 v]),(271,some<|bq m),(272,some<|au<|aj a)]) 274:=vC mc H (.st 1<|.rg<|.fk (.en<|.st 6<|.rg<|.go 1<|.a9<|.ba ([i6 (a.wr.getD k (0,0)).1,i6 (a.wr.getD k (0,0)).2])<|.go 3<|.en<|.st 1<|.rg<|.go 1<|.fk .no<|.go 12<|.en<|.st 3<|.rg<|.vl (.int .i64 ((k+1:Nat):Int))<|.go 1<|.en<|.st 1<|.bk (sE l v last i m a<|k+1) (ar++[(270,some<|au [i6 v]),(271,some<|bq m),(272,some<|au<|aj a)]) 274 .no) .no)<|av ((k:Int)<(a.wr.length:Int)) (fun _=>(And.intro (show(0:Int)<=(k:Int) by omega)<|And.intro (show(k:Int)<((a.wr.length:Nat):Int) by omega)<|And.intro (aQ (a.wr.map cD).flatten)<|And.intro (uj (l:=a.wr) (i:=k)<|by omega)<|av ((k:Int)>0) (fun h=>show False by omega) fun _=>(And.intro (wN ((k:Int)+1)<|k+1) (show p6 274 (sE l v last i m a<|k+1) (ar++[(270,some<|au [i6 v]),(271,some<|bq m),(272,some<|au<|aj a)]) (mD l v last i m a<|k+1) (ab (ar++[(270,some<|au [i6 v]),(271,some<|bq m),(272,some<|au<|aj a)]) 274) from sD<|rF (by omega) ⟨sC (by omega),Ec,Ap (by omega),Ea (by omega),fU,mA,fU,fU,sC (by omega),mA,fU,fU,trivial⟩ ⟨lD Ar,lD Eb,lD Jl,trivial⟩)))) (fun h=>show False by omega)
theorem k1(mc:Mt [cd,cf,cb] B)(gd:a.wr.length<=1000000)(hk:k<a.wr.length)(h0:k>0)(hc:¬(a.wr.getD (k - 1) (0,0)).1>=(a.wr.getD k (0,0)).1)(H:cM B y (mD l v last i m a<|k+1)<|ab (ar++[(270,some<|au [i6 v]),(271,some<|bq m),(272,some<|au<|aj a)]) 274):cM B y (mD l v last i m a k)<|ab (ar++[(270,some<|au [i6 v]),(271,some<|bq m),(272,some<|au<|aj a)]) 274:=vC mc H (.st 1<|.rg<|.fk (.en<|.st 6<|.rg<|.go 1<|.a9<|.ba ([i6 (a.wr.getD k (0,0)).1,i6 (a.wr.getD k (0,0)).2])<|.go 3<|.en<|.st 1<|.rg<|.go 1<|.fk (.go 4<|.vl (.int .i64 ((k - 1:Nat):Int))<|.a9<|.go 1<|.ba ([i6 (a.wr.getD (k - 1) (0,0)).1])<|.go 2<|.fk .no<|.go 1<|.en<|.st 3<|.rg<|.vl (.int .i64 ((k+1:Nat):Int))<|.go 1<|.en<|.st 1<|.bk (sE l v last i m a<|k+1) (ar++[(270,some<|au [i6 v]),(271,some<|bq m),(272,some<|au<|aj a)]) 274 .no) .no) .no)<|av ((k:Int)<(a.wr.length:Int)) (fun _=>(And.intro (show(0:Int)<=(k:Int) by omega)<|And.intro (show(k:Int)<((a.wr.length:Nat):Int) by omega)<|And.intro (aQ (a.wr.map cD).flatten)<|And.intro (uj (l:=a.wr) (i:=k)<|by omega)<|av ((k:Int)>0) (fun _=>(And.intro (wN ((k:Int) - 1)<|k - 1)<|And.intro (show(0:Int)<=((k - 1:Nat):Int) by omega)<|And.intro (show((k - 1:Nat):Int)<((a.wr.length:Nat):Int) by omega)<|And.intro (aQ (a.wr.map cD).flatten)<|And.intro (Ij (l:=a.wr) (i:=k - 1)<|by omega)<|av ((a.wr.getD (k - 1) (0,0)).1>=(a.wr.getD k (0,0)).1) (fun h=>show False by omega) fun _=>(And.intro (wN ((k:Int)+1)<|k+1) (show p6 274 (sE l v last i m a<|k+1) (ar++[(270,some<|au [i6 v]),(271,some<|bq m),(272,some<|au<|aj a)]) (mD l v last i m a<|k+1) (ab (ar++[(270,some<|au [i6 v]),(271,some<|bq m),(272,some<|au<|aj a)]) 274) from sD<|rF (by omega) ⟨sC (by omega),Ec,Ap (by omega),Ea (by omega),fU,mA,fU,fU,sC (by omega),mA,fU,fU,trivial⟩ ⟨lD Ar,lD Eb,lD Jl,trivial⟩)))) (fun h=>show False by omega))) (fun h=>show False by omega)
theorem f9(mc:Mt [cd,cf,cb] B)(gd:a.wr.length<=1000000)(hk:k<a.wr.length)(h0:k>0)(hc:(a.wr.getD (k - 1) (0,0)).1>=(a.wr.getD k (0,0)).1):cM B false (mD l v last i m a k)<|ab (ar++[(270,some<|au [i6 v]),(271,some<|bq m),(272,some<|au<|aj a)]) 274:=wS mc (L:=[cd,cf,cb]) (R:=fun r0 _=>r0= .bool false) (.st 1<|.rg<|.fk (.en<|.st 6<|.rg<|.go 1<|.a9<|.ba ([i6 (a.wr.getD k (0,0)).1,i6 (a.wr.getD k (0,0)).2])<|.go 3<|.en<|.st 1<|.rg<|.go 1<|.fk (.go 4<|.vl (.int .i64 ((k - 1:Nat):Int))<|.a9<|.go 1<|.ba ([i6 (a.wr.getD (k - 1) (0,0)).1])<|.go 2<|.fk (.go 1<|.en<|.rt 5<|.no) .no) .no) .no)<|av ((k:Int)<(a.wr.length:Int)) (fun _=>(And.intro (show(0:Int)<=(k:Int) by omega)<|And.intro (show(k:Int)<((a.wr.length:Nat):Int) by omega)<|And.intro (aQ (a.wr.map cD).flatten)<|And.intro (uj (l:=a.wr) (i:=k)<|by omega)<|av ((k:Int)>0) (fun _=>(And.intro (wN ((k:Int) - 1)<|k - 1)<|And.intro (show(0:Int)<=((k - 1:Nat):Int) by omega)<|And.intro (show((k - 1:Nat):Int)<((a.wr.length:Nat):Int) by omega)<|And.intro (aQ (a.wr.map cD).flatten)<|And.intro (Ij (l:=a.wr) (i:=k - 1)<|by omega)<|av ((a.wr.getD (k - 1) (0,0)).1>=(a.wr.getD k (0,0)).1) (fun _=>(show AV.bool false=AV.bool false from rfl)) (fun h=>show False by omega))) (fun h=>show False by omega))) (fun h=>show False by omega)
theorem kE(mc:Mt [cd,cf,cb] B)(hk:a.wr.length<=k)(hl:l.length<=1000000)(hi:i<l.length)(H:cM B y (gA l v (a.fr) (i+1)<|gu m a.wv)<|ab (ar++[(270,some<|au [i6 v]),(271,some<|bq<|gu m a.wv)]) 272):cM B y (mD l v last i m a k)<|ab (ar++[(270,some<|au [i6 v]),(271,some<|bq m),(272,some<|au<|aj a)]) 274:=vC mc H (.st 1<|.rg<|.fk .no<|.en<|.st 3<|.rg<|.go 7<|.mx (uW 271<|gu m a.wv) (uQ 271 m)<|.en<|.st 1<|.rg<|.vl (.int .i64 ((i+1:Nat):Int))<|.go 1<|.en<|.st 1<|.bk (ku l v (a.fr) (i+1)<|gu m a.wv) (ar++[(270,some<|au [i6 v]),(271,some<|bq<|gu m a.wv)]) 272 .no)<|av ((k:Int)<(a.wr.length:Int)) (fun h=>show False by omega) fun _=>(And.intro (put (k:=a.wv) (m:=m))<|And.intro (uq (m:=m))<|And.intro (wN ((i:Int)+1)<|i+1) (show p6 272 (ku l v (a.fr) (i+1)<|gu m a.wv) (ar++[(270,some<|au [i6 v]),(271,some<|bq<|gu m a.wv)]) (gA l v (a.fr) (i+1)<|gu m a.wv) (ab (ar++[(270,some<|au [i6 v]),(271,some<|bq<|gu m a.wv)]) 272) from sD<|rF (by omega) ⟨sC (by omega),Ec,Ap (by omega),Ea (by omega),fU,mA,fU,fU,trivial⟩ ⟨lD Ar,lD Eb,trivial⟩))
end
end IK
end
section
open Go Go.Rn Go.RowKit Go.Proofs
namespace wc
open dP eg fq fO gY mf Dq pK IK
open Classical
def Up(w:List Pr):Prop:=∀k,0<k->k<w.length->(w.getD (k - 1) (0,0)).1<(w.getD k (0,0)).1
structure Ef (v last:Int) (m:List Int) (a:At):Prop where
 fr:¬a.fr<=last
 to:¬(a.to≠ -1/\a.to<a.fr)
 rv:0<=a.rv/\a.rv<=1099511627776
 wv:0<=a.wv/\a.wv<=1099511627776
 w1:a.wv>0->a.cm=true/\a.wv ∉ m
 w0:¬a.wv>0->¬a.wr.length>0
 r:a.rd.any (dk v)=false
 w:a.wr.any (dk v)=false
 up:Up a.wr
def kZ(v:Int):List At->Int->List Int->Prop
 |[],_,_=>True
 |a::l,last,m=>Ef v last m a/\kZ v l a.fr (gu m a.wv)
def iW(init:List Int)(l:List At):Prop:=(¬init.length<1/\¬init.length>32)/\kZ ((init.length:Nat):Int) l (-1) []
abbrev sF(l:List At):Prop:=∀a∈l,a.rd.length<=1000000/\a.wr.length<=1000000
section
variable {B:aC} {y:Bool} {l:List At} {v last:Int} {i:Nat} {m:List Int} {a:At}
theorem Dr(mc:Mt [cd,cf,cb] B)(hl:l.length<=1000000)(hi:i<l.length)(hw:a.wr.length<=1000000)(H:Up a.wr->cM B y (gA l v a.fr (i+1)<|gu m a.wv) (ab (ar++[(270,some<|au [i6 v]),(271,some<|bq<|gu m a.wv)]) 272))(H2:¬Up a.wr->y=false):
 ∀(r k:Nat),a.wr.length - k=r->k<=a.wr.length->(∀j,0<j->j<k->(a.wr.getD (j - 1) (0,0)).1<(a.wr.getD j (0,0)).1)->cM B y (mD l v last i m a k) (ab (ar++[(270,some<|au [i6 v]),(271,some<|bq m),(272,some<|au<|aj a)]) 274)
 |0,k,h,h1,h2=>kE mc (by omega) hl hi (H fun j k1 k2=>h2 j k1<|by omega)
 |r+1,k,h,h1,h2=>by
  by_cases q:k=0
  ·exact k0 mc hw (by omega) q (Dr mc hl hi hw H H2 r (k+1) (by omega) (by omega) fun j k1 k2=>by omega)
  ·by_cases q2:(a.wr.getD (k - 1) (0,0)).1>=(a.wr.getD k (0,0)).1
   ·rw[H2 fun hu=>by have:=hu k (by omega) (by omega);omega];exact f9 mc hw (by omega) (by omega) q2
   ·refine k1 mc hw (by omega) (by omega) q2<|Dr mc hl hi hw H H2 r (k+1) (by omega) (by omega) fun j k1 k2=>?_;by_cases q3:j=k
    ·subst q3;omega
    ·exact h2 j k1 (by omega)
theorem no{p:Prop}(h:¬p):decide p=false:=decide_eq_false h
theorem HM(mc:Mt [cd,cf,cb] B)(hl:l.length<=1000000)(hs:sF l):∀(r i:Nat) (last:Int) (m:List Int),l.length - i=r->i<=l.length->cM B (decide<|kZ v (l.drop i) last m) (gA l v last i m) (ab (ar++[(270,some<|au [i6 v]),(271,some<|bq m)]) 272)
 |0,i,last,m,h,hi=>by rw[List.drop_of_length_le (by omega),decide_eq_true (show kZ v [] last m from trivial)];exact oE mc (by omega)
 |r+1,i,last,m,h,hi=>by
  have hk:i<l.length:=by omega
  rw[List.drop_eq_getElem_cons hk];generalize ha:l[i]=a;obtain⟨jH,gd⟩:=hs a (by rw[←ha];exact List.getElem_mem hk);have hx:eK FU (nm (l.map aj).flatten) (0+((i:Nat):Int).toNat*9) 9=some (aj a):=by have:=qZ eA (l:=l) (i:=i) (a:=a) (by rw[List.getElem?_eq_getElem hk,ha]) 0 9 (by omega);rw[Nat.add_zero] at this;rw[Nat.zero_add,Int.toNat_natCast];exact this
  have bad:∀{y:Bool},¬Ef v last m a->y=false->decide (kZ v (a::l.drop (i+1)) last m)=y:=fun h e=>by rw[e];exact no fun q=>h q.1
  refine o1 mc hk hx (tw:=decide<|a.wv∈m) (by by_cases q:a.wv∈m<;>simp[q]) ?_;by_cases q1:a.fr<=last
  ·rw[bad (fun q=>q.fr q1) rfl];exact f1 mc q1
  have st:∀{y:Bool},(¬(a.to≠ -1/\a.to<a.fr)->(0<=a.rv/\a.rv<=1099511627776)->(0<=a.wv/\a.wv<=1099511627776)->cM B y (fC l v last i m a<|decide<|a.wv∈m) (ab (ar++[(270,some<|au [i6 v]),(271,some<|bq m),(272,some<|au<|aj a)]) 274))->(¬Ef v last m a->y=false)->
   cM B y (aU l v last i m a<|decide<|a.wv∈m) (ab (ar++[(270,some<|au [i6 v]),(271,some<|bq m),(272,some<|au<|aj a)]) 274):=by
   intro y H hb;by_cases q2:a.to= -1
   ·by_cases q3:0<=a.rv/\a.rv<=1099511627776
    ·by_cases q4:0<=a.wv/\a.wv<=1099511627776
     ·exact RX mc q1 q2 (decide_eq_true q3) (decide_eq_true q4)<|H (fun q=>q.1 q2) q3 q4
     ·rw[hb fun q=>q4 q.wv];exact RW mc q1 q2 (decide_eq_true q3)<|decide_eq_false q4
    ·rw[hb fun q=>q3 q.rv];exact RV mc q1 q2<|decide_eq_false q3
   ·by_cases q5:a.to<a.fr
    ·rw[hb fun q=>q.to ⟨q2,q5⟩];exact f2 mc q1 q2 q5
    by_cases q3:0<=a.rv/\a.rv<=1099511627776
    ·by_cases q4:0<=a.wv/\a.wv<=1099511627776
     ·exact R0 mc q1 q2 q5 (decide_eq_true q3) (decide_eq_true q4)<|H (fun q=>q5 q.2) q3 q4
     ·rw[hb fun q=>q4 q.wv];exact RZ mc q1 q2 q5 (decide_eq_true q3)<|decide_eq_false q4
    ·rw[hb fun q=>q3 q.rv];exact RY mc q1 q2 q5<|decide_eq_false q3
  refine st (fun q2 q3 q4=>?_) fun h=>no fun q=>h q.1;have s3:(a.wv>0->a.cm=true/\a.wv ∉ m)->(¬a.wv>0->¬a.wr.length>0)->cM B (decide<|kZ v (a::l.drop (i+1)) last m) (p7 l v last i m a) (ab (ar++[(270,some<|au [i6 v]),(271,some<|bq m),(272,some<|au<|aj a)]) 274):=by
   intro q5 q6;by_cases q7:a.rd.any (dk v)=true
   ·rw[bad (fun q=>by rw[q.r] at q7;cases q7) rfl];exact f7 mc jH q7
   have q7:a.rd.any (dk v)=false:=by simpa using q7
   by_cases q8:a.wr.any (dk v)=true
   ·rw[bad (fun q=>by rw[q.w] at q8;cases q8) rfl];exact f8 mc jH gd q7 q8
   have q8:a.wr.any (dk v)=false:=by simpa using q8
   refine g4 mc jH gd q7 q8 (Dr mc hl hk gd (fun hu=>?_) (fun hu=>bad (fun q=>hu q.up) rfl) _ 0 rfl (Nat.zero_le _) fun j k1 k2=>by omega);have e:decide (kZ v (a::l.drop (i+1)) last m)=decide (kZ v (l.drop<|i+1) a.fr<|gu m a.wv):=decide_eq_decide.2 ⟨fun q=>q.2,fun q=>⟨⟨q1,q2,q3,q4,q5,q6,q7,q8,hu⟩,q⟩⟩;rw[e];exact HM mc hl hs r (i+1) a.fr _ (by omega) (by omega)
  by_cases q5:a.wv>0
  ·cases q6:a.cm with
   |false=>rw[bad (fun q=>by rw[(q.w1 q5).1] at q6;cases q6) rfl];exact R1 mc (decide_eq_true q5) q6
   |true=>
    by_cases q7:a.wv∈m
    ·rw[bad (fun q=>(q.w1 q5).2 q7) rfl,decide_eq_true q7];exact R2 mc (decide_eq_true q5) q6
    ·have:=s3 (fun _=>⟨q6,q7⟩) fun h=>absurd q5 h;rw[decide_eq_false q7];exact R3 mc (decide_eq_true q5) q6 this
  ·by_cases q7:a.wr.length>0
   ·rw[bad (fun q=>q.w0 q5 q7) rfl];exact f6 mc (decide_eq_false q5) q7
   ·exact R4 mc (decide_eq_false q5) q7<|s3 (fun h=>absurd h q5) fun _=>q7
end
def uk(args:List AV)(v:AV):Prop:=∃(init:List Int) (l:List At),args=[az aH init,az aj l]/\l.length<=1000000/\sF l/\v= .bool (decide<|iW init l)
theorem uk.bf(args:List AV)(v v':AV)(h:uk args v)(h':uk args v'):v=v':=by
 obtain⟨i,l,rfl,_,_,rfl⟩:=h;obtain⟨i',l',e,_,_,rfl⟩:=h';injection e with e1 e
 injection e with e2 _
 have e3:eO aH 1 (az aH i) i':=by rw[e1];exact eO.az eI i'
 rw[eO.inj BJ (eO.az eI i) e3,vE e2]
noncomputable def gH:FuncId×KE:=(7,.val<|fY uk)
theorem Hn(hP:dp Tryz.prog){L:bZ}(h:cL L):cL<|gH::L:=by
 refine rE hP h (OL hP<|OM hP<|NR hP gE) Tryz.func7 fun args v e=>?_;obtain⟨init,l,rfl,hl,hs,rfl⟩:=o8 e;refine⟨aL.1 (by kernel_rfl),fun B mc=>?_⟩;rw[←pn];by_cases q1:init.length<1
 ·rw[no fun q=>q.1.1 q1];exact x1 mc q1
 ·by_cases q2:init.length>32
  ·rw[no fun q=>q.1.2 q2];exact x2 mc q1 q2
  ·have e:decide (iW init l)=decide (kZ ((init.length:Nat):Int) l (-1) []):=decide_eq_decide.2 ⟨fun q=>q.2,fun q=>⟨⟨q1,q2⟩,q⟩⟩;rw[e];exact x3 mc q1 q2<|HM mc hl hs _ 0 (-1) [] rfl<|Nat.zero_le _
end wc
end
section
open Go Go.Rn Go.RowKit Go.Proofs
namespace um
open dP
theorem cj{a b:Nat}:Nat.beq a b=true↔a=b:=⟨Nat.eq_of_beq_eq_true,fun h=>by subst h;exact Nat.beq_refl _⟩
theorem M5(p:Nat×Option U)(hp:p∈ar):∀y,p.2=some y->y.gQ=true:=fun y hy=>by
 have h1:(ar.all fun p=>(match p.2 with|some x=>x.gQ|none=>true))=true:=by as_aux_lemma=>kernel_rfl
 have b:=List.all_eq_true.1 h1 p hp;rw[hy] at b;exact b
def je(ps:List<|Nat×Nat)(lo bJ k:Nat):Nat:=match ps.find? fun p=>Nat.beq p.1 k with
 |some p=>p.2
 |none=>if k<lo\/top<=k then k else max k bJ
def Jm(ps:List<|Nat×Nat)(lo bJ nx:Nat)(names:List Nat):Bool:=ps.all (fun p=>Nat.ble lo p.1&&(Nat.blt p.1 nx&&(Nat.ble lo p.2&&Nat.blt p.2 top)))&&(Nat.ble lo nx&&(Nat.ble nx top&&(Nat.blt bJ top&&(names.all fun m=>Nat.blt m lo||ps.any fun p=>Nat.beq p.1 m))))
def Qr(ps:List<|Nat×Nat):Bool:=ps.all fun p=>ps.all fun q=> !(Nat.beq p.2 q.2)||Nat.beq p.1 q.1
def my(r:Nat->Nat)(l0:List<|Nat×AV):List (Nat×AV)->Prop
 |[]=>True
 |p::l=>(p.1<top/\∃x,(p.1,x)∈l0/\ju [] r x p.2)/\my r l0 l
def mz(r:Nat->Nat)(o0:List<|Nat×Option U):List (Nat×Option U)->Prop
 |[]=>True
 |p::l=>(∀y,p.2=some y->y.gQ=true/\∃x,(r p.1,some x)∈o0/\gU x y/\jv [] r x y)/\mz r o0 l
theorem my.mem{r:Nat->Nat}{l0:List<|Nat×AV}:∀{l:List<|Nat×AV},my r l0 l->∀p∈l,p.1<top/\∃x,(p.1,x)∈l0/\ju [] r x p.2
 |[],_,p,hp=>by cases hp
 |a::l,h,p,hp=>by
  rcases List.mem_cons.1 hp with rfl|hp
  ·exact h.1
  ·exact my.mem h.2 p hp
theorem mz.mem{r:Nat->Nat}{o0:List<|Nat×Option U}:∀{l:List<|Nat×Option U},mz r o0 l->∀p∈l,∀y,p.2=some y->y.gQ=true/\∃x,(r p.1,some x)∈o0/\gU x y/\jv [] r x y
 |[],_,p,hp=>by cases hp
 |a::l,h,p,hp=>by
  rcases List.mem_cons.1 hp with rfl|hp
  ·exact h.1
  ·exact mz.mem h.2 p hp
theorem PA{ps:List<|Nat×Nat}{lo bJ nx:Nat}{l0 l:List<|Nat×AV}{o0 o:List<|Nat×Option U}(cr:270<=lo)(hb:Jm ps lo bJ nx (o.map (·.1))=true)(hi:Qr ps=true)(hl:∀r,r=je ps lo bJ->(∀k,top<=k->r k=k)->my r l0 l)(ho:∀r,r=je ps lo bJ->(∀k,top<=k->r k=k)->mz r o0 o):
 kW FU lo bJ l0 (ar++o0) l (ar++o) nx:=by
 unfold Jm at hb;obtain⟨b1,hb⟩:=and_true.1 hb;obtain⟨b2,hb⟩:=and_true.1 hb;obtain⟨b3,hb⟩:=and_true.1 hb;obtain⟨b4,b5⟩:=and_true.1 hb;have b2:=aL.1 b2;have b3:=aL.1 b3;have b4:=(blt_eq _ _).mp b4;have mv:∀p∈ps,lo<=p.1/\p.1<nx/\lo<=p.2/\p.2<top:=fun p hp=>by have:=List.all_eq_true.1 b1 p hp;obtain⟨c1,c2⟩:=and_true.1 this;obtain⟨c2,c3⟩:=and_true.1 c2;obtain⟨c3,c4⟩:=and_true.1 c3;exact⟨aL.1 c1,(blt_eq _ _).mp c2,aL.1 c3,(blt_eq _ _).mp c4⟩
 have none_:∀k,(k<lo\/nx<=k)->(ps.find? fun p=>Nat.beq p.1 k)=none:=fun k hk=>by refine List.find?_eq_none.2 fun p hp=>?_;obtain⟨c1,c2,_⟩:=mv p hp;rw[cj];omega
 let r:=je ps lo bJ;have rl:∀k,k<lo->r k=k:=fun k hk=>by show je ps lo bJ k=k;unfold je;rw[none_ k<|.inl hk];exact if_pos<|.inl hk
 have rt:∀k,top<=k->r k=k:=fun k hk=>by show je ps lo bJ k=k;unfold je;rw[none_ k<|.inr<|by omega];exact if_pos<|.inr hk
 have rn:∀k,nx<=k->k<top->bJ<=r k/\r k<top:=fun k h1 h2=>by show bJ<=je ps lo bJ k/\je ps lo bJ k<top;unfold je;rw[none_ k<|.inr h1];show bJ<=(if _ then _ else _)/\(if _ then _ else _)<top;rw[if_neg<|by omega];omega
 have Jn:∀k∈o.map (·.1),(k<lo/\r k=k)\/∃p∈ps,p.1=k/\r k=p.2:=fun k hk=>by
  have:=List.all_eq_true.1 b5 k hk;rcases Bool.or_eq_true_iff.1 this with this|this
  ·have:=(blt_eq _ _).mp this;exact .inl ⟨this,rl k this⟩
  right;obtain⟨p,hp,e⟩:=List.any_eq_true.1 this;cases q:ps.find? fun p=>Nat.beq p.1 k with
  |none=>exact absurd e (by simpa using List.find?_eq_none.1 q p hp)
  |some p'=>have h1:=List.find?_some q;refine⟨p',List.mem_of_find?_eq_some q,cj.1 h1,?_⟩;show je ps lo bJ k=_;unfold je;rw[q]
 have Eg:∀p∈ar,p.1<270:=fun p hp=>by obtain⟨k,hk,e⟩:=List.mem_map.1 hp;rw[←e];exact zV k hk
 have t0:270<top:=by unfold top;omega
 refine⟨[],r,rl,rn,rt,b3,(hl r rfl rt).mem,fun p hp=>?_,fun p hp q hq _ _ e=>?_,fun p hp=>(by cases hp),fun p hp=>(by cases hp)⟩
 ·rcases List.mem_append.1 hp with hp|hp
  ·have aS:=Eg p hp;refine⟨by omega,fun y hy=>?_⟩;rw[rl _<|by omega];refine⟨by omega,M5 p hp y hy,y,?_,gU.refl _,(BG (nx:=270) (fun k hk=>rl k<|by omega) (by as_aux_lemma=>kernel_rfl) p hp y hy).z⟩;refine List.mem_append_left _ ?_;rw[←hy];exact hp
  ·have aS:p.1<top/\r p.1<top:=by
    rcases Jn p.1 (List.mem_map.2 ⟨p,hp,rfl⟩) with⟨c1,c2⟩|⟨p',h1,h2,h3⟩
    ·rw[c2];omega
    ·obtain⟨c1,c2,c3,c4⟩:=mv p' h1;rw[h3];omega
   refine⟨aS.1,fun y hy=>?_⟩;obtain⟨d1,x,d2,d3,d4⟩:=(ho r rfl rt).mem p hp y hy;exact⟨aS.2,d1,x,List.mem_append_right _ d2,d3,d4⟩
 ·have key:∀p∈ar++o,(p.1<lo/\r p.1=p.1)\/∃q∈ps,q.1=p.1/\r p.1=q.2:=fun p hp=>by
   rcases List.mem_append.1 hp with hp|hp
   ·exact .inl ⟨by have:=Eg p hp;omega,rl _ (by have:=Eg p hp;omega)⟩
   ·exact Jn p.1<|List.mem_map.2 ⟨p,hp,rfl⟩
  rcases key p hp with⟨a1,a2⟩|⟨a,a1,a2,a3⟩<;>rcases key q hq with⟨c1,c2⟩|⟨c,c1,c2,c3⟩
  ·rw[a2,c2] at e;exact e
  ·have:=(mv c c1).2.2.1;rw[a2,c3] at e;omega
  ·have:=(mv a a1).2.2.1;rw[a3,c2] at e;omega
  ·rw[a3,c3] at e;have h1:=List.all_eq_true.1 (List.all_eq_true.1 hi a a1) c c1;rw[Bool.or_eq_true] at h1;rcases h1 with h1|h1
   ·rw[e,show Nat.beq c.2 c.2=true from Nat.beq_refl _] at h1;cases h1
   ·rw[←a2, ←c2];exact Nat.eq_of_beq_eq_true h1
theorem SC{r:Nat->Nat}{n m o len lo gy e:Nat}(h:r m=n)(h1:gy<=lo)(h2:len<=gy):cn r (.slice (some (n,o)) len<|.bA lo e)<|.slice (some (m,o)) len<|.bA gy e:=by intro ρ v hv;simp only[VR] at hv ⊢;obtain⟨b,N,c,q1,q2,q3,q4,q5⟩:=hv;exact⟨b,N,c,by rw[h];exact q1,q2,by omega,q4,q5⟩
theorem B4{a b:Nat}{s t:Tr AV}{z w:List AV}:gU (.cells a s z)<|.cells b t w:=⟨fun _=>rfl,(fun e=>by cases e),fun e=>by cases e⟩
theorem mi{α:Type}{l:List α}{a:α}(j:Nat)(h:l[j]? =some a:=by rfl):a∈l:=List.mem_of_getElem? h
theorem rq{r:Nat->Nat}{ps:List<|Nat×Nat}{lo bJ m n:Nat}(hr:r=je ps lo bJ)(h:je ps lo bJ m=n:=by as_aux_lemma=>kernel_rfl):r m=n:=by rw[hr];exact h
theorem vi{r:Nat->Nat}{k:IntKind}{n:Int}:ju [] r (.int k n)<|.int k n:=(cn.int _ _).z
theorem Jo{r:Nat->Nat}{o0:List<|Nat×Option U}{m n:Nat}{x y:U}(hm:(n,some x)∈o0)(hr:r m=n)(kp:gU x y)(R8:jv [] r x y)(pl:y.gQ=true:=by rfl):∀z,some y=some z->z.gQ=true/\∃x,(r m,some x)∈o0/\gU x z/\jv [] r x z:=fun z e=>by cases e;exact⟨pl,x,by rw[hr];exact hm,kp,R8⟩
theorem ON{r:Nat->Nat}{N M:Nat}{l m:List AV}(h:nZ [] r l m)(hN:l.length=N:=by rfl)(hM:m.length=M:=by rfl)(hl:Nat.ble N top=true:=by as_aux_lemma=>kernel_rfl)(h1:m.all AV.bB=true:=by rfl):jv [] r (.cells N (Tr.fill l 0 .nil) [])<|.cells M (Tr.fill m 0 .nil) []:=by subst hN;subst hM;exact jv.cells (aL.1 hl) h h1
abbrev Te(lo bJ nx:Nat)(l0:List<|Nat×AV)(o0:List<|Nat×Option U)(l1:List<|Nat×AV)(o1:List<|Nat×Option U)(fr:AF)(s:AS):Prop:=(l0.map (fun q=>some q.2)=l0.map (fun q=>some q.2))/\((ar++o0).map (fun q=>q.2)=(ar++o0).map (fun q=>q.2))/\kW FU lo bJ l0 (ar++o0) l1 (ar++o1) nx/\(fr=fr/\s=s)
theorem C0{lo bJ nx:Nat}{fz:fN}{l0 l:List<|Nat×AV}{o0 o:List<|Nat×Option U}(h1:lo<=nx)(h2:nx<=bJ)(h3:bJ<top)(hs:∀r:Nat->Nat,(∀k,k<nx->r k=k)->(∀k,top<=k->r k=k)->∀p∈l,p.1<top/\∃x,(p.1,x)∈l0/\ju fz r x p.2)(ho:∀r:Nat->Nat,(∀k,k<nx->r k=k)->(∀k,top<=k->r k=k)->∀p∈o,p.1<nx/\∀y,p.2=some y->y.gQ=true/\∃x,(p.1,some x)∈o0/\gU x y/\jv fz r x y)(hz:∀p∈fz,nx<=p.1/\p.1<top/\FU p.2.1=some p.2.2/\∃N t z,(p.1,some<|.cells N t z)∈o0/\∀i x,p.2.2[i]? =some x->i<N/\cellAt t z i=some x/\x.bB=true/\x.bV=true):kW FU lo bJ l0 o0 l o nx:=by
 let r:Nat->Nat:=fun k=>if k<nx\/top<=k then k else max k bJ
 have r1:∀k,k<nx->r k=k:=fun k hk=>if_pos<|.inl hk;have r2:∀k,top<=k->r k=k:=fun k hk=>if_pos<|.inr hk;refine⟨fz,r,fun k hk=>r1 k (by omega),fun k a b=>?_,r2,by omega,hs r r1 r2,fun p hp=>?_,fun p hp q hq _ _ e=>?_,fun p hp=>?_,fun p hp q hq _ e=>?_⟩
 ·show bJ<=(if _ then _ else _)/\(if _ then _ else _)<top;rw[if_neg<|by omega];omega
 ·obtain⟨a,b⟩:=ho r r1 r2 p hp;exact⟨by omega,fun y hy=>by obtain⟨c1,x,c2,c3,c4⟩:=b y hy;rw[r1 _ a];exact⟨by omega,c1,x,c2,c3,c4⟩⟩
 ·have a:=(ho r r1 r2 p hp).1;have b:=(ho r r1 r2 q hq).1;rw[r1 _ a,r1 _ b] at e;exact e
 ·exact(hz p hp).2
 ·have a:=(ho r r1 r2 q hq).1;rw[r1 _ a] at e;have:=(hz p hp).1;omega
theorem C1{fz:fN}{r:Nat->Nat}(hr:∀k,k<270->r k=k):∀p∈ar,p.1<270/\∀y,p.2=some y->y.gQ=true/\jv fz r y y:=fun p hp=>by
 have h1:(ar.all fun p=>Nat.blt p.1 270&&(match p.2 with|some x=>x.gQ|none=>true))=true:=by as_aux_lemma=>kernel_rfl
 obtain⟨a,b⟩:=and_true.1<|List.all_eq_true.1 h1 p hp;refine⟨(blt_eq _ _).mp a,fun y hy=>?_⟩;rw[hy] at b;exact⟨b,(BG (nx:=270) hr (by as_aux_lemma=>kernel_rfl) p hp y hy).z⟩
theorem R9{α:Type}(enc:α->List AV)(l:List α)(c:α){K xM:Nat}{X:Prop}(h1:∀x,(enc x).length=K/\(enc x).all AV.bB=true)(h2:2*(l.length+1)*xM+4096*xM<=room)(h3:(l.length+1)*K<=Rn.top)(x:X):
 l.length=l.length/\l.length=l.length/\some (aG enc l)=some (aG enc l)/\some (U.cells (enc c).length (Tr.fill (enc c) 0 .nil) [])=some (U.cells (enc c).length (Tr.fill (enc c) 0 .nil) [])/\(∀x,(enc x).length=K/\(enc x).all AV.bB=true)/\2*(l.length+1)*xM+4096*xM<=room/\(l.length+1)*K<=Rn.top/\X:=
 ⟨rfl,rfl,rfl,rfl,h1,h2,h3,x⟩
end um
end
section
open Go Go.Rn Go.RowKit Go.Proofs
namespace IM
open dP eg fq
noncomputable def gi(g:FuncId)(N:Nat)(cap:bc)(a b n i:Nat):List<|Nat×AV:=[(0,.slice (some (270,0)) N cap),(1,.int .i64 (a:Int)),(2,.int .i64 (b:Int)),(3,.int .i64 (n:Int)),(10,.int .i64 (i:Int))]
noncomputable def KS:List Item:=[.code<|aJ Tryz.prog 88 [1,0,0],.inLoop<|aJ Tryz.prog 88 [1,0,0],.inBlock 0]
noncomputable def dQ(g:FuncId)(N:Nat)(cap:bc)(a b n i:Nat):AF:=⟨88,cH<|gi g N cap a b n i,(max Tryz.f88.ntmps 5),KS,[],none⟩
section
variable {L:bZ} {B:aC} {g:FuncId} {c:AV} {N a b n i:Nat} {cap:bc} {l l':List Int}
theorem w0(mc:Mt L B)(H:aN B Tryz.f88 l' c (dQ g N cap a b n 0)<|ab (mR l c) 272):aN B Tryz.f88 l' c ⟨88,bt [.slice (some (270,0)) N cap,.int .i64 (a:Int),.int .i64 (b:Int),.int .i64 (n:Int),dv g],(max Tryz.f88.ntmps 5),[.code<|aJ Tryz.prog 88 []],[],none⟩<|ab (mR l c) 272:=rC mc H (.st 4<|.ls (gi g N cap a b n 0) (mR l c) 272 .no) (show bL (gi g N cap a b n 0) (mR l c) (dQ g N cap a b n 0) (ab (mR l c) 272) from bQ)
theorem wE(mc:Mt L B)(h0:n<=i):aN B Tryz.f88 l c (dQ g N cap a b n i)<|ab (mR l c) 272:=rS mc (.st 2<|.rg<|.go 2<|.fk .no<|.en<|.rt 4<|.no)<|av ((i:Int)<(n:Int)) (fun h=>show False by omega) fun _=>(show mw l c from nC)
theorem Sa(mc:Mt L B)(hl:N<=1000000)(hN:l.length=N)(hi:i<n)(ha:a+n<=b)(hb:b+n<=N)(H:aN B Tryz.f88 l' c (dQ g N cap a b n<|i+1)<|ab (mR (swp l (a+i)<|b+i) c) 272):aN B Tryz.f88 l' c (dQ g N cap a b n i)<|ab (mR l c) 272:=rC mc H (.st 2<|.rg<|.go 2<|.fk (.en<|.st 4<|.rg<|.go 3<|.vl (.int .i64 ((a+i:Nat):Int))<|.go 3<|.vl (.int .i64 ((b+i:Nat):Int))<|.go 3<|.vl (.int .i64 ((b+i:Nat):Int))<|.ix<|.ld [.int .i64<|I (l)<|b+i]<|.go 3<|.vl (.int .i64 ((a+i:Nat):Int))<|.ix<|.ld [.int .i64<|I (l)<|a+i]<|.ix<|.jM (aG aH<|(l).set (a+i)<|I (l)<|b+i)<|.ix<|.jM (aG aH<|swp (l) (a+i)<|b+i)<|.en<|.st 1<|.rg<|.go 1<|.vl (.int .i64 ((i+1:Nat):Int))<|.go 1<|.en<|.st 1<|.ls (gi g N cap a b n<|i+1) (mR (swp l (a+i)<|b+i) c) 272 .no) .no)<|av ((i:Int)<(n:Int)) (fun _=>(And.intro (wN ((a:Int)+(i:Int))<|a+i)<|And.intro (wN ((b:Int)+(i:Int))<|b+i)<|And.intro (wN ((b:Int)+(i:Int))<|b+i)<|And.intro (show(0:Int)<=((b+i:Nat):Int) by omega)<|And.intro (show((b+i:Nat):Int)<((N:Nat):Int) by omega)<|And.intro (fa (l:=l) (k:=b+i))<|And.intro (wN ((a:Int)+(i:Int))<|a+i)<|And.intro (show(0:Int)<=((a+i:Nat):Int) by omega)<|And.intro (show((a+i:Nat):Int)<((N:Nat):Int) by omega)<|And.intro (fa (l:=l) (k:=a+i))<|And.intro (show(0:Int)<=((a+i:Nat):Int) by omega)<|And.intro (show((a+i:Nat):Int)<((N:Nat):Int) by omega)<|And.intro (show gW (some<|aG aH<|l) (((a+i:Nat):Int).toNat*1) [.int .i64<|I (l)<|b+i]=some (aG aH<|(l).set (a+i)<|I (l)<|b+i) from xI)<|And.intro (show(0:Int)<=((b+i:Nat):Int) by omega)<|And.intro (show((b+i:Nat):Int)<((N:Nat):Int) by omega)<|And.intro (show gW (some<|aG aH<|(l).set (a+i)<|I (l)<|b+i) (((b+i:Nat):Int).toNat*1) [.int .i64<|I (l)<|a+i]=some (aG aH<|swp (l) (a+i)<|b+i) from zW)<|And.intro (wN ((i:Int)+1)<|i+1) (show bL (gi g N cap a b n<|i+1) (mR (swp l (a+i)<|b+i) c) (dQ g N cap a b n<|i+1) (ab (mR (swp l (a+i)<|b+i) c) 272) from bQ))) (fun h=>show False by omega)
end
end IM
end
section
open Go Go.Rn Go.RowKit Go.Proofs
namespace Il
open dP eg fq fO IM
def tW:LR:=fun args aw y c=>∃(N:Nat) (cap:bc) (a b n:Nat) (g:FuncId) (cc:AV) (l l':List Int),args=iP N cap [(a:Int),(b:Int),(n:Int)] g/\aw=[cY l,[cc]]/\y= .tuple []/\c=some (cY l')/\l.length=N/\N<=1000000/\a+n<=b/\b+n<=N/\eh l a b n l'
theorem tW.bf:iV tW:=fun args aw y y' c c' h h'=>by
 obtain⟨N,cap,a,b,n,g,cc,l,l',rfl,rfl,rfl,rfl,_,_,_,_,h⟩:=h;obtain⟨N2,gq,a2,b2,n2,g2,xN,l2,xO,e1,e2,rfl,rfl,_,_,_,_,h'⟩:=h';obtain⟨_,_,e1,_⟩:=s8 e1;obtain⟨rfl,_⟩:=tA e2;simp only[List.cons.injEq,_root_.and_true] at e1;obtain⟨q1,q2,q3⟩:=e1;obtain rfl:a=a2:=by omega
 obtain rfl:b=b2:=by omega
 obtain rfl:n=n2:=by omega
 rw[h.bf h'];exact⟨rfl,rfl⟩
theorem Hp{L:bZ}{B:aC}{g:FuncId}{c:AV}{N a b n:Nat}{cap:bc}{l0 l':List Int}(mc:Mt L B)(hl:N<=1000000)(hN:l0.length=N)(ha:a+n<=b)(hb:b+n<=N)(h':eh l0 a b n l'):
 ∀(r i:Nat) (l:List Int),n - i=r->i<=n->eh l0 a b i l->aN B Tryz.f88 l' c (dQ g N cap a b n i) (ab (mR l c) 272)
 |0,i,l,hr,hi,h=>by
  obtain rfl:i=n:=by omega
  rw[h'.bf h];exact wE mc<|Nat.le_refl _
 |r+1,i,l,hr,hi,h=>by have:=h.len;exact Sa mc hl (by omega) (by omega) ha hb (Hp mc hl hN ha hb h' r (i+1) _ (by omega) (by omega)<|h.step (by omega)<|by omega)
noncomputable def od:FuncId×KE:=(88,.raw<|eU<|vL tW)
theorem M6(hP:dp Tryz.prog){L:bZ}(h:cL L):cL<|od::L:=by refine mZ hP h gE Tryz.func88 fun args aw y c e=>?_;obtain⟨N,cap,a,b,n,g,cc,l,l',rfl,rfl,rfl,rfl,hN,hl,ha,hb,h⟩:=e;refine⟨aL.1 (by kernel_rfl),fun B mc=>tV ?_⟩;exact w0 mc<|Hp mc hl hN ha hb h n 0 l (by omega) (by omega)<|eh.zero l a b
theorem eh.ex{l:List Int}{a b:Nat}:∀{n:Nat},a+n<=b->b+n<=l.length->∃l',eh l a b n l'
 |0,_,_=>⟨l,eh.zero l a b⟩
 |n+1,h1,h2=>by obtain⟨l',h⟩:=eh.ex (n:=n) (l:=l) (a:=a) (b:=b) (by omega) (by omega);exact⟨_,h.step (by omega)<|by omega⟩
end Il
end
section
open Go Go.Rn Go.RowKit Go.Proofs
namespace uo
open dP eg fq fO Il
noncomputable def jf(g:FuncId)(N:Nat)(cap:bc)(m i j:Nat):List<|Nat×AV:=[(0,.slice (some (270,0)) N cap),(2,.int .i64 (m:Int)),(4,dv g),(10,.int .i64 (i:Int)),(11,.int .i64 (j:Int))]
noncomputable def KT:List Item:=[.code<|aJ Tryz.prog 67 [1,1,0,0,0],.inLoop<|aJ Tryz.prog 67 [1,1,0,0,0],.inBlock 0,.code<|aJ Tryz.prog 67 [1,1,1]]
noncomputable def fF(g:FuncId)(N:Nat)(cap:bc)(m i j:Nat):AF:=⟨67,cH<|jf g N cap m i j,(max Tryz.f67.ntmps 5),KT,[],none⟩
section
variable {B:aC} {g:FuncId} {c:AV} {N a m b i j:Nat} {cap:bc} {l l' l1:List Int}
theorem w0(mc:Mt [od] B)(hb:b<=1000000)(h1:a<=m)(h2:m<=b)(H:aN B Tryz.f67 l' c (fF g N cap m (m - a)<|b - m)<|ab (mR l c) 272):aN B Tryz.f67 l' c ⟨67,bt [.slice (some (270,0)) N cap,.int .i64 (a:Int),.int .i64 (m:Int),.int .i64 (b:Int),dv g],(max Tryz.f67.ntmps 5),[.code<|aJ Tryz.prog 67 []],[],none⟩<|ab (mR l c) 272:=rC mc H (.st 1<|.rg<|.go 2<|.vl (.int .i64 ((m - a:Nat):Int))<|.go 1<|.en<|.st 1<|.rg<|.go 2<|.vl (.int .i64 ((b - m:Nat):Int))<|.go 1<|.en<|.st 3<|.ls (jf g N cap m (m - a)<|b - m) (mR l c) 272 .no)<|And.intro (wN ((m:Int) - (a:Int))<|m - a)<|And.intro (wN ((b:Int) - (m:Int))<|b - m) (show bL (jf g N cap m (m - a)<|b - m) (mR l c) (fF g N cap m (m - a)<|b - m) (ab (mR l c) 272) from bQ)
theorem wE(mc:Mt [od] B)(hc:c.bV=true)(hl:N<=1000000)(hN:l.length=N)(hi:i<=m)(hj:m+j<=N)(dq:i=j)(h:eh l (m - i) m i l1):aN B Tryz.f67 l1 c (fF g N cap m i j)<|ab (mR l c) 272:=rS mc (.st 2<|.rg<|.go 2<|.fk .no<|.en<|.st 2<|.rg<|.go 3<|.vl (.int .i64 ((m - i:Nat):Int))<|.go 3<|.cg (.tuple []) (lG<|l1) (lQ (l) c)<|.en<|.rt 2<|.no)<|av ((i:Int)≠(j:Int)) (fun h=>show False by omega) fun _=>(And.intro (wN ((m:Int) - (i:Int))<|m - i)<|lL (L:=[od]) (f:=88) (by as_aux_lemma=>kernel_rfl) tW.bf (N:=N) (cap:=cap) (is:=[((m - i:Nat):Int),((m:Nat):Int),((i:Nat):Int)]) (g:=g) hc ⟨N,cap,m - i,m,i,g,c,l,l1,rfl,rfl,rfl,rfl,hN,hl,by omega,by omega,h⟩ (by omega) h.len (show mw l1 c from nC))
theorem wG(mc:Mt [od] B)(hc:c.bV=true)(hl:N<=1000000)(hN:l.length=N)(hi:i<=m)(hj:m+j<=N)(dq:j<i)(h:eh l (m - i) m j l1)(H:aN B Tryz.f67 l' c (fF g N cap m (i - j) j)<|ab (mR l1 c) 272):aN B Tryz.f67 l' c (fF g N cap m i j)<|ab (mR l c) 272:=rC mc H (.st 2<|.rg<|.go 2<|.fk (.en<|.st 4<|.rg<|.go 2<|.fk (.en<|.st 2<|.rg<|.go 3<|.vl (.int .i64 ((m - i:Nat):Int))<|.go 3<|.cg (.tuple []) (lG<|l1) (lQ (l) c)<|.en<|.rg<|.go 2<|.vl (.int .i64 ((i - j:Nat):Int))<|.go 1<|.en<|.st 2<|.ls (jf g N cap m (i - j) j) (mR l1 c) 272 .no) .no) .no)<|av ((i:Int)≠(j:Int)) (fun _=>(av ((i:Int)>(j:Int)) (fun _=>(And.intro (wN ((m:Int) - (i:Int))<|m - i)<|lL (L:=[od]) (f:=88) (by as_aux_lemma=>kernel_rfl) tW.bf (N:=N) (cap:=cap) (is:=[((m - i:Nat):Int),((m:Nat):Int),((j:Nat):Int)]) (g:=g) hc ⟨N,cap,m - i,m,j,g,c,l,l1,rfl,rfl,rfl,rfl,hN,hl,by omega,by omega,h⟩ (by omega) h.len<|And.intro (wN ((i:Int) - (j:Int))<|i - j) (show bL (jf g N cap m (i - j) j) (mR l1 c) (fF g N cap m (i - j) j) (ab (mR l1 c) 272) from bQ))) (fun h=>show False by omega))) (fun h=>show False by omega)
theorem wL(mc:Mt [od] B)(hc:c.bV=true)(hl:N<=1000000)(hN:l.length=N)(hi:i<=m)(hj:m+j<=N)(dq:i<j)(h:eh l (m - i) (m+j - i) i l1)(H:aN B Tryz.f67 l' c (fF g N cap m i<|j - i)<|ab (mR l1 c) 272):aN B Tryz.f67 l' c (fF g N cap m i j)<|ab (mR l c) 272:=rC mc H (.st 2<|.rg<|.go 2<|.fk (.en<|.st 4<|.rg<|.go 2<|.fk .no<|.en<|.st 2<|.rg<|.go 3<|.vl (.int .i64 ((m - i:Nat):Int))<|.go 2<|.vl (.int .i64 ((m+j:Nat):Int))<|.go 1<|.vl (.int .i64 ((m+j - i:Nat):Int))<|.go 2<|.cg (.tuple []) (lG<|l1) (lQ (l) c)<|.en<|.rg<|.go 2<|.vl (.int .i64 ((j - i:Nat):Int))<|.go 1<|.en<|.st 2<|.ls (jf g N cap m i<|j - i) (mR l1 c) 272 .no) .no)<|av ((i:Int)≠(j:Int)) (fun _=>(av ((i:Int)>(j:Int)) (fun h=>show False by omega) fun _=>(And.intro (wN ((m:Int) - (i:Int))<|m - i)<|And.intro (wN ((m:Int)+(j:Int))<|m+j)<|And.intro (wN (((m+j:Nat):Int) - (i:Int))<|m+j - i)<|lL (L:=[od]) (f:=88) (by as_aux_lemma=>kernel_rfl) tW.bf (N:=N) (cap:=cap) (is:=[((m - i:Nat):Int),((m+j - i:Nat):Int),((i:Nat):Int)]) (g:=g) hc ⟨N,cap,m - i,m+j - i,i,g,c,l,l1,rfl,rfl,rfl,rfl,hN,hl,by omega,by omega,h⟩ (by omega) h.len<|And.intro (wN ((j:Int) - (i:Int))<|j - i) (show bL (jf g N cap m i<|j - i) (mR l1 c) (fF g N cap m i<|j - i) (ab (mR l1 c) 272) from bQ)))) (fun h=>show False by omega)
end
theorem Cv{B:aC}{g:FuncId}{c:AV}{N m:Nat}{cap:bc}{l':List Int}(mc:Mt [od] B)(hc:c.bV=true)(hl:N<=1000000):∀(r i j:Nat) (l:List Int),i+j<=r->0<i->0<j->l.length=N->i<=m->m+j<=N->bS l (m - i) m (m+j) l'->aN B Tryz.f67 l' c (fF g N cap m i j) (ab (mR l c) 272)
 |0,i,j,l,h,h1,h2,_,_,_,_=>by omega
 |r+1,i,j,l,h,h1,h2,hN,hi,hj,hr=>by
  rcases Nat.lt_trichotomy i j with q|q|q
  ·obtain⟨l1,h3⟩:=eh.ex (l:=l) (a:=m - i) (b:=m+j - i) (n:=i) (by omega) (by omega);have e:=h3.len;obtain⟨l2,h4⟩:=bS.ex (l:=l1) (a:=m - i) (m:=m) (b:=m+(j - i)) (by omega) (by omega) (by omega);obtain rfl:=hr.bf<|bS.lt h3 hi q h4;exact wL mc hc hl hN hi hj q h3<|Cv mc hc hl r i (j - i) l1 (by omega) h1 (by omega) (by omega) hi (by omega) h4
  ·subst q;obtain⟨l1,h3⟩:=eh.ex (l:=l) (a:=m - i) (b:=m) (n:=i) (by omega) (by omega);obtain rfl:=hr.bf<|bS.eq h3 hi;exact wE mc hc hl hN hi hj rfl h3
  ·obtain⟨l1,h3⟩:=eh.ex (l:=l) (a:=m - i) (b:=m) (n:=j) (by omega) (by omega);have e:=h3.len;obtain⟨l2,h4⟩:=bS.ex (l:=l1) (a:=m - (i - j)) (m:=m) (b:=m+j) (by omega) (by omega) (by omega);obtain rfl:=hr.bf<|bS.gt h3 hi q h4;exact wG mc hc hl hN hi hj q h3<|Cv mc hc hl r (i - j) j l1 (by omega) (by omega) h2 (by omega) (by omega) hj h4
def zX:LR:=fun args aw y c=>∃(N:Nat) (cap:bc) (a m b:Nat) (g:FuncId) (cc:AV) (l l':List Int),args=iP N cap [(a:Int),(m:Int),(b:Int)] g/\aw=[cY l,[cc]]/\y= .tuple []/\c=some (cY l')/\cc.bV=true/\l.length=N/\N<=1000000/\a<m/\m<b/\b<=N/\bS l a m b l'
theorem zX.bf:iV zX:=fun args aw y y' c c' h h'=>by
 obtain⟨N,cap,a,m,b,g,cc,l,l',rfl,rfl,rfl,rfl,_,_,_,_,_,_,h⟩:=h;obtain⟨N2,gq,a2,m2,b2,g2,xN,l2,xO,e1,e2,rfl,rfl,_,_,_,_,_,_,h'⟩:=h';obtain⟨_,_,e1,_⟩:=s8 e1;obtain⟨rfl,_⟩:=tA e2;simp only[List.cons.injEq,_root_.and_true] at e1;obtain⟨q1,q2,q3⟩:=e1;obtain rfl:a=a2:=by omega
 obtain rfl:m=m2:=by omega
 obtain rfl:b=b2:=by omega
 rw[h.bf h'];exact⟨rfl,rfl⟩
noncomputable def bU:FuncId×KE:=(67,.raw<|eU<|vL zX)
theorem NS(hP:dp Tryz.prog){L:bZ}(h:cL L):cL<|bU::L:=by refine mZ hP h (M6 hP gE) Tryz.func67 fun args aw y c e=>?_;obtain⟨N,cap,a,m,b,g,cc,l,l',rfl,rfl,rfl,rfl,hc,hN,hl,h1,h2,h3,h⟩:=e;refine⟨aL.1 (by kernel_rfl),fun B mc=>tV ?_⟩;refine w0 mc (by omega) (by omega) (by omega)<|Cv mc hc hl _ (m - a) (b - m) l (Nat.le_refl _) (by omega) (by omega) hN (by omega) (by omega) ?_;rw[show m - (m - a)=a by omega,show m+(b - m)=b by omega];exact h
end uo
end
section
open Go Go.Rn Go.RowKit Go.Proofs
namespace IN
open dP eg fq fO gY
theorem c1{B:aC}{x y:Int}(mc:Mt [] B)(h:x<y):Sm B Tryz.f16 (i6<|cp x y) ⟨16,bt [.int .i64 x,.int .i64 y],(max Tryz.f16.ntmps 2),[.code<|aJ Tryz.prog 16 []],[],none⟩<|ab ar 270:=wS mc (L:=[]) (R:=fun r0 _=>r0=i6 (cp x y)) (.st 3<|.rg<|.go 1<|.il<|.st 3<|.rg<|.go 2<|.fk .no<|.go 1<|.en<|.rt 2<|.go 1<|.en<|.st 1<|.rg<|.go 1<|.il<|.st 3<|.rg<|.go 2<|.fk .no<|.go 1<|.en<|.rt 2<|.go 1<|.en<|.st 12<|.rg<|.go 2<|.fk (.en<|.rt 5<|.no) .no)<|av (x≠x) (fun h=>show False by exact h rfl) fun _=>(av (y≠y) (fun h=>show False by exact h rfl) fun _=>(av (x<y) (fun _=>(show AV.int .i64 (-1)=i6 (cp x y) by rw[cp,if_pos<|by assumption])) (fun h=>show False by omega)))
theorem c2{B:aC}{x y:Int}(mc:Mt [] B)(h:x>y):Sm B Tryz.f16 (i6<|cp x y) ⟨16,bt [.int .i64 x,.int .i64 y],(max Tryz.f16.ntmps 2),[.code<|aJ Tryz.prog 16 []],[],none⟩<|ab ar 270:=wS mc (L:=[]) (R:=fun r0 _=>r0=i6 (cp x y)) (.st 3<|.rg<|.go 1<|.il<|.st 3<|.rg<|.go 2<|.fk .no<|.go 1<|.en<|.rt 2<|.go 1<|.en<|.st 1<|.rg<|.go 1<|.il<|.st 3<|.rg<|.go 2<|.fk .no<|.go 1<|.en<|.rt 2<|.go 1<|.en<|.st 12<|.rg<|.go 2<|.fk .no<|.en<|.st 4<|.rg<|.go 2<|.fk (.en<|.rt 5<|.no) .no)<|av (x≠x) (fun h=>show False by exact h rfl) fun _=>(av (y≠y) (fun h=>show False by exact h rfl) fun _=>(av (x<y) (fun h=>show False by omega) fun _=>(av (x>y) (fun _=>(show AV.int .i64 1=i6 (cp x y) by rw[cp,if_neg (by omega),if_pos<|by omega])) (fun h=>show False by omega))))
theorem c3{B:aC}{x y:Int}(mc:Mt [] B)(h:x=y):Sm B Tryz.f16 (i6<|cp x y) ⟨16,bt [.int .i64 x,.int .i64 y],(max Tryz.f16.ntmps 2),[.code<|aJ Tryz.prog 16 []],[],none⟩<|ab ar 270:=wS mc (L:=[]) (R:=fun r0 _=>r0=i6 (cp x y)) (.st 3<|.rg<|.go 1<|.il<|.st 3<|.rg<|.go 2<|.fk .no<|.go 1<|.en<|.rt 2<|.go 1<|.en<|.st 1<|.rg<|.go 1<|.il<|.st 3<|.rg<|.go 2<|.fk .no<|.go 1<|.en<|.rt 2<|.go 1<|.en<|.st 12<|.rg<|.go 2<|.fk .no<|.en<|.st 4<|.rg<|.go 2<|.fk .no<|.en<|.rt 6<|.no)<|av (x≠x) (fun h=>show False by exact h rfl) fun _=>(av (y≠y) (fun h=>show False by exact h rfl) fun _=>(av (x<y) (fun h=>show False by omega) fun _=>(av (x>y) (fun h=>show False by omega) fun _=>(show AV.int .i64 0=i6 (cp x y) by rw[cp,if_neg (by omega),if_neg<|by omega]))))
def ur(args:List AV)(v:AV):Prop:=∃x y:Int,args=[.int .i64 x,.int .i64 y]/\v=i6 (cp x y)
theorem ur.bf(args:List AV)(v v':AV)(h:ur args v)(h':ur args v'):v=v':=by
 obtain⟨x,y,rfl,rfl⟩:=h;obtain⟨x',y',e,rfl⟩:=h';injection e with e1 e;injection e with e2 _
 injection e1 with _ e1;injection e2 with _ e2
 rw[e1,e2]
noncomputable def oR:FuncId×KE:=(16,.val<|fY ur)
theorem OO(hP:dp Tryz.prog){L:bZ}(h:cL L):cL<|oR::L:=by
 refine rE hP h gE Tryz.func16 fun args v e=>?_;obtain⟨x,y,rfl,rfl⟩:=o8 e;refine⟨aL.1 (by kernel_rfl),fun B mc=>?_⟩;rw[←pn];rcases Int.lt_trichotomy x y with q|q|q
 ·exact c1 mc q
 ·exact c3 mc q
 ·exact c2 mc q
theorem d1{B:aC}{a:At}(mc:Mt [] B)(h:a.wv>0):Sm B Tryz.f14 (.agg [i6<|kv a,i6<|kk a,i6 a.fr]) ⟨14,bt [.agg<|aj a],(max Tryz.f14.ntmps 1),[.code<|aJ Tryz.prog 14 []],[],none⟩<|ab ar 270:=wS mc (L:=[]) (R:=fun r0 _=>r0= .agg [i6<|kv a,i6<|kk a,i6 a.fr]) (.st 4<|.rg<|.go 2<|.fk (.en<|.rt 5<|.no) .no)<|av (a.wv>0) (fun _=>(show AV.agg [.int .i64 a.wv,.int .i64 0,.int .i64 a.fr]= .agg [i6<|kv a,i6<|kk a,i6 a.fr] by rw[kv,kk,if_pos (by assumption),if_pos<|by assumption])) (fun h=>show False by omega)
theorem d2{B:aC}{a:At}(mc:Mt [] B)(h:¬a.wv>0):Sm B Tryz.f14 (.agg [i6<|kv a,i6<|kk a,i6 a.fr]) ⟨14,bt [.agg<|aj a],(max Tryz.f14.ntmps 1),[.code<|aJ Tryz.prog 14 []],[],none⟩<|ab ar 270:=wS mc (L:=[]) (R:=fun r0 _=>r0= .agg [i6<|kv a,i6<|kk a,i6 a.fr]) (.st 4<|.rg<|.go 2<|.fk .no<|.en<|.rt 6<|.no)<|av (a.wv>0) (fun h=>show False by omega) fun _=>(show AV.agg [.int .i64 a.rv,.int .i64 1,.int .i64 a.fr]= .agg [i6<|kv a,i6<|kk a,i6 a.fr] by rw[kv,kk,if_neg (by assumption),if_neg<|by assumption])
def uR(args:List AV)(v:AV):Prop:=∃a:At,args=[.agg<|aj a]/\v= .agg [i6<|kv a,i6<|kk a,i6 a.fr]
theorem uR.bf(args:List AV)(v v':AV)(h:uR args v)(h':uR args v'):v=v':=by
 obtain⟨a,rfl,rfl⟩:=h;obtain⟨a',e,rfl⟩:=h';injection e with e1 _
 injection e1 with e1
 rw[BL _ _ e1]
noncomputable def oS:FuncId×KE:=(14,.val<|fY uR)
theorem OP(hP:dp Tryz.prog){L:bZ}(h:cL L):cL<|oS::L:=by
 refine rE hP h gE Tryz.func14 fun args v e=>?_;obtain⟨a,rfl,rfl⟩:=o8 e;refine⟨aL.1 (by kernel_rfl),fun B mc=>?_⟩;rw[←pn];by_cases q:a.wv>0
 ·exact d1 mc q
 ·exact d2 mc q
end IN
end
section
open Go Go.Rn Go.RowKit Go.Proofs
namespace mg
open dP eg fq fO gY IN
noncomputable abbrev mB(c:AV):List<|Nat×Option U:=ar++[(270,some<|au [c])]
abbrev As(v:Int)(c:AV):Prop:=i6 v=i6 v/\some (au [c])=some (au [c])
theorem pM(a:At):jD (fY uR) [.agg<|aj a]=some (.agg [i6<|kv a,i6<|kk a,i6 a.fr]):=pa (pb uR.bf ⟨a,rfl,rfl⟩) (by rw[List.all_cons,Ii];rfl) rfl
theorem la(x y:Int):jD (fY ur) [.int .i64 x,.int .i64 y]=some (i6<|cp x y):=pa (pb ur.bf ⟨x,y,rfl,rfl⟩) rfl rfl
theorem oy{l:List At}{x:Int}(h0:0<=x)(h1:x<(l.length:Int)):eK FU (nm (l.map aj).flatten) (0+x.toNat*9) 9=some (aj<|ae l x):=by
 have e:l[x.toNat]? =some (ae l x):=by unfold ae;rw[List.getD_eq_getElem?_getD,List.getElem?_eq_getElem (show x.toNat<l.length by omega)];rfl
 have:=qZ eA e 0 9 (by omega);rw[Nat.add_zero] at this;rw[Nat.zero_add];exact this
section
variable {B:aC} {x y:Int} {l:List At}
theorem e0(mc:Mt [oS,oR] B)(hx:0<=x/\x<(l.length:Int))(hy:0<=y/\y<(l.length:Int))(h0:cp (kv<|ae l x) (kv<|ae l y)≠0):bp Tryz.prog B 271 (Fin Tryz.prog Tryz.f13.results.toList fun r0 s=>r0=i6 (cp (kv<|ae l x)<|kv<|ae l y)/\s.h.get 270=some (au [az aj l])) ⟨13,bt [.int .i64 x,.int .i64 y,.ptr<|some (270,0)],(max Tryz.f13.ntmps 3),[.code<|aJ Tryz.prog 13 []],[],none⟩<|ab (mB<|az aj l) 271:=lC mc (L:=[oS,oR]) (R:=fun r0 s=>r0=i6 (cp (kv<|ae l x)<|kv<|ae l y)/\s.h.get 270=some (au [az aj l])) (.st 3<|.rg<|.go 2<|.a9<|.ba (aj<|ae l x)<|.kn (.agg [i6<|kv<|ae l x,i6<|kk<|ae l x,i6 (ae l x).fr])<|.go 2<|.a9<|.ba (aj<|ae l y)<|.kn (.agg [i6<|kv<|ae l y,i6<|kk<|ae l y,i6 (ae l y).fr])<|.go 4<|.en<|.st 1<|.rg<|.go 4<|.kn (i6<|cp (kv<|ae l x)<|kv<|ae l y)<|.go 4<|.kn (i6<|cp (kk<|ae l x)<|kk<|ae l y)<|.go 4<|.kn (i6<|cp (ae l x).fr (ae l y).fr)<|.go 1<|.il<|.st 10<|.rg<|.go 1<|.en<|.st 8<|.rg<|.go 2<|.fk (.en<|.rt 5<|.go 1<|.en<|.rt 2<|.no) .no)<|And.intro (show(0:Int)<=x by omega)<|And.intro (show x<((l.length:Nat):Int) by omega)<|And.intro (aQ (l.map aj).flatten)<|And.intro (oy (l:=l) (x:=x) (by omega)<|by omega)<|And.intro (pM<|ae l x)<|And.intro (show(0:Int)<=y by omega)<|And.intro (show y<((l.length:Nat):Int) by omega)<|And.intro (aQ (l.map aj).flatten)<|And.intro (oy (l:=l) (x:=y) (by omega)<|by omega)<|And.intro (pM<|ae l y)<|And.intro (la (kv<|ae l x)<|kv<|ae l y)<|And.intro (la (kk<|ae l x)<|kk<|ae l y)<|And.intro (la ((ae l x).fr)<|(ae l y).fr)<|av (cp (kv<|ae l x) (kv<|ae l y)≠0) (fun _=>(show As (cp (kv<|ae l x)<|kv<|ae l y) (az aj l) from⟨rfl,rfl⟩)) (fun h=>show False by omega)
theorem e1(mc:Mt [oS,oR] B)(hx:0<=x/\x<(l.length:Int))(hy:0<=y/\y<(l.length:Int))(h0:cp (kv<|ae l x) (kv<|ae l y)=0)(h1:cp (kk<|ae l x) (kk<|ae l y)≠0):bp Tryz.prog B 271 (Fin Tryz.prog Tryz.f13.results.toList fun r0 s=>r0=i6 (cp (kk<|ae l x)<|kk<|ae l y)/\s.h.get 270=some (au [az aj l])) ⟨13,bt [.int .i64 x,.int .i64 y,.ptr<|some (270,0)],(max Tryz.f13.ntmps 3),[.code<|aJ Tryz.prog 13 []],[],none⟩<|ab (mB<|az aj l) 271:=lC mc (L:=[oS,oR]) (R:=fun r0 s=>r0=i6 (cp (kk<|ae l x)<|kk<|ae l y)/\s.h.get 270=some (au [az aj l])) (.st 3<|.rg<|.go 2<|.a9<|.ba (aj<|ae l x)<|.kn (.agg [i6<|kv<|ae l x,i6<|kk<|ae l x,i6 (ae l x).fr])<|.go 2<|.a9<|.ba (aj<|ae l y)<|.kn (.agg [i6<|kv<|ae l y,i6<|kk<|ae l y,i6 (ae l y).fr])<|.go 4<|.en<|.st 1<|.rg<|.go 4<|.kn (i6<|cp (kv<|ae l x)<|kv<|ae l y)<|.go 4<|.kn (i6<|cp (kk<|ae l x)<|kk<|ae l y)<|.go 4<|.kn (i6<|cp (ae l x).fr (ae l y).fr)<|.go 1<|.il<|.st 10<|.rg<|.go 1<|.en<|.st 8<|.rg<|.go 2<|.fk .no<|.en<|.st 6<|.rg<|.go 1<|.en<|.st 8<|.rg<|.go 2<|.fk (.en<|.rt 5<|.go 1<|.en<|.rt 2<|.no) .no)<|And.intro (show(0:Int)<=x by omega)<|And.intro (show x<((l.length:Nat):Int) by omega)<|And.intro (aQ (l.map aj).flatten)<|And.intro (oy (l:=l) (x:=x) (by omega)<|by omega)<|And.intro (pM<|ae l x)<|And.intro (show(0:Int)<=y by omega)<|And.intro (show y<((l.length:Nat):Int) by omega)<|And.intro (aQ (l.map aj).flatten)<|And.intro (oy (l:=l) (x:=y) (by omega)<|by omega)<|And.intro (pM<|ae l y)<|And.intro (la (kv<|ae l x)<|kv<|ae l y)<|And.intro (la (kk<|ae l x)<|kk<|ae l y)<|And.intro (la ((ae l x).fr)<|(ae l y).fr)<|av (cp (kv<|ae l x) (kv<|ae l y)≠0) (fun h=>show False by omega) fun _=>(av (cp (kk<|ae l x) (kk<|ae l y)≠0) (fun _=>(show As (cp (kk<|ae l x)<|kk<|ae l y) (az aj l) from⟨rfl,rfl⟩)) (fun h=>show False by omega))
theorem e2(mc:Mt [oS,oR] B)(hx:0<=x/\x<(l.length:Int))(hy:0<=y/\y<(l.length:Int))(h0:cp (kv<|ae l x) (kv<|ae l y)=0)(h1:cp (kk<|ae l x) (kk<|ae l y)=0)(h2:cp (ae l x).fr (ae l y).fr≠0):bp Tryz.prog B 271 (Fin Tryz.prog Tryz.f13.results.toList fun r0 s=>r0=i6 (cp (ae l x).fr (ae l y).fr)/\s.h.get 270=some (au [az aj l])) ⟨13,bt [.int .i64 x,.int .i64 y,.ptr<|some (270,0)],(max Tryz.f13.ntmps 3),[.code<|aJ Tryz.prog 13 []],[],none⟩<|ab (mB<|az aj l) 271:=lC mc (L:=[oS,oR]) (R:=fun r0 s=>r0=i6 (cp (ae l x).fr (ae l y).fr)/\s.h.get 270=some (au [az aj l])) (.st 3<|.rg<|.go 2<|.a9<|.ba (aj<|ae l x)<|.kn (.agg [i6<|kv<|ae l x,i6<|kk<|ae l x,i6 (ae l x).fr])<|.go 2<|.a9<|.ba (aj<|ae l y)<|.kn (.agg [i6<|kv<|ae l y,i6<|kk<|ae l y,i6 (ae l y).fr])<|.go 4<|.en<|.st 1<|.rg<|.go 4<|.kn (i6<|cp (kv<|ae l x)<|kv<|ae l y)<|.go 4<|.kn (i6<|cp (kk<|ae l x)<|kk<|ae l y)<|.go 4<|.kn (i6<|cp (ae l x).fr (ae l y).fr)<|.go 1<|.il<|.st 10<|.rg<|.go 1<|.en<|.st 8<|.rg<|.go 2<|.fk .no<|.en<|.st 6<|.rg<|.go 1<|.en<|.st 8<|.rg<|.go 2<|.fk .no<|.en<|.st 6<|.rg<|.go 1<|.en<|.st 8<|.rg<|.go 2<|.fk (.en<|.rt 5<|.go 1<|.en<|.rt 2<|.no) .no)<|And.intro (show(0:Int)<=x by omega)<|And.intro (show x<((l.length:Nat):Int) by omega)<|And.intro (aQ (l.map aj).flatten)<|And.intro (oy (l:=l) (x:=x) (by omega)<|by omega)<|And.intro (pM<|ae l x)<|And.intro (show(0:Int)<=y by omega)<|And.intro (show y<((l.length:Nat):Int) by omega)<|And.intro (aQ (l.map aj).flatten)<|And.intro (oy (l:=l) (x:=y) (by omega)<|by omega)<|And.intro (pM<|ae l y)<|And.intro (la (kv<|ae l x)<|kv<|ae l y)<|And.intro (la (kk<|ae l x)<|kk<|ae l y)<|And.intro (la ((ae l x).fr)<|(ae l y).fr)<|av (cp (kv<|ae l x) (kv<|ae l y)≠0) (fun h=>show False by omega) fun _=>(av (cp (kk<|ae l x) (kk<|ae l y)≠0) (fun h=>show False by omega) fun _=>(av (cp (ae l x).fr (ae l y).fr≠0) (fun _=>(show As (cp (ae l x).fr (ae l y).fr) (az aj l) from⟨rfl,rfl⟩)) (fun h=>show False by omega)))
theorem e3(mc:Mt [oS,oR] B)(hx:0<=x/\x<(l.length:Int))(hy:0<=y/\y<(l.length:Int))(h0:cp (kv<|ae l x) (kv<|ae l y)=0)(h1:cp (kk<|ae l x) (kk<|ae l y)=0)(h2:cp (ae l x).fr (ae l y).fr=0):bp Tryz.prog B 271 (Fin Tryz.prog Tryz.f13.results.toList fun r0 s=>r0=i6 (0)/\s.h.get 270=some (au [az aj l])) ⟨13,bt [.int .i64 x,.int .i64 y,.ptr<|some (270,0)],(max Tryz.f13.ntmps 3),[.code<|aJ Tryz.prog 13 []],[],none⟩<|ab (mB<|az aj l) 271:=lC mc (L:=[oS,oR]) (R:=fun r0 s=>r0=i6 (0)/\s.h.get 270=some (au [az aj l])) (.st 3<|.rg<|.go 2<|.a9<|.ba (aj<|ae l x)<|.kn (.agg [i6<|kv<|ae l x,i6<|kk<|ae l x,i6 (ae l x).fr])<|.go 2<|.a9<|.ba (aj<|ae l y)<|.kn (.agg [i6<|kv<|ae l y,i6<|kk<|ae l y,i6 (ae l y).fr])<|.go 4<|.en<|.st 1<|.rg<|.go 4<|.kn (i6<|cp (kv<|ae l x)<|kv<|ae l y)<|.go 4<|.kn (i6<|cp (kk<|ae l x)<|kk<|ae l y)<|.go 4<|.kn (i6<|cp (ae l x).fr (ae l y).fr)<|.go 1<|.il<|.st 10<|.rg<|.go 1<|.en<|.st 8<|.rg<|.go 2<|.fk .no<|.en<|.st 6<|.rg<|.go 1<|.en<|.st 8<|.rg<|.go 2<|.fk .no<|.en<|.st 6<|.rg<|.go 1<|.en<|.st 8<|.rg<|.go 2<|.fk .no<|.en<|.rt 14<|.go 1<|.en<|.rt 2<|.no)<|And.intro (show(0:Int)<=x by omega)<|And.intro (show x<((l.length:Nat):Int) by omega)<|And.intro (aQ (l.map aj).flatten)<|And.intro (oy (l:=l) (x:=x) (by omega)<|by omega)<|And.intro (pM<|ae l x)<|And.intro (show(0:Int)<=y by omega)<|And.intro (show y<((l.length:Nat):Int) by omega)<|And.intro (aQ (l.map aj).flatten)<|And.intro (oy (l:=l) (x:=y) (by omega)<|by omega)<|And.intro (pM<|ae l y)<|And.intro (la (kv<|ae l x)<|kv<|ae l y)<|And.intro (la (kk<|ae l x)<|kk<|ae l y)<|And.intro (la ((ae l x).fr)<|(ae l y).fr)<|av (cp (kv<|ae l x) (kv<|ae l y)≠0) (fun h=>show False by omega) fun _=>(av (cp (kk<|ae l x) (kk<|ae l y)≠0) (fun h=>show False by omega) fun _=>(av (cp (ae l x).fr (ae l y).fr≠0) (fun h=>show False by omega) fun _=>(show As (0) (az aj l) from⟨rfl,rfl⟩)))
end
def wY:LR:=fun args aw y c=>∃(x z:Int) (l:List At),args=[.int .i64 x,.int .i64 z,.ptr<|some (270,0)]/\aw=[[az aj l]]/\(0<=x/\x<(l.length:Int))/\(0<=z/\z<(l.length:Int))/\y=i6 (nD l x z)/\c=none
theorem wY.bf:iV wY:=fun args aw y y' c c' h h'=>by
 obtain⟨x,z,l,rfl,rfl,_,_,rfl,rfl⟩:=h;obtain⟨x',z',l',e1,e2,_,_,rfl,rfl⟩:=h';injection e1 with e1 e3;injection e3 with e3 _
 injection e1 with _ e1;injection e3 with _ e3
 injection e2 with e2 _;injection e2 with e2 _
 rw[e1,e3,vE e2];exact⟨rfl,rfl⟩
noncomputable def bu:FuncId×KE:=(13,.raw<|eU<|vL wY)
theorem GS(hP:dp Tryz.prog){L:bZ}(h:cL L):cL<|bu::L:=by
 refine mZ hP h (OP hP<|OO hP gE) Tryz.func13 fun args aw y c e=>?_;obtain⟨x,z,l,rfl,rfl,hx,hz,rfl,rfl⟩:=e;refine⟨aL.1 (by kernel_rfl),fun B mc=>tU ?_⟩;show bp Tryz.prog B 271 _ _ _;unfold nD D9;by_cases q0:cp (kv<|ae l x) (kv<|ae l z)=0
 ·rw[if_neg<|by omega];by_cases q1:cp (kk<|ae l x) (kk<|ae l z)=0
  ·rw[if_neg<|by omega];by_cases q2:cp (ae l x).fr (ae l z).fr=0
   ·rw[q2];exact e3 mc hx hz q0 q1 q2
   ·exact e2 mc hx hz q0 q1 q2
  ·rw[if_pos q1];exact e1 mc hx hz q0 q1
 ·rw[if_pos q0];exact e0 mc hx hz q0
def CI(g:FuncId)(c:AV)(n:Int)(cv:Int->Int->Int):Prop:=∃l:List At,g=13/\c=az aj l/\n=(l.length:Int)/\cv=nD l/\zB l
theorem CI.bf{g:FuncId}{c:AV}{n n':Int}{cv Jp:Int->Int->Int}(h:CI g c n cv)(h':CI g c n' Jp):n=n'/\cv=Jp:=by obtain⟨l,rfl,rfl,rfl,rfl,_⟩:=h;obtain⟨l',_,e,rfl,rfl,_⟩:=h';rw[vE e];exact⟨rfl,rfl⟩
theorem CI.hi{g:FuncId}{c:AV}{n:Int}{cv:Int->Int->Int}(h:CI g c n cv):c.bV=true:=by obtain⟨l,_,rfl,_⟩:=h;exact aL.2<|aQ _
theorem CI.ord{g:FuncId}{c:AV}{n:Int}{cv:Int->Int->Int}(h:CI g c n cv):Ord cv n:=by obtain⟨l,rfl,rfl,rfl,rfl,ha⟩:=h;exact y7 ha
theorem CI.cm{L:bZ}(hs:sp L 13=some (eU (vL wY) 270 eH dI)){g:FuncId}{c:AV}{n:Int}{cv:Int->Int->Int}(h:CI g c n cv):Cm L g c n cv:=by have hh:=h.hi;obtain⟨l,rfl,rfl,rfl,rfl,ha⟩:=h;refine⟨fun x y hx hy=>?_,y7 ha⟩;exact Cr (n:=5) (N:=[271]) (aw:=[[az aj l]]) hs rfl (by kernel_rfl) (by decide) rfl (by kernel_rfl) (by show(((AV.bV (az aj l)&&true)&&Nat.ble 1 top)&&true)=true;rw[hh,aL.2 (show 1<=top by unfold top;omega)];rfl) (wa wY.bf ⟨x,y,l,rfl,rfl,hx,hy,rfl,rfl⟩) rfl
end mg
end
section
open Go Go.Rn Go.RowKit Go.Proofs
namespace zY
open dP eg fq fO mg
noncomputable def ku(g:FuncId)(N:Nat)(cap:bc)(a b i:Nat):List<|Nat×AV:=[(0,.slice (some (270,0)) N cap),(1,.int .i64 (a:Int)),(2,.int .i64 (b:Int)),(3,dv g),(8,.int .i64 (i:Int))]
noncomputable def KO:List Item:=[.code<|aJ Tryz.prog 40 [1,0,0],.inLoop<|aJ Tryz.prog 40 [1,0,0],.inBlock 0]
noncomputable def gA(g:FuncId)(N:Nat)(cap:bc)(a b i:Nat):AF:=⟨40,cH<|ku g N cap a b i,(max Tryz.f40.ntmps 4),KO,[],none⟩
noncomputable def mC(g:FuncId)(N:Nat)(cap:bc)(a b i j:Nat):List<|Nat×AV:=[(0,.slice (some (270,0)) N cap),(1,.int .i64 (a:Int)),(2,.int .i64 (b:Int)),(3,dv g),(8,.int .i64 (i:Int)),(9,.int .i64 (j:Int))]
noncomputable def KI:List Item:=[.code<|aJ Tryz.prog 40 [1,0,0,1,0,0,1,0,0],.inLoop<|aJ Tryz.prog 40 [1,0,0,1,0,0,1,0,0],.inBlock 2,.inBlock 1,.code<|aJ Tryz.prog 40 [1,0,0,1,1],.inLoop<|aJ Tryz.prog 40 [1,0,0],.inBlock 0]
noncomputable def gL(g:FuncId)(N:Nat)(cap:bc)(a b i j:Nat):AF:=⟨40,cH<|mC g N cap a b i j,(max Tryz.f40.ntmps 4),KI,[],none⟩
section
variable {B:aC} {g:FuncId} {c:AV} {n:Int} {cv:Int->Int->Int} {N a b i j:Nat} {cap:bc} {l l':List Int}
theorem w0(mc:Mt [bu] B)(ha:a<=1000000)(H:aN B Tryz.f40 l' c (gA g N cap a b<|a+1)<|ab (mR l c) 272):aN B Tryz.f40 l' c ⟨40,bt [.slice (some (270,0)) N cap,.int .i64 (a:Int),.int .i64 (b:Int),dv g],(max Tryz.f40.ntmps 4),[.code<|aJ Tryz.prog 40 []],[],none⟩<|ab (mR l c) 272:=rC mc H (.st 1<|.rg<|.go 1<|.vl (.int .i64 ((a+1:Nat):Int))<|.go 1<|.en<|.st 2<|.ls (ku g N cap a b<|a+1) (mR l c) 272 .no)<|And.intro (wN ((a:Int)+1)<|a+1) (show bL (ku g N cap a b<|a+1) (mR l c) (gA g N cap a b<|a+1) (ab (mR l c) 272) from bQ)
theorem oE(mc:Mt [bu] B)(h:b<=i):aN B Tryz.f40 l c (gA g N cap a b i)<|ab (mR l c) 272:=rS mc (.st 2<|.rg<|.go 2<|.fk .no<|.en<|.rt 4<|.no)<|av ((i:Int)<(b:Int)) (fun h=>show False by omega) fun _=>(show mw l c from nC)
theorem oI(mc:Mt [bu] B)(h:i<b)(H:aN B Tryz.f40 l' c (gL g N cap a b i<|i)<|ab (mR l c) 272):aN B Tryz.f40 l' c (gA g N cap a b i)<|ab (mR l c) 272:=rC mc H (.st 2<|.rg<|.go 2<|.fk (.en<|.st 8<|.ls (mC g N cap a b i<|i) (mR l c) 272 .no) .no)<|av ((i:Int)<(b:Int)) (fun _=>(show bL (mC g N cap a b i<|i) (mR l c) (gL g N cap a b i<|i) (ab (mR l c) 272) from bQ)) (fun h=>show False by omega)
theorem iA(mc:Mt [bu] B)(hi:i<=1000000)(h:j=a)(H:aN B Tryz.f40 l' c (gA g N cap a b<|i+1)<|ab (mR l c) 272):aN B Tryz.f40 l' c (gL g N cap a b i j)<|ab (mR l c) 272:=rC mc H (.st 2<|.rg<|.go 2<|.fk .no<|.go 14<|.en<|.st 3<|.rg<|.go 1<|.vl (.int .i64 ((i+1:Nat):Int))<|.go 1<|.en<|.st 1<|.ls (ku g N cap a b<|i+1) (mR l c) 272 .no)<|av ((j:Int)>(a:Int)) (fun h=>show False by omega) fun _=>(And.intro (wN ((i:Int)+1)<|i+1) (show bL (ku g N cap a b<|i+1) (mR l c) (gA g N cap a b<|i+1) (ab (mR l c) 272) from bQ))
theorem iX(mc:Mt [bu] B)(hC:Cm [bu] g c n cv)(hr:Rg l n)(hl:N<=1000000)(hN:l.length=N)(hi:i<N)(hj:j<=i)(h:a<j)(hc:¬cv (I l j) (I l<|j - 1)<0)(H:aN B Tryz.f40 l' c (gA g N cap a b<|i+1)<|ab (mR l c) 272):aN B Tryz.f40 l' c (gL g N cap a b i j)<|ab (mR l c) 272:=rC mc H (.st 2<|.rg<|.go 2<|.fk (.go 4<|.ix<|.ld [.int .i64<|I (l)<|j]<|.go 2<|.vl (.int .i64 ((j - 1:Nat):Int))<|.ix<|.ld [.int .i64<|I (l)<|j - 1]<|.cg (.int .i64<|cv (I l j)<|I l<|j - 1) cG (cQ c)<|.fk .no<|.go 1<|.en<|.st 3<|.rg<|.go 1<|.vl (.int .i64 ((i+1:Nat):Int))<|.go 1<|.en<|.st 1<|.ls (ku g N cap a b<|i+1) (mR l c) 272 .no) .no)<|av ((j:Int)>(a:Int)) (fun _=>(And.intro (show(0:Int)<=((j:Nat):Int) by omega)<|And.intro (show((j:Nat):Int)<((N:Nat):Int) by omega)<|And.intro (fa (l:=l) (k:=j))<|And.intro (wN ((j:Int) - 1)<|j - 1)<|And.intro (show(0:Int)<=((j - 1:Nat):Int) by omega)<|And.intro (show((j - 1:Nat):Int)<((N:Nat):Int) by omega)<|And.intro (fa (l:=l) (k:=j - 1))<|cm (L:=[bu]) hC (x:=I l j) (y:=I l<|j - 1) (dz hr<|by omega) (dz hr<|by omega)<|av (cv (I l j) (I l<|j - 1)<0) (fun h=>show False by exact hc h) fun _=>(And.intro (wN ((i:Int)+1)<|i+1) (show bL (ku g N cap a b<|i+1) (mR l c) (gA g N cap a b<|i+1) (ab (mR l c) 272) from bQ)))) (fun h=>show False by omega)
theorem iS(mc:Mt [bu] B)(hC:Cm [bu] g c n cv)(hr:Rg l n)(hl:N<=1000000)(hN:l.length=N)(hi:i<N)(hj:j<=i)(h:a<j)(hc:cv (I l j) (I l<|j - 1)<0)(H:aN B Tryz.f40 l' c (gL g N cap a b i<|j - 1)<|ab (mR (swp l j<|j - 1) c) 272):aN B Tryz.f40 l' c (gL g N cap a b i j)<|ab (mR l c) 272:=rC mc H (.st 2<|.rg<|.go 2<|.fk (.go 4<|.ix<|.ld [.int .i64<|I (l)<|j]<|.go 2<|.vl (.int .i64 ((j - 1:Nat):Int))<|.ix<|.ld [.int .i64<|I (l)<|j - 1]<|.cg (.int .i64<|cv (I l j)<|I l<|j - 1) cG (cQ c)<|.fk (.go 1<|.en<|.st 4<|.rg<|.go 4<|.vl (.int .i64 ((j - 1:Nat):Int))<|.go 2<|.vl (.int .i64 ((j - 1:Nat):Int))<|.ix<|.ld [.int .i64<|I (l)<|j - 1]<|.go 2<|.ix<|.ld [.int .i64<|I (l)<|j]<|.ix<|.jM (aG aH<|(l).set (j)<|I (l)<|j - 1)<|.ix<|.jM (aG aH<|swp (l) (j)<|j - 1)<|.en<|.st 1<|.rg<|.go 1<|.vl (.int .i64 ((j - 1:Nat):Int))<|.go 1<|.en<|.st 1<|.ls (mC g N cap a b i<|j - 1) (mR (swp l j<|j - 1) c) 272 .no) .no) .no)<|av ((j:Int)>(a:Int)) (fun _=>(And.intro (show(0:Int)<=((j:Nat):Int) by omega)<|And.intro (show((j:Nat):Int)<((N:Nat):Int) by omega)<|And.intro (fa (l:=l) (k:=j))<|And.intro (wN ((j:Int) - 1)<|j - 1)<|And.intro (show(0:Int)<=((j - 1:Nat):Int) by omega)<|And.intro (show((j - 1:Nat):Int)<((N:Nat):Int) by omega)<|And.intro (fa (l:=l) (k:=j - 1))<|cm (L:=[bu]) hC (x:=I l j) (y:=I l<|j - 1) (dz hr<|by omega) (dz hr<|by omega)<|av (cv (I l j) (I l<|j - 1)<0) (fun _=>(And.intro (wN ((j:Int) - 1)<|j - 1)<|And.intro (wN ((j:Int) - 1)<|j - 1)<|And.intro (show(0:Int)<=((j - 1:Nat):Int) by omega)<|And.intro (show((j - 1:Nat):Int)<((N:Nat):Int) by omega)<|And.intro (fa (l:=l) (k:=j - 1))<|And.intro (show(0:Int)<=((j:Nat):Int) by omega)<|And.intro (show((j:Nat):Int)<((N:Nat):Int) by omega)<|And.intro (fa (l:=l) (k:=j))<|And.intro (show(0:Int)<=((j:Nat):Int) by omega)<|And.intro (show((j:Nat):Int)<((N:Nat):Int) by omega)<|And.intro (show gW (some<|aG aH<|l) (((j:Nat):Int).toNat*1) [.int .i64<|I (l)<|j - 1]=some (aG aH<|(l).set (j)<|I (l)<|j - 1) from xI)<|And.intro (show(0:Int)<=((j - 1:Nat):Int) by omega)<|And.intro (show((j - 1:Nat):Int)<((N:Nat):Int) by omega)<|And.intro (show gW (some<|aG aH<|(l).set (j)<|I (l)<|j - 1) (((j - 1:Nat):Int).toNat*1) [.int .i64<|I (l)<|j]=some (aG aH<|swp (l) (j)<|j - 1) from zW)<|And.intro (wN ((j:Int) - 1)<|j - 1) (show bL (mC g N cap a b i<|j - 1) (mR (swp l j<|j - 1) c) (gL g N cap a b i<|j - 1) (ab (mR (swp l j<|j - 1) c) 272) from bQ))) (fun h=>show False by exact h hc))) (fun h=>show False by omega)
end
section
variable {B:aC} {g:FuncId} {c:AV} {n:Int} {cv:Int->Int->Int} {N a b:Nat} {cap:bc} {l':List Int}
theorem Im(mc:Mt [bu] B)(hC:Cm [bu] g c n cv)(hl:N<=1000000){i:Nat}{l0:List Int}(fc:Rg l0 n)(hN:l0.length=N)(hi:i<N)(Sb:a<=i)(s:b7 cv l0 a i)(H:∀l,bG cv l0 a (i+1) l->aN B Tryz.f40 l' c (gA g N cap a b<|i+1) (ab (mR l c) 272)):
 ∀(r j:Nat) (l:List Int),j - a=r->a<=j->j<=i->bS l0 j i (i+1) l->(∀h,j<=h->h<i->Lq cv (I l0 i) (I l0 h))->aN B Tryz.f40 l' c (gL g N cap a b i j) (ab (mR l c) 272)
 |0,j,l,hj,h1,h2,h,h3=>by
  obtain rfl:j=a:=by omega
  exact iA mc (by omega) rfl<|H l<|y5 hC.ord fc (by omega) (Nat.le_refl _) h2 s (fun h a1 a2=>by omega) h3 h
 |r+1,j,l,hj,h1,h2,h,h3=>by
  have hlen:=h.len;have e1:I l j=I l0 i:=by rw[h.is,if_pos<|by omega];exact iw (by omega)
  have e2:I l (j - 1)=I l0 (j - 1):=by rw[h.is,if_neg (by omega),if_neg<|by omega]
  by_cases q:cv (I l j) (I l<|j - 1)<0
  ·refine iS mc hC (fc.perm h.pm) hl (by omega) hi h2 (by omega) q ?_;have hd:=bS.down (l:=l0) (l':=l) (k:=j - 1) (m:=i) (by rw[show j - 1+1=j by omega];exact h) (by omega) (by omega);rw[show j - 1+1=j by omega] at hd;refine Im mc hC hl fc hN hi Sb s H r (j - 1) _ (by omega) (by omega) (by omega) hd fun k a1 a2=>?_;by_cases q2:k=j - 1
   ·subst q2;rw[←e2, ←e1];exact Lq.of hC.ord (by rw[e1];exact dz fc<|by omega) (by rw[e2];exact dz fc<|by omega) q
   ·exact h3 k (by omega) a2
  ·refine iX mc hC (fc.perm h.pm) hl (by omega) hi h2 (by omega) q<|H l<|y5 hC.ord fc (by omega) h1 h2 s (fun k a1 a2=>?_) h3 h;rw[e1,e2] at q;exact Lq.nB hC.ord fc (by omega) (by omega) (by omega) (b7.le hC.ord fc s (by omega) a1 (show k<=j - 1 by omega)<|by omega) q
theorem HN(mc:Mt [bu] B)(hC:Cm [bu] g c n cv)(hl:N<=1000000){l0:List Int}(fc:Rg l0 n)(hN:l0.length=N)(hb:b<=N)(h':bG cv l0 a b l'):
 ∀(r i:Nat) (l:List Int),b - i=r->a<=i->i<=b->bG cv l0 a i l->aN B Tryz.f40 l' c (gA g N cap a b i) (ab (mR l c) 272)
 |0,i,l,hr,h1,h2,h=>by
  obtain rfl:i=b:=by omega
  rw[h'.bf hC.ord fc h1 (by omega) h];exact oE mc<|Nat.le_refl _
 |r+1,i,l,hr,h1,h2,h=>by have e:=h.len;refine oI mc (by omega) (Im mc hC hl (fc.perm h.pm) (by omega) (by omega) h1 h.ks (fun l2 h2=>?_) _ i l rfl h1 (Nat.le_refl _) (bS.CZ l i<|i+1) fun k a1 a2=>by omega);exact HN mc hC hl fc hN hb h' r (i+1) l2 (by omega) (by omega) (by omega) ⟨h2.pm.trans h.pm,fun k hk=>by rw[h2.out k hk,h.out k<|by omega],h2.ks⟩
end
def jF:LR:=fun args aw y c=>∃(N:Nat) (cap:bc) (a b:Nat) (g:FuncId) (cc:AV) (n:Int) (cv:Int->Int->Int) (l l':List Int),args=iP N cap [(a:Int),(b:Int)] g/\aw=[cY l,[cc]]/\y= .tuple []/\c=some (cY l')/\CI g cc n cv/\Rg l n/\l.length=N/\N<=1000000/\a<=b/\b<=N/\bG cv l a b l'
theorem jF.bf:iV jF:=fun args aw y y' c c' h h'=>by
 obtain⟨N,cap,a,b,g,cc,n,cv,l,l',rfl,rfl,rfl,rfl,hc,hr,hN,_,h1,h2,h⟩:=h;obtain⟨N2,gq,a2,b2,g2,xN,n2,Eh,l2,xO,e1,e2,rfl,rfl,jb,_,_,_,_,_,h'⟩:=h';obtain⟨_,_,e3,rfl⟩:=s8 e1;obtain⟨rfl,rfl⟩:=tA e2;obtain⟨rfl,rfl⟩:=hc.bf jb;simp only[List.cons.injEq,_root_.and_true] at e3;obtain⟨q1,q2⟩:=e3;obtain rfl:a=a2:=by omega
 obtain rfl:b=b2:=by omega
 rw[h.bf hc.ord hr h1 (by omega) h'];exact⟨rfl,rfl⟩
theorem OQ{B:aC}{g:FuncId}{cc:AV}{n:Int}{cv:Int->Int->Int}{N a b:Nat}{cap:bc}{l l':List Int}(mc:Mt [bu] B)(hc:CI g cc n cv)(hr:Rg l n)(hN:l.length=N)(hl:N<=1000000)(h1:a<=b)(h2:b<=N)(h:bG cv l a b l'):
 aN B Tryz.f40 l' cc ⟨40,bt [.slice (some (270,0)) N cap,.int .i64 (a:Int),.int .i64 (b:Int),dv g],(max Tryz.f40.ntmps 4),[.code<|aJ Tryz.prog 40 []],[],none⟩ (ab (mR l cc) 272):=by
 have hC:Cm [bu] g cc n cv:=hc.cm (by as_aux_lemma=>kernel_rfl);refine w0 mc (by omega) ?_;by_cases q:a<b
 ·exact HN mc hC hl hr hN h2 h _ (a+1) l rfl (by omega) q (bG.refl fun i j k1 k2 k3=>by omega)
 ·obtain rfl:a=b:=by omega
  rw[h.bf hC.ord hr (Nat.le_refl _) (by omega)<|bG.refl fun i j k1 k2 k3=>by omega];exact oE mc (by omega)
end zY
end
section
open Go Go.Rn Go.RowKit Go.Proofs
namespace rH
open dP eg fq fO mg uo
def rI(k:Nat):LR:=fun args aw y c=>∃(N:Nat) (cap:bc) (a m b:Nat) (g:FuncId) (cc:AV) (n:Int) (cv:Int->Int->Int) (l l':List Int),args=iP N cap [(a:Int),(m:Int),(b:Int)] g/\aw=[cY l,[cc]]/\y= .tuple []/\c=some (cY l')/\CI g cc n cv/\Rg l n/\l.length=N/\N<=1000000/\a<m/\m<b/\b<=N/\b - a<k/\b7 cv l a m/\b7 cv l m b/\bG cv l a b l'
theorem rI.bf(k:Nat):iV<|rI k:=fun args aw y y' c c' h h'=>by
 obtain⟨N,cap,a,m,b,g,cc,n,cv,l,l',rfl,rfl,rfl,rfl,hc,hr,hN,_,h1,h2,h3,_,_,_,h⟩:=h;obtain⟨N2,gq,a2,m2,b2,g2,xN,n2,Eh,l2,xO,e1,e2,rfl,rfl,jb,_,_,_,_,_,_,_,_,_,h'⟩:=h';obtain⟨_,_,e3,rfl⟩:=s8 e1;obtain⟨rfl,rfl⟩:=tA e2;obtain⟨rfl,rfl⟩:=hc.bf jb;simp only[List.cons.injEq,_root_.and_true] at e3;obtain⟨q1,q2,q3⟩:=e3;obtain rfl:a=a2:=by omega
 obtain rfl:b=b2:=by omega
 rw[h.bf hc.ord hr (by omega) (by omega) h'];exact⟨rfl,rfl⟩
noncomputable def bw(k:Nat):FuncId×KE:=(41,.raw<|eU<|vL<|rI k)
noncomputable def fH(g:FuncId)(N:Nat)(cap:bc)(a i j:Nat):List<|Nat×AV:=[(0,.slice (some (270,0)) N cap),(1,.int .i64 (a:Int)),(4,dv g),(10,.int .i64 (i:Int)),(11,.int .i64 (j:Int))]
noncomputable def KA:List Item:=[.code<|aJ Tryz.prog 41 [0,1,0,1,1,0,0,0],.inLoop<|aJ Tryz.prog 41 [0,1,0,1,1,0,0,0],.inBlock 0,.code<|aJ Tryz.prog 41 [0,1,0,1,1,1],.code<|aJ Tryz.prog 41 [1]]
noncomputable def dK(g:FuncId)(N:Nat)(cap:bc)(a i j:Nat):AF:=⟨41,cH<|fH g N cap a i j,(max Tryz.f41.ntmps 5),KA,[],none⟩
noncomputable def xP(g:FuncId)(N:Nat)(cap:bc)(i q:Nat):List<|Nat×AV:=[(0,.slice (some (270,0)) N cap),(10,.int .i64 (i:Int)),(13,.int .i64 (q:Int))]
noncomputable def KU:List Item:=[.code<|aJ Tryz.prog 41 [0,1,0,1,1,1,0,1,0,0],.inLoop<|aJ Tryz.prog 41 [0,1,0,1,1,1,0,1,0,0],.inBlock 2,.code<|aJ Tryz.prog 41 [0,1,0,1,1,1,1],.code<|aJ Tryz.prog 41 [1]]
noncomputable def p8(g:FuncId)(N:Nat)(cap:bc)(i q:Nat):AF:=⟨41,cH<|xP g N cap i q,(max Tryz.f41.ntmps 5),KU,[],none⟩
noncomputable def sH(g:FuncId)(N:Nat)(cap:bc)(m i j:Nat):List<|Nat×AV:=[(0,.slice (some (270,0)) N cap),(2,.int .i64 (m:Int)),(4,dv g),(14,.int .i64 (i:Int)),(15,.int .i64 (j:Int))]
noncomputable def KB:List Item:=[.code<|aJ Tryz.prog 41 [1,0,1,0,1,1,0,0,0],.inLoop<|aJ Tryz.prog 41 [1,0,1,0,1,1,0,0,0],.inBlock 4,.code<|aJ Tryz.prog 41 [1,0,1,0,1,1,1],.code<|aJ Tryz.prog 41 [1,1]]
noncomputable def nF(g:FuncId)(N:Nat)(cap:bc)(m i j:Nat):AF:=⟨41,cH<|sH g N cap m i j,(max Tryz.f41.ntmps 5),KB,[],none⟩
noncomputable def kx(g:FuncId)(N:Nat)(cap:bc)(i q:Nat):List<|Nat×AV:=[(0,.slice (some (270,0)) N cap),(14,.int .i64 (i:Int)),(17,.int .i64 (q:Int))]
noncomputable def KD:List Item:=[.code<|aJ Tryz.prog 41 [1,0,1,0,1,1,1,0,1,0,0],.inLoop<|aJ Tryz.prog 41 [1,0,1,0,1,1,1,0,1,0,0],.inBlock 6,.code<|aJ Tryz.prog 41 [1,0,1,0,1,1,1,1],.code<|aJ Tryz.prog 41 [1,1]]
noncomputable def gB(g:FuncId)(N:Nat)(cap:bc)(i q:Nat):AF:=⟨41,cH<|kx g N cap i q,(max Tryz.f41.ntmps 5),KD,[],none⟩
noncomputable def oT(g:FuncId)(N:Nat)(cap:bc)(a m b md st r:Nat):List<|Nat×AV:=[(0,.slice (some (270,0)) N cap),(1,.int .i64 (a:Int)),(2,.int .i64 (m:Int)),(3,.int .i64 (b:Int)),(4,dv g),(18,.int .i64 (md:Int)),(19,.int .i64 ((md+m:Nat):Int)),(20,.int .i64 (st:Int)),(21,.int .i64 (r:Int)),(22,.int .i64 ((md+m - 1:Nat):Int))]
noncomputable def KC:List Item:=[.code<|aJ Tryz.prog 41 [1,1,1,1,1,1,1,0,0,0],.inLoop<|aJ Tryz.prog 41 [1,1,1,1,1,1,1,0,0,0],.inBlock 8,.code<|aJ Tryz.prog 41 [1,1,1,1,1,1,1,1]]
noncomputable def ky(g:FuncId)(N:Nat)(cap:bc)(a m b md st r:Nat):AF:=⟨41,cH<|oT g N cap a m b md st r,(max Tryz.f41.ntmps 5),KC,[],none⟩
noncomputable def Ei(g:FuncId)(N:Nat)(cap:bc)(a m b md st:Nat):List<|Nat×AV:=[(0,.slice (some (270,0)) N cap),(1,.int .i64 (a:Int)),(2,.int .i64 (m:Int)),(3,.int .i64 (b:Int)),(4,dv g),(18,.int .i64 (md:Int)),(19,.int .i64 ((md+m:Nat):Int)),(20,.int .i64 (st:Int))]
noncomputable def KP:List Item:=[.code<|aJ Tryz.prog 41 [1,1,1,1,1,1,1,1]]
noncomputable def uT(g:FuncId)(N:Nat)(cap:bc)(a m b md st:Nat):AF:=⟨41,cH<|Ei g N cap a m b md st,(max Tryz.f41.ntmps 5),KP,[],none⟩
noncomputable def sI(g:FuncId)(N:Nat)(cap:bc)(a b md st e:Nat):List<|Nat×AV:=[(0,.slice (some (270,0)) N cap),(1,.int .i64 (a:Int)),(3,.int .i64 (b:Int)),(4,dv g),(18,.int .i64 (md:Int)),(20,.int .i64 (st:Int)),(24,.int .i64 (e:Int))]
noncomputable def KQ:List Item:=[.code<|aJ Tryz.prog 41 [1,1,1,1,1,1,1,1,1,1]]
noncomputable def nH(g:FuncId)(N:Nat)(cap:bc)(a b md st e:Nat):AF:=⟨41,cH<|sI g N cap a b md st e,(max Tryz.f41.ntmps 5),KQ,[],none⟩
noncomputable def gC(g:FuncId)(N:Nat)(cap:bc)(b md e:Nat):List<|Nat×AV:=[(0,.slice (some (270,0)) N cap),(3,.int .i64 (b:Int)),(4,dv g),(18,.int .i64 (md:Int)),(24,.int .i64 (e:Int))]
noncomputable def KR:List Item:=[.code<|aJ Tryz.prog 41 [1,1,1,1,1,1,1,1,1,1,1]]
noncomputable def gD(g:FuncId)(N:Nat)(cap:bc)(b md e:Nat):AF:=⟨41,cH<|gC g N cap b md e,(max Tryz.f41.ntmps 5),KR,[],none⟩
section
variable {B:aC} {g:FuncId} {c:AV} {n:Int} {cv:Int->Int->Int} {k N a m b i j q md st r e:Nat} {cap:bc} {l l' l1:List Int}
theorem wA(mc:Mt [bw k,bU,bu] B)(ha:a<m)(hb:m<b)(hn:b<=1000000)(h:m=a+1)(H:aN B Tryz.f41 l' c (dK g N cap a (m)<|b)<|ab (mR l c) 272):aN B Tryz.f41 l' c ⟨41,bt [.slice (some (270,0)) N cap,.int .i64 (a:Int),.int .i64 (m:Int),.int .i64 (b:Int),dv g],(max Tryz.f41.ntmps 5),[.code<|aJ Tryz.prog 41 []],[],none⟩<|ab (mR l c) 272:=rC mc H (.st 2<|.rg<|.go 2<|.vl (.int .i64 ((m - a:Nat):Int))<|.fk (.en<|.st 8<|.ls (fH g N cap a (m)<|b) (mR l c) 272 .no) .no)<|And.intro (wN ((m:Int) - (a:Int))<|m - a)<|av (((m - a:Nat):Int)=1) (fun _=>(show bL (fH g N cap a (m)<|b) (mR l c) (dK g N cap a (m)<|b) (ab (mR l c) 272) from bQ)) (fun h=>show False by omega)
theorem wB(mc:Mt [bw k,bU,bu] B)(ha:a<m)(hb:m<b)(hn:b<=1000000)(h0:m≠a+1)(h:b=m+1)(H:aN B Tryz.f41 l' c (nF g N cap m (a)<|m)<|ab (mR l c) 272):aN B Tryz.f41 l' c ⟨41,bt [.slice (some (270,0)) N cap,.int .i64 (a:Int),.int .i64 (m:Int),.int .i64 (b:Int),dv g],(max Tryz.f41.ntmps 5),[.code<|aJ Tryz.prog 41 []],[],none⟩<|ab (mR l c) 272:=rC mc H (.st 2<|.rg<|.go 2<|.vl (.int .i64 ((m - a:Nat):Int))<|.fk .no<|.en<|.st 4<|.rg<|.go 2<|.vl (.int .i64 ((b - m:Nat):Int))<|.fk (.en<|.st 8<|.ls (sH g N cap m (a)<|m) (mR l c) 272 .no) .no)<|And.intro (wN ((m:Int) - (a:Int))<|m - a)<|av (((m - a:Nat):Int)=1) (fun h=>show False by omega) fun _=>(And.intro (wN ((b:Int) - (m:Int))<|b - m)<|av (((b - m:Nat):Int)=1) (fun _=>(show bL (sH g N cap m (a)<|m) (mR l c) (nF g N cap m (a)<|m) (ab (mR l c) 272) from bQ)) (fun h=>show False by omega))
theorem Sc(mc:Mt [bw k,bU,bu] B)(ha:a<m)(hb:m<b)(hn:b<=1000000)(h0:m≠a+1)(h1:b≠m+1)(h:m>(a+b) / 2)(H:aN B Tryz.f41 l' c (ky g N cap a m b ((a+b) / 2) ((a+b) / 2+m - b)<|(a+b) / 2)<|ab (mR l c) 272):aN B Tryz.f41 l' c ⟨41,bt [.slice (some (270,0)) N cap,.int .i64 (a:Int),.int .i64 (m:Int),.int .i64 (b:Int),dv g],(max Tryz.f41.ntmps 5),[.code<|aJ Tryz.prog 41 []],[],none⟩<|ab (mR l c) 272:=rC mc H (.st 2<|.rg<|.go 2<|.vl (.int .i64 ((m - a:Nat):Int))<|.fk .no<|.en<|.st 4<|.rg<|.go 2<|.vl (.int .i64 ((b - m:Nat):Int))<|.fk .no<|.en<|.st 3<|.rg<|.go 2<|.vl (.int .i64 ((a+b:Nat):Int))<|.vl (.int .u64 ((a+b:Nat):Int))<|.sh<|.vl (.int .i64 (((a+b) / 2:Nat):Int))<|.go 1<|.en<|.st 1<|.rg<|.go 2<|.vl (.int .i64 (((a+b) / 2+m:Nat):Int))<|.go 1<|.en<|.st 4<|.rg<|.go 2<|.fk (.en<|.st 2<|.rg<|.go 2<|.vl (.int .i64 (((a+b) / 2+m - b:Nat):Int))<|.go 1<|.en<|.st 2<|.rg<|.go 1<|.vl (.int .i64 (((a+b) / 2+m - 1:Nat):Int))<|.go 1<|.en<|.st 3<|.ls (oT g N cap a m b ((a+b) / 2) ((a+b) / 2+m - b)<|(a+b) / 2) (mR l c) 272 .no) .no)<|And.intro (wN ((m:Int) - (a:Int))<|m - a)<|av (((m - a:Nat):Int)=1) (fun h=>show False by omega) fun _=>(And.intro (wN ((b:Int) - (m:Int))<|b - m)<|av (((b - m:Nat):Int)=1) (fun h=>show False by omega) fun _=>(And.intro (wN ((a:Int)+(b:Int))<|a+b)<|And.intro (hU<|a+b)<|And.intro (show(0:Int)<=1 by decide)<|And.intro (hS<|a+b)<|And.intro (wN ((((a+b) / 2:Nat):Int)+(m:Int))<|(a+b) / 2+m)<|av ((m:Int)>(((a+b) / 2:Nat):Int)) (fun _=>(And.intro (wN ((((a+b) / 2+m:Nat):Int) - (b:Int))<|(a+b) / 2+m - b)<|And.intro (wN ((((a+b) / 2+m:Nat):Int) - 1)<|(a+b) / 2+m - 1) (show bL (oT g N cap a m b ((a+b) / 2) ((a+b) / 2+m - b)<|(a+b) / 2) (mR l c) (ky g N cap a m b ((a+b) / 2) ((a+b) / 2+m - b)<|(a+b) / 2) (ab (mR l c) 272) from bQ))) (fun h=>show False by omega)))
theorem Sd(mc:Mt [bw k,bU,bu] B)(ha:a<m)(hb:m<b)(hn:b<=1000000)(h0:m≠a+1)(h1:b≠m+1)(h:¬m>(a+b) / 2)(H:aN B Tryz.f41 l' c (ky g N cap a m b ((a+b) / 2) (a)<|m)<|ab (mR l c) 272):aN B Tryz.f41 l' c ⟨41,bt [.slice (some (270,0)) N cap,.int .i64 (a:Int),.int .i64 (m:Int),.int .i64 (b:Int),dv g],(max Tryz.f41.ntmps 5),[.code<|aJ Tryz.prog 41 []],[],none⟩<|ab (mR l c) 272:=rC mc H (.st 2<|.rg<|.go 2<|.vl (.int .i64 ((m - a:Nat):Int))<|.fk .no<|.en<|.st 4<|.rg<|.go 2<|.vl (.int .i64 ((b - m:Nat):Int))<|.fk .no<|.en<|.st 3<|.rg<|.go 2<|.vl (.int .i64 ((a+b:Nat):Int))<|.vl (.int .u64 ((a+b:Nat):Int))<|.sh<|.vl (.int .i64 (((a+b) / 2:Nat):Int))<|.go 1<|.en<|.st 1<|.rg<|.go 2<|.vl (.int .i64 (((a+b) / 2+m:Nat):Int))<|.go 1<|.en<|.st 4<|.rg<|.go 2<|.fk .no<|.en<|.st 5<|.rg<|.go 1<|.vl (.int .i64 (((a+b) / 2+m - 1:Nat):Int))<|.go 1<|.en<|.st 3<|.ls (oT g N cap a m b ((a+b) / 2) (a)<|m) (mR l c) 272 .no)<|And.intro (wN ((m:Int) - (a:Int))<|m - a)<|av (((m - a:Nat):Int)=1) (fun h=>show False by omega) fun _=>(And.intro (wN ((b:Int) - (m:Int))<|b - m)<|av (((b - m:Nat):Int)=1) (fun h=>show False by omega) fun _=>(And.intro (wN ((a:Int)+(b:Int))<|a+b)<|And.intro (hU<|a+b)<|And.intro (show(0:Int)<=1 by decide)<|And.intro (hS<|a+b)<|And.intro (wN ((((a+b) / 2:Nat):Int)+(m:Int))<|(a+b) / 2+m)<|av ((m:Int)>(((a+b) / 2:Nat):Int)) (fun h=>show False by omega) fun _=>(And.intro (wN ((((a+b) / 2+m:Nat):Int) - 1)<|(a+b) / 2+m - 1) (show bL (oT g N cap a m b ((a+b) / 2) (a)<|m) (mR l c) (ky g N cap a m b ((a+b) / 2) (a)<|m) (ab (mR l c) 272) from bQ))))
theorem aT(mc:Mt [bw k,bU,bu] B)(hC:Cm [bw k,bU,bu] g c n cv)(hr:Rg l n)(hl:N<=1000000)(hN:l.length=N)(ha:a<N)(dq:i<j)(hj:j<=N)(hc:cv (I l<|(i+j) / 2) (I l<|a)<0)(H:aN B Tryz.f41 l' c (dK g N cap a ((i+j) / 2+1) j)<|ab (mR l c) 272):aN B Tryz.f41 l' c (dK g N cap a i j)<|ab (mR l c) 272:=rC mc H (.st 2<|.rg<|.go 2<|.fk (.en<|.st 4<|.rg<|.go 2<|.vl (.int .i64 ((i+j:Nat):Int))<|.vl (.int .u64 ((i+j:Nat):Int))<|.sh<|.vl (.int .i64 (((i+j) / 2:Nat):Int))<|.go 1<|.en<|.st 1<|.rg<|.go 3<|.ix<|.ld [.int .i64<|I (l)<|(i+j) / 2]<|.go 2<|.ix<|.ld [.int .i64<|I (l)<|a]<|.cg (.int .i64<|cv (I l<|(i+j) / 2)<|I l<|a) cG (cQ c)<|.fk (.en<|.st 1<|.rg<|.go 1<|.vl (.int .i64 (((i+j) / 2+1:Nat):Int))<|.go 1<|.en<|.st 2<|.ls (fH g N cap a ((i+j) / 2+1) j) (mR l c) 272 .no) .no) .no)<|av ((i:Int)<(j:Int)) (fun _=>(And.intro (wN ((i:Int)+(j:Int))<|i+j)<|And.intro (hU<|i+j)<|And.intro (show(0:Int)<=1 by decide)<|And.intro (hS<|i+j)<|And.intro (show(0:Int)<=(((i+j) / 2:Nat):Int) by omega)<|And.intro (show(((i+j) / 2:Nat):Int)<((N:Nat):Int) by omega)<|And.intro (fa (l:=l) (k:=(i+j) / 2))<|And.intro (show(0:Int)<=((a:Nat):Int) by omega)<|And.intro (show((a:Nat):Int)<((N:Nat):Int) by omega)<|And.intro (fa (l:=l) (k:=a))<|cm (L:=[bw k,bU,bu]) hC (x:=I l<|(i+j) / 2) (y:=I l<|a) (dz hr<|by omega) (dz hr<|by omega)<|av (cv (I l<|(i+j) / 2) (I l<|a)<0) (fun _=>(And.intro (wN ((((i+j) / 2:Nat):Int)+1)<|(i+j) / 2+1) (show bL (fH g N cap a ((i+j) / 2+1) j) (mR l c) (dK g N cap a ((i+j) / 2+1) j) (ab (mR l c) 272) from bQ))) (fun h=>show False by exact h hc))) (fun h=>show False by omega)
theorem aF(mc:Mt [bw k,bU,bu] B)(hC:Cm [bw k,bU,bu] g c n cv)(hr:Rg l n)(hl:N<=1000000)(hN:l.length=N)(ha:a<N)(dq:i<j)(hj:j<=N)(hc:¬cv (I l<|(i+j) / 2) (I l<|a)<0)(H:aN B Tryz.f41 l' c (dK g N cap a i<|(i+j) / 2)<|ab (mR l c) 272):aN B Tryz.f41 l' c (dK g N cap a i j)<|ab (mR l c) 272:=rC mc H (.st 2<|.rg<|.go 2<|.fk (.en<|.st 4<|.rg<|.go 2<|.vl (.int .i64 ((i+j:Nat):Int))<|.vl (.int .u64 ((i+j:Nat):Int))<|.sh<|.vl (.int .i64 (((i+j) / 2:Nat):Int))<|.go 1<|.en<|.st 1<|.rg<|.go 3<|.ix<|.ld [.int .i64<|I (l)<|(i+j) / 2]<|.go 2<|.ix<|.ld [.int .i64<|I (l)<|a]<|.cg (.int .i64<|cv (I l<|(i+j) / 2)<|I l<|a) cG (cQ c)<|.fk .no<|.en<|.st 4<|.ls (fH g N cap a i<|(i+j) / 2) (mR l c) 272 .no) .no)<|av ((i:Int)<(j:Int)) (fun _=>(And.intro (wN ((i:Int)+(j:Int))<|i+j)<|And.intro (hU<|i+j)<|And.intro (show(0:Int)<=1 by decide)<|And.intro (hS<|i+j)<|And.intro (show(0:Int)<=(((i+j) / 2:Nat):Int) by omega)<|And.intro (show(((i+j) / 2:Nat):Int)<((N:Nat):Int) by omega)<|And.intro (fa (l:=l) (k:=(i+j) / 2))<|And.intro (show(0:Int)<=((a:Nat):Int) by omega)<|And.intro (show((a:Nat):Int)<((N:Nat):Int) by omega)<|And.intro (fa (l:=l) (k:=a))<|cm (L:=[bw k,bU,bu]) hC (x:=I l<|(i+j) / 2) (y:=I l<|a) (dz hr<|by omega) (dz hr<|by omega)<|av (cv (I l<|(i+j) / 2) (I l<|a)<0) (fun h=>show False by exact hc h) fun _=>(show bL (fH g N cap a i<|(i+j) / 2) (mR l c) (dK g N cap a i<|(i+j) / 2) (ab (mR l c) 272) from bQ))) (fun h=>show False by omega)
theorem aE(mc:Mt [bw k,bU,bu] B)(h:j<=i)(H:aN B Tryz.f41 l' c (p8 g N cap i<|a)<|ab (mR l c) 272):aN B Tryz.f41 l' c (dK g N cap a i j)<|ab (mR l c) 272:=rC mc H (.st 2<|.rg<|.go 2<|.fk .no<|.en<|.st 7<|.ls (xP g N cap i<|a) (mR l c) 272 .no)<|av ((i:Int)<(j:Int)) (fun h=>show False by omega) fun _=>(show bL (xP g N cap i<|a) (mR l c) (p8 g N cap i<|a) (ab (mR l c) 272) from bQ)
theorem uE(mc:Mt [bw k,bU,bu] B)(h:i<=q+1)(h1:1<=i)(hi:i<=1000000):aN B Tryz.f41 l c (p8 g N cap i q)<|ab (mR l c) 272:=rS mc (.st 2<|.rg<|.go 2<|.vl (.int .i64 ((i - 1:Nat):Int))<|.fk .no<|.en<|.rt 4<|.no)<|And.intro (wN ((i:Int) - 1)<|i - 1)<|av ((q:Int)<((i - 1:Nat):Int)) (fun h=>show False by omega) fun _=>(show mw l c from nC)
theorem uS(mc:Mt [bw k,bU,bu] B)(hl:N<=1000000)(hN:l.length=N)(h:q+1<i)(hi:i<=N)(H:aN B Tryz.f41 l' c (p8 g N cap i<|q+1)<|ab (mR (swp l q<|q+1) c) 272):aN B Tryz.f41 l' c (p8 g N cap i q)<|ab (mR l c) 272:=rC mc H (.st 2<|.rg<|.go 2<|.vl (.int .i64 ((i - 1:Nat):Int))<|.fk (.en<|.st 4<|.rg<|.go 4<|.vl (.int .i64 ((q+1:Nat):Int))<|.go 2<|.vl (.int .i64 ((q+1:Nat):Int))<|.ix<|.ld [.int .i64<|I (l)<|q+1]<|.go 2<|.ix<|.ld [.int .i64<|I (l)<|q]<|.ix<|.jM (aG aH<|(l).set (q)<|I (l)<|q+1)<|.ix<|.jM (aG aH<|swp (l) (q)<|q+1)<|.en<|.st 1<|.rg<|.go 1<|.vl (.int .i64 ((q+1:Nat):Int))<|.go 1<|.en<|.st 1<|.ls (xP g N cap i<|q+1) (mR (swp l q<|q+1) c) 272 .no) .no)<|And.intro (wN ((i:Int) - 1)<|i - 1)<|av ((q:Int)<((i - 1:Nat):Int)) (fun _=>(And.intro (wN ((q:Int)+1)<|q+1)<|And.intro (wN ((q:Int)+1)<|q+1)<|And.intro (show(0:Int)<=((q+1:Nat):Int) by omega)<|And.intro (show((q+1:Nat):Int)<((N:Nat):Int) by omega)<|And.intro (fa (l:=l) (k:=q+1))<|And.intro (show(0:Int)<=((q:Nat):Int) by omega)<|And.intro (show((q:Nat):Int)<((N:Nat):Int) by omega)<|And.intro (fa (l:=l) (k:=q))<|And.intro (show(0:Int)<=((q:Nat):Int) by omega)<|And.intro (show((q:Nat):Int)<((N:Nat):Int) by omega)<|And.intro (show gW (some<|aG aH<|l) (((q:Nat):Int).toNat*1) [.int .i64<|I (l)<|q+1]=some (aG aH<|(l).set (q)<|I (l)<|q+1) from xI)<|And.intro (show(0:Int)<=((q+1:Nat):Int) by omega)<|And.intro (show((q+1:Nat):Int)<((N:Nat):Int) by omega)<|And.intro (show gW (some<|aG aH<|(l).set (q)<|I (l)<|q+1) (((q+1:Nat):Int).toNat*1) [.int .i64<|I (l)<|q]=some (aG aH<|swp (l) (q)<|q+1) from zW)<|And.intro (wN ((q:Int)+1)<|q+1) (show bL (xP g N cap i<|q+1) (mR (swp l q<|q+1) c) (p8 g N cap i<|q+1) (ab (mR (swp l q<|q+1) c) 272) from bQ))) (fun h=>show False by omega)
theorem bT(mc:Mt [bw k,bU,bu] B)(hC:Cm [bw k,bU,bu] g c n cv)(hr:Rg l n)(hl:N<=1000000)(hN:l.length=N)(hm:m<N)(dq:i<j)(hj:j<=N)(hc:cv (I l<|m) (I l<|(i+j) / 2)<0)(H:aN B Tryz.f41 l' c (nF g N cap m i<|(i+j) / 2)<|ab (mR l c) 272):aN B Tryz.f41 l' c (nF g N cap m i j)<|ab (mR l c) 272:=rC mc H (.st 2<|.rg<|.go 2<|.fk (.en<|.st 4<|.rg<|.go 2<|.vl (.int .i64 ((i+j:Nat):Int))<|.vl (.int .u64 ((i+j:Nat):Int))<|.sh<|.vl (.int .i64 (((i+j) / 2:Nat):Int))<|.go 1<|.en<|.st 1<|.rg<|.go 3<|.ix<|.ld [.int .i64<|I (l)<|m]<|.go 2<|.ix<|.ld [.int .i64<|I (l)<|(i+j) / 2]<|.cg (.int .i64<|cv (I l<|m)<|I l<|(i+j) / 2) cG (cQ c)<|.fk (.go 1<|.en<|.st 4<|.ls (sH g N cap m i<|(i+j) / 2) (mR l c) 272 .no) .no) .no)<|av ((i:Int)<(j:Int)) (fun _=>(And.intro (wN ((i:Int)+(j:Int))<|i+j)<|And.intro (hU<|i+j)<|And.intro (show(0:Int)<=1 by decide)<|And.intro (hS<|i+j)<|And.intro (show(0:Int)<=((m:Nat):Int) by omega)<|And.intro (show((m:Nat):Int)<((N:Nat):Int) by omega)<|And.intro (fa (l:=l) (k:=m))<|And.intro (show(0:Int)<=(((i+j) / 2:Nat):Int) by omega)<|And.intro (show(((i+j) / 2:Nat):Int)<((N:Nat):Int) by omega)<|And.intro (fa (l:=l) (k:=(i+j) / 2))<|cm (L:=[bw k,bU,bu]) hC (x:=I l<|m) (y:=I l<|(i+j) / 2) (dz hr<|by omega) (dz hr<|by omega)<|av (cv (I l<|m) (I l<|(i+j) / 2)<0) (fun _=>(show bL (sH g N cap m i<|(i+j) / 2) (mR l c) (nF g N cap m i<|(i+j) / 2) (ab (mR l c) 272) from bQ)) (fun h=>show False by exact h hc))) (fun h=>show False by omega)
theorem bF(mc:Mt [bw k,bU,bu] B)(hC:Cm [bw k,bU,bu] g c n cv)(hr:Rg l n)(hl:N<=1000000)(hN:l.length=N)(hm:m<N)(dq:i<j)(hj:j<=N)(hc:¬cv (I l<|m) (I l<|(i+j) / 2)<0)(H:aN B Tryz.f41 l' c (nF g N cap m ((i+j) / 2+1) j)<|ab (mR l c) 272):aN B Tryz.f41 l' c (nF g N cap m i j)<|ab (mR l c) 272:=rC mc H (.st 2<|.rg<|.go 2<|.fk (.en<|.st 4<|.rg<|.go 2<|.vl (.int .i64 ((i+j:Nat):Int))<|.vl (.int .u64 ((i+j:Nat):Int))<|.sh<|.vl (.int .i64 (((i+j) / 2:Nat):Int))<|.go 1<|.en<|.st 1<|.rg<|.go 3<|.ix<|.ld [.int .i64<|I (l)<|m]<|.go 2<|.ix<|.ld [.int .i64<|I (l)<|(i+j) / 2]<|.cg (.int .i64<|cv (I l<|m)<|I l<|(i+j) / 2) cG (cQ c)<|.fk .no<|.go 1<|.en<|.st 1<|.rg<|.go 1<|.vl (.int .i64 (((i+j) / 2+1:Nat):Int))<|.go 1<|.en<|.st 2<|.ls (sH g N cap m ((i+j) / 2+1) j) (mR l c) 272 .no) .no)<|av ((i:Int)<(j:Int)) (fun _=>(And.intro (wN ((i:Int)+(j:Int))<|i+j)<|And.intro (hU<|i+j)<|And.intro (show(0:Int)<=1 by decide)<|And.intro (hS<|i+j)<|And.intro (show(0:Int)<=((m:Nat):Int) by omega)<|And.intro (show((m:Nat):Int)<((N:Nat):Int) by omega)<|And.intro (fa (l:=l) (k:=m))<|And.intro (show(0:Int)<=(((i+j) / 2:Nat):Int) by omega)<|And.intro (show(((i+j) / 2:Nat):Int)<((N:Nat):Int) by omega)<|And.intro (fa (l:=l) (k:=(i+j) / 2))<|cm (L:=[bw k,bU,bu]) hC (x:=I l<|m) (y:=I l<|(i+j) / 2) (dz hr<|by omega) (dz hr<|by omega)<|av (cv (I l<|m) (I l<|(i+j) / 2)<0) (fun h=>show False by exact hc h) fun _=>(And.intro (wN ((((i+j) / 2:Nat):Int)+1)<|(i+j) / 2+1) (show bL (sH g N cap m ((i+j) / 2+1) j) (mR l c) (nF g N cap m ((i+j) / 2+1) j) (ab (mR l c) 272) from bQ)))) (fun h=>show False by omega)
theorem bE(mc:Mt [bw k,bU,bu] B)(h:j<=i)(H:aN B Tryz.f41 l' c (gB g N cap i<|m)<|ab (mR l c) 272):aN B Tryz.f41 l' c (nF g N cap m i j)<|ab (mR l c) 272:=rC mc H (.st 2<|.rg<|.go 2<|.fk .no<|.en<|.st 7<|.ls (kx g N cap i<|m) (mR l c) 272 .no)<|av ((i:Int)<(j:Int)) (fun h=>show False by omega) fun _=>(show bL (kx g N cap i<|m) (mR l c) (gB g N cap i<|m) (ab (mR l c) 272) from bQ)
theorem dE(mc:Mt [bw k,bU,bu] B)(h:q<=i):aN B Tryz.f41 l c (gB g N cap i q)<|ab (mR l c) 272:=rS mc (.st 2<|.rg<|.go 2<|.fk .no<|.en<|.rt 4<|.no)<|av ((q:Int)>(i:Int)) (fun h=>show False by omega) fun _=>(show mw l c from nC)
theorem dS(mc:Mt [bw k,bU,bu] B)(hl:N<=1000000)(hN:l.length=N)(h:i<q)(hi:q<N)(H:aN B Tryz.f41 l' c (gB g N cap i<|q - 1)<|ab (mR (swp l q<|q - 1) c) 272):aN B Tryz.f41 l' c (gB g N cap i q)<|ab (mR l c) 272:=rC mc H (.st 2<|.rg<|.go 2<|.fk (.en<|.st 4<|.rg<|.go 4<|.vl (.int .i64 ((q - 1:Nat):Int))<|.go 2<|.vl (.int .i64 ((q - 1:Nat):Int))<|.ix<|.ld [.int .i64<|I (l)<|q - 1]<|.go 2<|.ix<|.ld [.int .i64<|I (l)<|q]<|.ix<|.jM (aG aH<|(l).set (q)<|I (l)<|q - 1)<|.ix<|.jM (aG aH<|swp (l) (q)<|q - 1)<|.en<|.st 1<|.rg<|.go 1<|.vl (.int .i64 ((q - 1:Nat):Int))<|.go 1<|.en<|.st 1<|.ls (kx g N cap i<|q - 1) (mR (swp l q<|q - 1) c) 272 .no) .no)<|av ((q:Int)>(i:Int)) (fun _=>(And.intro (wN ((q:Int) - 1)<|q - 1)<|And.intro (wN ((q:Int) - 1)<|q - 1)<|And.intro (show(0:Int)<=((q - 1:Nat):Int) by omega)<|And.intro (show((q - 1:Nat):Int)<((N:Nat):Int) by omega)<|And.intro (fa (l:=l) (k:=q - 1))<|And.intro (show(0:Int)<=((q:Nat):Int) by omega)<|And.intro (show((q:Nat):Int)<((N:Nat):Int) by omega)<|And.intro (fa (l:=l) (k:=q))<|And.intro (show(0:Int)<=((q:Nat):Int) by omega)<|And.intro (show((q:Nat):Int)<((N:Nat):Int) by omega)<|And.intro (show gW (some<|aG aH<|l) (((q:Nat):Int).toNat*1) [.int .i64<|I (l)<|q - 1]=some (aG aH<|(l).set (q)<|I (l)<|q - 1) from xI)<|And.intro (show(0:Int)<=((q - 1:Nat):Int) by omega)<|And.intro (show((q - 1:Nat):Int)<((N:Nat):Int) by omega)<|And.intro (show gW (some<|aG aH<|(l).set (q)<|I (l)<|q - 1) (((q - 1:Nat):Int).toNat*1) [.int .i64<|I (l)<|q]=some (aG aH<|swp (l) (q)<|q - 1) from zW)<|And.intro (wN ((q:Int) - 1)<|q - 1) (show bL (kx g N cap i<|q - 1) (mR (swp l q<|q - 1) c) (gB g N cap i<|q - 1) (ab (mR (swp l q<|q - 1) c) 272) from bQ))) (fun h=>show False by omega)
theorem cT(mc:Mt [bw k,bU,bu] B)(hC:Cm [bw k,bU,bu] g c n cv)(hr:Rg l n)(hl:N<=1000000)(hN:l.length=N)(Se:st<r)(h1:r<=N)(h2:(st+r) / 2<=md+m - 1)(h3:md+m - 1 - ((st+r) / 2)<N)(hc:cv (I l<|md+m - 1 - ((st+r) / 2)) (I l<|(st+r) / 2)<0)(H:aN B Tryz.f41 l' c (ky g N cap a m b md st<|(st+r) / 2)<|ab (mR l c) 272):aN B Tryz.f41 l' c (ky g N cap a m b md st r)<|ab (mR l c) 272:=rC mc H (.st 2<|.rg<|.go 2<|.fk (.en<|.st 4<|.rg<|.go 2<|.vl (.int .i64 ((st+r:Nat):Int))<|.vl (.int .u64 ((st+r:Nat):Int))<|.sh<|.vl (.int .i64 (((st+r) / 2:Nat):Int))<|.go 1<|.en<|.st 1<|.rg<|.go 4<|.vl (.int .i64 ((md+m - 1 - ((st+r) / 2):Nat):Int))<|.ix<|.ld [.int .i64<|I (l)<|md+m - 1 - ((st+r) / 2)]<|.go 2<|.ix<|.ld [.int .i64<|I (l)<|(st+r) / 2]<|.cg (.int .i64<|cv (I l<|md+m - 1 - ((st+r) / 2))<|I l<|(st+r) / 2) cG (cQ c)<|.fk (.go 1<|.en<|.st 4<|.ls (oT g N cap a m b md st<|(st+r) / 2) (mR l c) 272 .no) .no) .no)<|av ((st:Int)<(r:Int)) (fun _=>(And.intro (wN ((st:Int)+(r:Int))<|st+r)<|And.intro (hU<|st+r)<|And.intro (show(0:Int)<=1 by decide)<|And.intro (hS<|st+r)<|And.intro (wN (((md+m - 1:Nat):Int) - (((st+r) / 2:Nat):Int))<|md+m - 1 - ((st+r) / 2))<|And.intro (show(0:Int)<=((md+m - 1 - ((st+r) / 2):Nat):Int) by omega)<|And.intro (show((md+m - 1 - ((st+r) / 2):Nat):Int)<((N:Nat):Int) by omega)<|And.intro (fa (l:=l) (k:=md+m - 1 - ((st+r) / 2)))<|And.intro (show(0:Int)<=(((st+r) / 2:Nat):Int) by omega)<|And.intro (show(((st+r) / 2:Nat):Int)<((N:Nat):Int) by omega)<|And.intro (fa (l:=l) (k:=(st+r) / 2))<|cm (L:=[bw k,bU,bu]) hC (x:=I l<|md+m - 1 - ((st+r) / 2)) (y:=I l<|(st+r) / 2) (dz hr<|by omega) (dz hr<|by omega)<|av (cv (I l<|md+m - 1 - ((st+r) / 2)) (I l<|(st+r) / 2)<0) (fun _=>(show bL (oT g N cap a m b md st<|(st+r) / 2) (mR l c) (ky g N cap a m b md st<|(st+r) / 2) (ab (mR l c) 272) from bQ)) (fun h=>show False by exact h hc))) (fun h=>show False by omega)
theorem cF(mc:Mt [bw k,bU,bu] B)(hC:Cm [bw k,bU,bu] g c n cv)(hr:Rg l n)(hl:N<=1000000)(hN:l.length=N)(Se:st<r)(h1:r<=N)(h2:(st+r) / 2<=md+m - 1)(h3:md+m - 1 - ((st+r) / 2)<N)(hc:¬cv (I l<|md+m - 1 - ((st+r) / 2)) (I l<|(st+r) / 2)<0)(H:aN B Tryz.f41 l' c (ky g N cap a m b md ((st+r) / 2+1) r)<|ab (mR l c) 272):aN B Tryz.f41 l' c (ky g N cap a m b md st r)<|ab (mR l c) 272:=rC mc H (.st 2<|.rg<|.go 2<|.fk (.en<|.st 4<|.rg<|.go 2<|.vl (.int .i64 ((st+r:Nat):Int))<|.vl (.int .u64 ((st+r:Nat):Int))<|.sh<|.vl (.int .i64 (((st+r) / 2:Nat):Int))<|.go 1<|.en<|.st 1<|.rg<|.go 4<|.vl (.int .i64 ((md+m - 1 - ((st+r) / 2):Nat):Int))<|.ix<|.ld [.int .i64<|I (l)<|md+m - 1 - ((st+r) / 2)]<|.go 2<|.ix<|.ld [.int .i64<|I (l)<|(st+r) / 2]<|.cg (.int .i64<|cv (I l<|md+m - 1 - ((st+r) / 2))<|I l<|(st+r) / 2) cG (cQ c)<|.fk .no<|.go 1<|.en<|.st 1<|.rg<|.go 1<|.vl (.int .i64 (((st+r) / 2+1:Nat):Int))<|.go 1<|.en<|.st 2<|.ls (oT g N cap a m b md ((st+r) / 2+1) r) (mR l c) 272 .no) .no)<|av ((st:Int)<(r:Int)) (fun _=>(And.intro (wN ((st:Int)+(r:Int))<|st+r)<|And.intro (hU<|st+r)<|And.intro (show(0:Int)<=1 by decide)<|And.intro (hS<|st+r)<|And.intro (wN (((md+m - 1:Nat):Int) - (((st+r) / 2:Nat):Int))<|md+m - 1 - ((st+r) / 2))<|And.intro (show(0:Int)<=((md+m - 1 - ((st+r) / 2):Nat):Int) by omega)<|And.intro (show((md+m - 1 - ((st+r) / 2):Nat):Int)<((N:Nat):Int) by omega)<|And.intro (fa (l:=l) (k:=md+m - 1 - ((st+r) / 2)))<|And.intro (show(0:Int)<=(((st+r) / 2:Nat):Int) by omega)<|And.intro (show(((st+r) / 2:Nat):Int)<((N:Nat):Int) by omega)<|And.intro (fa (l:=l) (k:=(st+r) / 2))<|cm (L:=[bw k,bU,bu]) hC (x:=I l<|md+m - 1 - ((st+r) / 2)) (y:=I l<|(st+r) / 2) (dz hr<|by omega) (dz hr<|by omega)<|av (cv (I l<|md+m - 1 - ((st+r) / 2)) (I l<|(st+r) / 2)<0) (fun h=>show False by exact hc h) fun _=>(And.intro (wN ((((st+r) / 2:Nat):Int)+1)<|(st+r) / 2+1) (show bL (oT g N cap a m b md ((st+r) / 2+1) r) (mR l c) (ky g N cap a m b md ((st+r) / 2+1) r) (ab (mR l c) 272) from bQ)))) (fun h=>show False by omega)
theorem cE(mc:Mt [bw k,bU,bu] B)(h:r<=st)(H:aN B Tryz.f41 l' c (uT g N cap a m b md st)<|ab (mR l c) 272):aN B Tryz.f41 l' c (ky g N cap a m b md st r)<|ab (mR l c) 272:=rC mc H (.st 2<|.rg<|.go 2<|.fk .no<|.en<|.st 2<|.ls (Ei g N cap a m b md st) (mR l c) 272 .no)<|av ((st:Int)<(r:Int)) (fun h=>show False by omega) fun _=>(show bL (Ei g N cap a m b md st) (mR l c) (uT g N cap a m b md st) (ab (mR l c) 272) from bQ)
theorem p1(mc:Mt [bw k,bU,bu] B)(h0:st<=md+m)(hn:md+m<=2000000)(h:¬st<m)(H:aN B Tryz.f41 l' c (nH g N cap a b md st<|md+m - st)<|ab (mR l c) 272):aN B Tryz.f41 l' c (uT g N cap a m b md st)<|ab (mR l c) 272:=rC mc H (.st 1<|.rg<|.go 2<|.vl (.int .i64 ((md+m - st:Nat):Int))<|.go 1<|.en<|.st 2<|.rg<|.go 2<|.fk .no<|.go 5<|.en<|.st 2<|.ls (sI g N cap a b md st<|md+m - st) (mR l c) 272 .no)<|And.intro (wN (((md+m:Nat):Int) - (st:Int))<|md+m - st)<|av ((st:Int)<(m:Int)) (fun h=>show False by omega) fun _=>(show bL (sI g N cap a b md st<|md+m - st) (mR l c) (nH g N cap a b md st<|md+m - st) (ab (mR l c) 272) from bQ)
theorem p2(mc:Mt [bw k,bU,bu] B)(h0:st<=md+m)(hn:md+m<=2000000)(h1:st<m)(h:¬m<md+m - st)(H:aN B Tryz.f41 l' c (nH g N cap a b md st<|md+m - st)<|ab (mR l c) 272):aN B Tryz.f41 l' c (uT g N cap a m b md st)<|ab (mR l c) 272:=rC mc H (.st 1<|.rg<|.go 2<|.vl (.int .i64 ((md+m - st:Nat):Int))<|.go 1<|.en<|.st 2<|.rg<|.go 2<|.fk (.go 3<|.fk .no<|.go 1<|.en<|.st 2<|.ls (sI g N cap a b md st<|md+m - st) (mR l c) 272 .no) .no)<|And.intro (wN (((md+m:Nat):Int) - (st:Int))<|md+m - st)<|av ((st:Int)<(m:Int)) (fun _=>(av ((m:Int)<((md+m - st:Nat):Int)) (fun h=>show False by omega) fun _=>(show bL (sI g N cap a b md st<|md+m - st) (mR l c) (nH g N cap a b md st<|md+m - st) (ab (mR l c) 272) from bQ))) (fun h=>show False by omega)
theorem p3(mc:Mt [bw k,bU,bu] B)(h0:st<=md+m)(hn:md+m<=2000000)(hc:c.bV=true)(hl:N<=1000000)(hN:l.length=N)(hb:md+m - st<=N)(h1:st<m)(h2:m<md+m - st)(h:bS l st m (md+m - st) l1)(H:aN B Tryz.f41 l' c (nH g N cap a b md st<|md+m - st)<|ab (mR l1 c) 272):aN B Tryz.f41 l' c (uT g N cap a m b md st)<|ab (mR l c) 272:=rC mc H (.st 1<|.rg<|.go 2<|.vl (.int .i64 ((md+m - st:Nat):Int))<|.go 1<|.en<|.st 2<|.rg<|.go 2<|.fk (.go 3<|.fk (.go 1<|.en<|.st 1<|.rg<|.go 5<|.cg (.tuple []) (lG<|l1) (lQ (l) c)<|.en<|.ls (sI g N cap a b md st<|md+m - st) (mR l1 c) 272 .no) .no) .no)<|And.intro (wN (((md+m:Nat):Int) - (st:Int))<|md+m - st)<|av ((st:Int)<(m:Int)) (fun _=>(av ((m:Int)<((md+m - st:Nat):Int)) (fun _=>(lL (L:=[bw k,bU,bu]) (f:=67) (by as_aux_lemma=>kernel_rfl) zX.bf (N:=N) (cap:=cap) (is:=[((st:Nat):Int),((m:Nat):Int),((md+m - st:Nat):Int)]) (g:=g) hc ⟨N,cap,st,m,md+m - st,g,c,l,l1,rfl,rfl,rfl,rfl,hc,hN,hl,h1,h2,by omega,h⟩ (by omega) h.len (show bL (sI g N cap a b md st<|md+m - st) (mR l1 c) (nH g N cap a b md st<|md+m - st) (ab (mR l1 c) 272) from bQ))) (fun h=>show False by omega))) (fun h=>show False by omega)
theorem q1(mc:Mt [bw k,bU,bu] B)(h:¬a<st)(H:aN B Tryz.f41 l' c (gD g N cap b md e)<|ab (mR l c) 272):aN B Tryz.f41 l' c (nH g N cap a b md st e)<|ab (mR l c) 272:=rC mc H (.st 2<|.rg<|.go 2<|.fk .no<|.go 5<|.en<|.st 2<|.ls (gC g N cap b md e) (mR l c) 272 .no)<|av ((a:Int)<(st:Int)) (fun h=>show False by omega) fun _=>(show bL (gC g N cap b md e) (mR l c) (gD g N cap b md e) (ab (mR l c) 272) from bQ)
theorem q2(mc:Mt [bw k,bU,bu] B)(h1:a<st)(h:¬st<md)(H:aN B Tryz.f41 l' c (gD g N cap b md e)<|ab (mR l c) 272):aN B Tryz.f41 l' c (nH g N cap a b md st e)<|ab (mR l c) 272:=rC mc H (.st 2<|.rg<|.go 2<|.fk (.go 3<|.fk .no<|.go 1<|.en<|.st 2<|.ls (gC g N cap b md e) (mR l c) 272 .no) .no)<|av ((a:Int)<(st:Int)) (fun _=>(av ((st:Int)<(md:Int)) (fun h=>show False by omega) fun _=>(show bL (gC g N cap b md e) (mR l c) (gD g N cap b md e) (ab (mR l c) 272) from bQ))) (fun h=>show False by omega)
theorem q3(mc:Mt [bw k,bU,bu] B)(cA:CI g c n cv)(hr:Rg l n)(hl:N<=1000000)(hN:l.length=N)(h1:a<st)(h2:st<md)(hb:md<=N)(hk:md - a<k)(s1:b7 cv l a st)(s2:b7 cv l st md)(h:bG cv l a md l1)(H:aN B Tryz.f41 l' c (gD g N cap b md e)<|ab (mR l1 c) 272):aN B Tryz.f41 l' c (nH g N cap a b md st e)<|ab (mR l c) 272:=rC mc H (.st 2<|.rg<|.go 2<|.fk (.go 3<|.fk (.go 1<|.en<|.st 1<|.rg<|.go 5<|.cg (.tuple []) (lG<|l1) (lQ (l) c)<|.en<|.ls (gC g N cap b md e) (mR l1 c) 272 .no) .no) .no)<|av ((a:Int)<(st:Int)) (fun _=>(av ((st:Int)<(md:Int)) (fun _=>(lL (L:=[bw k,bU,bu]) (f:=41) (by as_aux_lemma=>kernel_rfl) (rI.bf k) (N:=N) (cap:=cap) (is:=[((a:Nat):Int),((st:Nat):Int),((md:Nat):Int)]) (g:=g) cA.hi ⟨N,cap,a,st,md,g,c,n,cv,l,l1,rfl,rfl,rfl,rfl,cA,hr,hN,hl,h1,h2,hb,hk,s1,s2,h⟩ (by omega) h.len (show bL (gC g N cap b md e) (mR l1 c) (gD g N cap b md e) (ab (mR l1 c) 272) from bQ))) (fun h=>show False by omega))) (fun h=>show False by omega)
theorem r1(mc:Mt [bw k,bU,bu] B)(h:¬md<e):aN B Tryz.f41 l c (gD g N cap b md e)<|ab (mR l c) 272:=rS mc (.st 1<|.rg<|.go 2<|.fk .no<|.go 5<|.en<|.rt 4<|.no)<|av ((md:Int)<(e:Int)) (fun h=>show False by omega) fun _=>(show mw l c from nC)
theorem r2(mc:Mt [bw k,bU,bu] B)(h1:md<e)(h:¬e<b):aN B Tryz.f41 l c (gD g N cap b md e)<|ab (mR l c) 272:=rS mc (.st 1<|.rg<|.go 2<|.fk (.go 3<|.fk .no<|.go 1<|.en<|.rt 4<|.no) .no)<|av ((md:Int)<(e:Int)) (fun _=>(av ((e:Int)<(b:Int)) (fun h=>show False by omega) fun _=>(show mw l c from nC))) (fun h=>show False by omega)
theorem r3(mc:Mt [bw k,bU,bu] B)(cA:CI g c n cv)(hr:Rg l n)(hl:N<=1000000)(hN:l.length=N)(h1:md<e)(h2:e<b)(hb:b<=N)(hk:b - md<k)(s1:b7 cv l md e)(s2:b7 cv l e b)(h:bG cv l md b l1):aN B Tryz.f41 l1 c (gD g N cap b md e)<|ab (mR l c) 272:=rS mc (.st 1<|.rg<|.go 2<|.fk (.go 3<|.fk (.go 1<|.en<|.st 1<|.rg<|.go 5<|.cg (.tuple []) (lG<|l1) (lQ (l) c)<|.en<|.rt 2<|.no) .no) .no)<|av ((md:Int)<(e:Int)) (fun _=>(av ((e:Int)<(b:Int)) (fun _=>(lL (L:=[bw k,bU,bu]) (f:=41) (by as_aux_lemma=>kernel_rfl) (rI.bf k) (N:=N) (cap:=cap) (is:=[((md:Nat):Int),((e:Nat):Int),((b:Nat):Int)]) (g:=g) cA.hi ⟨N,cap,md,e,b,g,c,n,cv,l,l1,rfl,rfl,rfl,rfl,cA,hr,hN,hl,h1,h2,hb,hk,s1,s2,h⟩ (by omega) h.len (show mw l1 c from nC))) (fun h=>show False by omega))) (fun h=>show False by omega)
end
end rH
end
section
open Go Go.Rn Go.RowKit Go.Proofs
namespace wg
open dP eg fq fO mg uo rH
section
variable {B:aC} {g:FuncId} {c:AV} {n:Int} {cv:Int->Int->Int} {k N a m b:Nat} {cap:bc} {l0 l':List Int}
theorem Io(mc:Mt [bw k,bU,bu] B)(hl:N<=1000000)(hN:l0.length=N){i:Nat}(hi:i<=N)(h':bS l0 a (a+1) i l'):∀(r q:Nat) (l:List Int),i - (q+1)=r->a<=q->q+1<=i->bS l0 a (a+1) (q+1) l->aN B Tryz.f41 l' c (p8 g N cap i q) (ab (mR l c) 272)
 |0,q,l,h,h1,h2,h3=>by
  obtain rfl:i=q+1:=by omega
  rw[h'.bf h3];exact uE mc (by omega) (by omega) (by omega)
 |r+1,q,l,h,h1,h2,h3=>by have e:=h3.len;exact uS mc hl (by omega) (by omega) hi (Io mc hl hN hi h' r (q+1) _ (by omega) (by omega) (by omega)<|h3.up h1<|by omega)
theorem Hr(mc:Mt [bw k,bU,bu] B)(hl:N<=1000000)(hN:l0.length=N)(hm:m<N){i:Nat}(h':bS l0 i m (m+1) l'):∀(r q:Nat) (l:List Int),q - i=r->i<=q->q<=m->bS l0 q m (m+1) l->aN B Tryz.f41 l' c (gB g N cap i q) (ab (mR l c) 272)
 |0,q,l,h,h1,h2,h3=>by
  obtain rfl:i=q:=by omega
  rw[h'.bf h3];exact dE mc (by omega)
 |r+1,q,l,h,h1,h2,h3=>by have e:=h3.len;have hd:=bS.down (l:=l0) (l':=l) (k:=q - 1) (m:=m) (by rw[show q - 1+1=q by omega];exact h3) (by omega) (by omega);rw[show q - 1+1=q by omega] at hd;exact dS mc hl (by omega) (by omega) (by omega)<|Hr mc hl hN hm h' r (q - 1) _ (by omega) (by omega) (by omega) hd
def pA(cv:Int->Int->Int)(l:List Int)(a h:Nat):Bool:=decide<|cv (I l h) (I l a)<0
def pB(cv:Int->Int->Int)(l:List Int)(m h:Nat):Bool:= !decide (cv (I l m) (I l h)<0)
theorem uu(mc:Mt [bw k,bU,bu] B)(hC:Cm [bw k,bU,bu] g c n cv){l:List Int}(hr:Rg l n)(hl:N<=1000000)(hN:l.length=N)(ha:a<N):∀(f i j:Nat),j - i<=f->j<=N->aN B Tryz.f41 l' c (p8 g N cap (gK (pA cv l a) f i j) a) (ab (mR l c) 272)->aN B Tryz.f41 l' c (dK g N cap a i j) (ab (mR l c) 272)
 |0,i,j,h,hj,H=>aE mc (by omega) H
 |f+1,i,j,h,hj,H=>by
  unfold gK at H;by_cases q:i<j
  ·rw[if_pos q] at H;by_cases q2:cv (I l<|(i+j) / 2) (I l a)<0
   ·rw[show pA cv l a ((i+j) / 2)=true from decide_eq_true q2,if_pos rfl] at H;exact aT mc hC hr hl hN ha q hj q2<|uu mc hC hr hl hN ha f _ j (by omega) hj H
   ·rw[show pA cv l a ((i+j) / 2)=false from decide_eq_false q2,if_neg (by intro h;cases h)] at H;exact aF mc hC hr hl hN ha q hj q2<|uu mc hC hr hl hN ha f i _ (by omega) (by omega) H
  ·rw[if_neg q] at H;exact aE mc (by omega) H
theorem Ds(mc:Mt [bw k,bU,bu] B)(hC:Cm [bw k,bU,bu] g c n cv){l:List Int}(hr:Rg l n)(hl:N<=1000000)(hN:l.length=N)(hm:m<N):∀(f i j:Nat),j - i<=f->j<=N->aN B Tryz.f41 l' c (gB g N cap (gK (pB cv l m) f i j) m) (ab (mR l c) 272)->aN B Tryz.f41 l' c (nF g N cap m i j) (ab (mR l c) 272)
 |0,i,j,h,hj,H=>bE mc (by omega) H
 |f+1,i,j,h,hj,H=>by
  unfold gK at H;by_cases q:i<j
  ·rw[if_pos q] at H;by_cases q2:cv (I l m) (I l<|(i+j) / 2)<0
   ·rw[show pB cv l m ((i+j) / 2)=false by unfold pB;rw[decide_eq_true q2];rfl,if_neg (by intro h;cases h)] at H;exact bT mc hC hr hl hN hm q hj q2<|Ds mc hC hr hl hN hm f i _ (by omega) (by omega) H
   ·rw[show pB cv l m ((i+j) / 2)=true by unfold pB;rw[decide_eq_false q2];rfl,if_pos rfl] at H;exact bF mc hC hr hl hN hm q hj q2<|Ds mc hC hr hl hN hm f _ j (by omega) hj H
  ·rw[if_neg q] at H;exact bE mc (by omega) H
theorem Dt(mc:Mt [bw k,bU,bu] B)(hC:Cm [bw k,bU,bu] g c n cv){l:List Int}{md:Nat}(hr:Rg l n)(hl:N<=1000000)(hN:l.length=N):∀(f i j:Nat),j - i<=f->j<=N->(∀h,i<=h->h<j->h<=md+m - 1/\md+m - 1 - h<N)->aN B Tryz.f41 l' c (uT g N cap a m b md<|gK (ki cv l<|md+m - 1) f i j) (ab (mR l c) 272)->aN B Tryz.f41 l' c (ky g N cap a m b md i j) (ab (mR l c) 272)
 |0,i,j,h,hj,hh,H=>cE mc (by omega) H
 |f+1,i,j,h,hj,hh,H=>by
  unfold gK at H;by_cases q:i<j
  ·rw[if_pos q] at H;obtain⟨k1,k2⟩:=hh ((i+j) / 2) (by omega) (by omega);by_cases q2:cv (I l<|md+m - 1 - (i+j) / 2) (I l<|(i+j) / 2)<0
   ·rw[show ki cv l (md+m - 1) ((i+j) / 2)=false by unfold ki;rw[decide_eq_true q2];rfl,if_neg (by intro h;cases h)] at H;exact cT mc hC hr hl hN q hj k1 k2 q2<|Dt mc hC hr hl hN f i _ (by omega) (by omega) (fun h a1 a2=>hh h a1<|by omega) H
   ·rw[show ki cv l (md+m - 1) ((i+j) / 2)=true by unfold ki;rw[decide_eq_false q2];rfl,if_pos rfl] at H;exact cF mc hC hr hl hN q hj k1 k2 q2<|Dt mc hC hr hl hN f _ j (by omega) hj (fun h a1 a2=>hh h (by omega) a2) H
  ·rw[if_neg q] at H;exact cE mc (by omega) H
end
section
variable {B:aC} {g:FuncId} {c:AV} {n:Int} {cv:Int->Int->Int} {k N a m b:Nat} {cap:bc} {l l':List Int}
theorem bG.ex(o:Ord cv n)(hr:Rg l n):∀{b:Nat},a<=b->b<=l.length->∃l',bG cv l a b l'
 |0,h1,h2=>⟨l,bG.refl fun i j k1 k2 k3=>by omega⟩
 |b+1,h1,h2=>by
  by_cases q:a=b+1
  ·exact⟨l,bG.refl fun i j k1 k2 k3=>by omega⟩
  obtain⟨l1,h⟩:=bG.ex o hr (b:=b) (by omega) (by omega);have e:=h.len;have ny:=hr.perm h.pm;have mono:∀x y,a<=x->x<y->y<b->pB cv l1 b y=true->pB cv l1 b x=true:=fun x y k1 k2 k3 k4=>by
   have k4:Lq cv (I l1 y)<|I l1 b:=by simpa[pB] using k4
   have:=Lq.nB o ny (by omega) (by omega) (by omega) (h.ks x y k1 k2 k3) k4;simpa[pB] using this
  obtain⟨r1,r2,r3,r4⟩:=tj mono (b - a) a b (Nat.le_refl _) (by omega) (Nat.le_refl _) (Nat.le_refl _) (fun k h1 h2=>by omega) (fun k h1 h2=>by omega);obtain⟨l2,jI⟩:=bS.ex (l:=l1) (a:=gK (pB cv l1 b) (b - a) a b) (m:=b) (b:=b+1) (by omega) (by omega) (by omega);have:=y5 o ny (by omega) r1 r2 h.ks (fun k k1 k2=>by have:=r3 k k1 k2;simpa[pB] using this) (fun k k1 k2=>by have:=r4 k k1 k2;exact Lq.of o (dz ny<|by omega) (dz ny<|by omega)<|by simpa[pB] using this) jI;exact⟨l2,this.pm.trans h.pm,fun i hi=>by rw[this.out i hi,h.out i<|by omega],this.ks⟩
theorem OS(mc:Mt [bw k,bU,bu] B)(cA:CI g c n cv)(hr:Rg l n)(hl:N<=1000000)(hN:l.length=N)(ha:a<m)(hb:m<b)(Jq:b<=N)(hk:b - a<k+1)(sA:b7 cv l a m)(sB:b7 cv l m b)(h':bG cv l a b l'):
    aN B Tryz.f41 l' c ⟨41,bt [.slice (some (270,0)) N cap,.int .i64 (a:Int),.int .i64 (m:Int),.int .i64 (b:Int),dv g],(max Tryz.f41.ntmps 5),[.code<|aJ Tryz.prog 41 []],[],none⟩ (ab (mR l c) 272):=by
  have o:=cA.ord
  have hC:Cm [bw k,bU,bu] g c n cv:=cA.cm (by as_aux_lemma=>kernel_rfl)
  have fin:∀l2,bG cv l a b l2->l'=l2:=fun l2 h=>h'.bf o hr (by omega) (by omega) h
  by_cases qa:m=a+1
  · 
    subst qa
    have mono:∀x y,a+1<=x->x<y->y<b->pA cv l a y=true->pA cv l a x=true:=fun x y k1 k2 k3 k4=>by
      have k4:cv (I l y) (I l a)<0:=by simpa[pA] using k4
      have k5:cv (I l x) (I l a)<0:=Classical.byContradiction fun q=>by
        have:=Lq.nB o hr (i:=a) (j:=x) (k:=y) (by omega) (by omega) (by omega) q<|sB x y k1 k2 k3
        exact this k4
      simpa[pA] using k5
    obtain⟨r1,r2,r3,r4⟩:=tj mono (b - (a+1)) (a+1) b (Nat.le_refl _) (by omega) (Nat.le_refl _) (Nat.le_refl _) (fun k h1 h2=>by omega) (fun k h1 h2=>by omega)
    obtain⟨l2,h2⟩:=bS.ex (l:=l) (a:=a) (m:=a+1) (b:=gK (pA cv l a) (b - (a+1)) (a+1) b) (by omega) r1 (by omega)
    have h3:=NL o hr (by omega) r1 r2 sB (fun k k1 k2=>Lq.of o (dz hr<|by omega) (dz hr<|by omega) (by have:=r3 k k1 k2;simpa[pA] using this)) (fun k k1 k2=>by have:=r4 k k1 k2;simpa[pA] using this) h2
    rw[fin l2 h3]
    exact wA mc ha hb (by omega) rfl<|uu mc hC hr hl hN (by omega) (b - (a+1)) (a+1) b (Nat.le_refl _) Jq<|Io mc hl hN (by omega) h2 _ a l rfl (Nat.le_refl _) r1<|bS.Ih l a<|a+1
  by_cases qb:b=m+1
  · subst qb
    have mono:∀x y,a<=x->x<y->y<m->pB cv l m y=true->pB cv l m x=true:=fun x y k1 k2 k3 k4=>by
      have k4:Lq cv (I l y)<|I l m:=by simpa[pB] using k4
      have:=Lq.nB o hr (by omega) (by omega) (by omega) (sA x y k1 k2 k3) k4
      simpa[pB] using this
    obtain⟨r1,r2,r3,r4⟩:=tj mono (m - a) a m (Nat.le_refl _) (by omega) (Nat.le_refl _) (Nat.le_refl _) (fun k h1 h2=>by omega) (fun k h1 h2=>by omega)
    obtain⟨l2,h2⟩:=bS.ex (l:=l) (a:=gK (pB cv l m) (m - a) a m) (m:=m) (b:=m+1) r2 (by omega) (by omega)
    have h3:=y5 o hr (by omega) r1 r2 sA (fun k k1 k2=>by have:=r3 k k1 k2;simpa[pB] using this) (fun k k1 k2=>by
      have:=r4 k k1 k2
      exact Lq.of o (dz hr<|by omega) (dz hr<|by omega)<|by simpa[pB] using this) h2
    rw[fin l2 h3]
    exact wB mc ha hb (by omega) qa rfl<|Ds mc hC hr hl hN (by omega) (m - a) a m (Nat.le_refl _) (by omega)<|Hr mc hl hN (by omega) h2 _ m l rfl r2 (Nat.le_refl _)<|bS.CZ l m<|m+1
  have key:∀lo hi:Nat,lo=(if m>(a+b) / 2 then(a+b) / 2+m - b else a)->hi=(if m>(a+b) / 2 then(a+b) / 2 else m)->aN B Tryz.f41 l' c (ky g N cap a m b ((a+b) / 2) lo hi) (ab (mR l c) 272):=by
    intro lo hi cr fE
    have C:=OI (md:=(a+b) / 2) (lo:=lo) (hi:=hi) (f:=hi - lo) o hr ha hb (by omega) sA sB rfl cr fE (Nat.le_refl _) rfl
    have Sf:=C
    obtain⟨c1,c2,c3,c4,c5,_,_⟩:=Sf
    have rZ:lo<=hi/\hi<=N/\∀h,lo<=h->h<hi->h<=(a+b) / 2+m - 1/\(a+b) / 2+m - 1 - h<N:=by
      by_cases q:m>(a+b) / 2
      · rw[if_pos q] at cr fE;exact⟨by omega,by omega,fun h k1 k2=>⟨by omega,by omega⟩⟩
      · rw[if_neg q] at cr fE;exact⟨by omega,by omega,fun h k1 k2=>⟨by omega,by omega⟩⟩
    refine Dt mc hC hr hl hN (hi - lo) lo hi (Nat.le_refl _) rZ.2.1 rZ.2.2 ?_
    generalize lr:gK (ki cv l<|(a+b) / 2+m - 1) (hi - lo) lo hi=st at*
    generalize RH:(a+b) / 2=md at*
    have hq :∀l1,bS l st m (md+m - st) l1->aN B Tryz.f41 l' c (nH g N cap a b md st<|md+m - st) (ab (mR l1 c) 272):=by
      intro l1 h1
      have e1:=h1.len
      have ny:=hr.perm h1.pm
      obtain⟨t1,t2,t3,t4,t5,t6⟩:=NM o hr (by omega) (by omega) sA sB C h1
      have Ej:∀l2,bG cv l1 a md l2->aN B Tryz.f41 l' c (gD g N cap b md<|md+m - st) (ab (mR l2 c) 272):=by
        intro l2 h2
        have e2:=h2.len
        have xl:=ny.perm h2.pm
        have u3:=b7.other t3 h2<|.inr<|Nat.le_refl _
        have u4:=b7.other t4 h2 (.inr<|by omega)
        have done:∀l3,bG cv l2 md b l3->l'=l3:=fun l3 h3=>fin l3<|NN (by omega) (by omega) (by omega) h1.pm t6 t5 h2 h3
        by_cases q1:md<md+m - st
        · by_cases q2:md+m - st<b
          · obtain⟨l3,h3⟩:=bG.ex (a:=md) (b:=b) cA.ord xl (by omega) (by omega)
            rw[done l3 h3]
            exact r3 mc cA xl hl (by omega) q1 q2 Jq (by omega) u3 u4 h3
          · rw[done l2<|bG.refl fun i j k1 k2 k3=>u3 i j k1 k2<|by omega]
            exact r2 mc q1 q2
        · rw[done l2<|bG.refl fun i j k1 k2 k3=>u4 i j (by omega) k2 k3]
          exact r1 mc q1
      by_cases q1:a<st
      · by_cases q2:st<md
        · obtain⟨l2,h2⟩:=bG.ex (a:=a) (b:=md) cA.ord ny (by omega) (by omega)
          exact q3 mc cA ny hl (by omega) q1 q2 (by omega) (by omega) t1 t2 h2<|Ej l2 h2
        · exact rH.q2 mc q1 q2 (Ej l1<|bG.refl fun i j k1 k2 k3=>t1 i j k1 k2<|by omega)
      · exact rH.q1 mc q1<|Ej l1<|bG.refl fun i j k1 k2 k3=>t2 i j (by omega) k2 k3
    by_cases q1:st<m
    · by_cases q2:m<md+m - st
      · obtain⟨l1,h1⟩:=bS.ex (l:=l) (a:=st) (m:=m) (b:=md+m - st) (by omega) (by omega) (by omega)
        exact p3 mc (by omega) (by omega) cA.hi hl hN (by omega) q1 q2 h1<|hq l1 h1
      · refine p2 mc (by omega) (by omega) q1 q2 (hq l ?_)
        rw[show md+m - st=m by omega];exact bS.Ih l st m
    · refine p1 mc (by omega) (by omega) q1 (hq l ?_)
      rw[show st=m by omega];exact bS.CZ l m _
  by_cases q:m>(a+b) / 2
  · exact Sc mc ha hb (by omega) qa qb q (key _ _ (by rw[if_pos q])<|by rw[if_pos q])
  · exact Sd mc ha hb (by omega) qa qb q (key _ _ (by rw[if_neg q])<|by rw[if_neg q])
end
theorem Hs(hP:dp Tryz.prog):∀(k:Nat) {L:bZ} (h:cL L),cL (bw k::L)
 |0,L,h=>by refine mZ hP h gE Tryz.func41 fun args aw y c e=>?_;obtain⟨N,cap,a,m,b,g,cc,n,cv,l,l',_,_,_,_,_,_,_,_,_,_,_,hk,_⟩:=e;omega
 |k+1,L,h=>by refine mZ hP h (Hs hP k<|NS hP<|GS hP gE) Tryz.func41 fun args aw y c e=>?_;obtain⟨N,cap,a,m,b,g,cc,n,cv,l,l',rfl,rfl,rfl,rfl,hc,hr,hN,hl,h1,h2,h3,hk,sA,sB,h⟩:=e;exact⟨aL.1 (by kernel_rfl),fun B mc=>tV<|OS mc hc hr hl hN h1 h2 h3 hk sA sB h⟩
end wg
end
section
open Go Go.Rn Go.RowKit Go.Proofs
namespace wZ
open dP eg fq fO mg uo zY rH wg
noncomputable abbrev lb(g:FuncId):AV:=.func (.func g) [] [.ptr<|some (270,0)]
noncomputable abbrev tX(is:List Int)(g:FuncId):List AV:=.slice none 0 (.known 0)::(is.map (AV.int .i64)++[lb g])
def gM(R:LR)(is:List Int):LR:=fun args aw y c=>R args aw y c\/∃(g:FuncId) (cc:AV),cc.bV=true/\args=tX is g/\aw=[[cc]]/\y= .tuple []/\c=none
theorem gM.bf{R:LR}{is:List Int}(hd:iV R)(h2:∀args aw y c,R args aw y c->aw.length=2):iV<|gM R is:=fun args aw y y' c c' h h'=>by
 rcases h with h|⟨g,cc,_,_,rfl,rfl,rfl⟩
 ·rcases h' with h'|⟨g,cc,_,_,rfl,rfl,rfl⟩
  ·exact hd _ _ _ _ _ _ h h'
  ·have:=h2 _ _ _ _ h;cases this
 ·rcases h' with h'|⟨g,cc,_,_,_,rfl,rfl⟩
  ·have:=h2 _ _ _ _ h';cases this
  ·exact⟨rfl,rfl⟩
theorem M7(g:FuncId)(is:List Int):cS (tX is g)=[270]:=by
 have h:∀is:List Int,cS (is.map (AV.int .i64)++[lb g])=[270]:=fun is=>by
  induction is with
  |nil=>rfl
  |cons x is ih=>exact ih
 exact h is
theorem M8(g:FuncId)(is:List Int):(tX is g).all fT=true:=by
 have h:∀is:List Int,(is.map (AV.int .i64)++[lb g]).all fT=true:=fun is=>by
  induction is with
  |nil=>show(fT (lb g)&&true)=true;kernel_rfl
  |cons x is ih=>rw[List.map_cons,List.cons_append,List.all_cons,ih];rfl
 show(fT (.slice none 0<|.known 0)&&(is.map (AV.int .i64)++[lb g]).all fT)=true;rw[h];kernel_rfl
theorem M9(g:FuncId)(is:List Int):(tX is g).map (iF fun n=>270+iU [270] n)=tX is g:=by
 have h:∀is:List Int,(is.map (AV.int .i64)++[lb g]).map (iF fun n=>270+iU [270] n)=is.map (AV.int .i64)++[lb g]:=fun is=>by
  induction is with
  |nil=>rfl
  |cons x is ih=>rw[List.map_cons,List.cons_append,List.map_cons,ih];rfl
 show iF _ (.slice none 0<|.known 0)::(is.map (AV.int .i64)++[lb g]).map _=_;rw[h];rfl
noncomputable abbrev nQ(c:AV):AS->Prop:=rp 270 dI eH [270] [[c]]
noncomputable abbrev nG:AS->AS:=zA 270 dI eH [270]
abbrev NQ(c:AV):Prop:=true=true/\(true=true/\some (au [c])=some (au [c]))/\True
theorem BM{L:bZ}{f:FuncId}{R:LR}{is:List Int}(hs:sp L f=some (eU (vL<|gM R is) 270 eH dI))(hd:iV<|gM R is){g:FuncId}{c:AV}{T:Prop}(hc:c.bV=true)(t:T):
 (∀z,nQ c z->br Tryz.prog (sp L) FU 6 (.fn f) (tX is g) z= .ok (.tuple []) (nG z))/\NQ c/\T:=by
 refine⟨?_,⟨rfl,⟨rfl,rfl⟩,trivial⟩,t⟩;refine Cr (n:=5) (N:=[270]) hs (M7 g is) ?_ (by decide) rfl (by kernel_rfl) ?_ ?_ rfl
 ·rw[M8];rfl
 ·show(((c.bV&&true)&&Nat.ble 1 top)&&true)=true;rw[hc,aL.2 (show 1<=top by unfold top;omega)];rfl
 ·rw[M9];exact wa hd<|.inr ⟨g,c,hc,rfl,rfl,rfl,rfl⟩
abbrev Ek(c:AV):Prop:=AV.tuple []=AV.tuple []/\some (au [c])=some (au [c])
abbrev RN(c:AV)(v:AV)(s:AS):Prop:=v= .tuple []/\s.h.get 270=some (au [c])
theorem jF.two(args:List AV)(aw:List<|List AV)(y:AV)(c:Option<|List AV)(h:jF args aw y c):aw.length=2:=by obtain⟨N,cap,a,b,g,cc,n,cv,l,l',_,rfl,_⟩:=h;rfl
noncomputable def gl:FuncId×KE:=(40,.raw<|eU<|vL<|gM jF [0,0])
theorem Sg{B:aC}{g:FuncId}{c:AV}(mc:Mt [bu] B):bp Tryz.prog B 271 (Fin Tryz.prog Tryz.f40.results.toList<|RN c) ⟨40,bt [.slice none 0<|.known 0,.int .i64 0,.int .i64 0,lb g],(max Tryz.f40.ntmps 4),[.code<|aJ Tryz.prog 40 []],[],none⟩<|ab (mB c) 271:=lC mc (L:=[bu]) (R:=RN c) (.rt 11<|.no) (show Ek c from⟨rfl,rfl⟩)
theorem Na(hP:dp Tryz.prog){L:bZ}(h:cL L):cL<|gl::L:=by
 refine mZ hP h (GS hP gE) Tryz.func40 fun args aw y c e=>?_;rcases e with e|⟨g,cc,hc,rfl,rfl,rfl,rfl⟩
 ·obtain⟨N,cap,a,b,g,cc,n,cv,l,l',rfl,rfl,rfl,rfl,hc,hr,hN,hl,h1,h2,h⟩:=e;exact⟨aL.1 (by kernel_rfl),fun B mc=>tV<|OQ mc hc hr hN hl h1 h2 h⟩
 ·exact⟨aL.1 (by kernel_rfl),fun B mc=>tU<|Sg mc⟩
theorem Sh{B:aC}{g:FuncId}{c:AV}(mc:Mt [bw 1000001,gl] B)(hc:c.bV=true):bp Tryz.prog B 271 (Fin Tryz.prog Tryz.f27.results.toList<|RN c) ⟨27,bt [.slice none 0<|.known 0,.int .i64 0,lb g],(max Tryz.f27.ntmps 3),[.code<|aJ Tryz.prog 27 []],[],none⟩<|ab (mB c) 271:=lC mc (L:=[bw 1000001,gl]) (R:=RN c) (.st 13<|.rg<|.go 4<|.cg (.tuple []) nG (nQ c)<|.en<|.rt 9<|.no)<|BM (L:=[bw 1000001,gl]) (f:=40) (R:=jF) (is:=[0,0]) (by as_aux_lemma=>kernel_rfl) (gM.bf jF.bf jF.two) (g:=g) hc (show Ek c from⟨rfl,rfl⟩)
noncomputable def gi(g:FuncId)(N:Nat)(cap:bc)(p bs a b:Nat):List<|Nat×AV:=[(0,.slice (some (270,0)) N cap),(1,.int .i64 (p:Int)),(2,dv g),(6,.int .i64 (bs:Int)),(7,.int .i64 (a:Int)),(8,.int .i64 (b:Int))]
noncomputable def KS:List Item:=[.code<|aJ Tryz.prog 27 [1,1,0,0,0],.inLoop<|aJ Tryz.prog 27 [1,1,0,0,0],.inBlock 0,.code<|aJ Tryz.prog 27 [1,1,1]]
noncomputable def dQ(g:FuncId)(N:Nat)(cap:bc)(p bs a b:Nat):AF:=⟨27,cH<|gi g N cap p bs a b,(max Tryz.f27.ntmps 3),KS,[],none⟩
noncomputable def jf(g:FuncId)(N:Nat)(cap:bc)(p bs:Nat):List<|Nat×AV:=[(0,.slice (some (270,0)) N cap),(1,.int .i64 (p:Int)),(2,dv g),(6,.int .i64 (bs:Int))]
noncomputable def KT:List Item:=[.code<|aJ Tryz.prog 27 [1,1,1,1,0,0],.inLoop<|aJ Tryz.prog 27 [1,1,1,1,0,0],.inBlock 2]
noncomputable def fF(g:FuncId)(N:Nat)(cap:bc)(p bs:Nat):AF:=⟨27,cH<|jf g N cap p bs,(max Tryz.f27.ntmps 3),KT,[],none⟩
noncomputable def xQ(g:FuncId)(N:Nat)(cap:bc)(p bs a b:Nat):List<|Nat×AV:=[(0,.slice (some (270,0)) N cap),(1,.int .i64 (p:Int)),(2,dv g),(6,.int .i64 (bs:Int)),(7,.int .i64 (a:Int)),(8,.int .i64 (b:Int))]
noncomputable def KV:List Item:=[.code<|aJ Tryz.prog 27 [1,1,1,1,0,0,1,0,1,0,0,0],.inLoop<|aJ Tryz.prog 27 [1,1,1,1,0,0,1,0,1,0,0,0],.inBlock 4,.code<|aJ Tryz.prog 27 [1,1,1,1,0,0,1,0,1,1],.inBlock 3,.inLoop<|aJ Tryz.prog 27 [1,1,1,1,0,0],.inBlock 2]
noncomputable def p9(g:FuncId)(N:Nat)(cap:bc)(p bs a b:Nat):AF:=⟨27,cH<|xQ g N cap p bs a b,(max Tryz.f27.ntmps 3),KV,[],none⟩
section
variable {B:aC} {g:FuncId} {c:AV} {n:Int} {cv:Int->Int->Int} {N p bs a b:Nat} {cap:bc} {l l' l1:List Int}
theorem w0(mc:Mt [bw 1000001,gl] B)(H:aN B Tryz.f27 l' c (dQ g N cap p (20) (0)<|20)<|ab (mR l c) 272):aN B Tryz.f27 l' c ⟨27,bt [.slice (some (270,0)) N cap,.int .i64 (p:Int),dv g],(max Tryz.f27.ntmps 3),[.code<|aJ Tryz.prog 27 []],[],none⟩<|ab (mR l c) 272:=rC mc H (.st 7<|.ls (gi g N cap p (20) (0)<|20) (mR l c) 272 .no) (show bL (gi g N cap p (20) (0)<|20) (mR l c) (dQ g N cap p (20) (0)<|20) (ab (mR l c) 272) from bQ)
theorem s1(mc:Mt [bw 1000001,gl] B)(cA:CI g c n cv)(hr:Rg l n)(hl:N<=1000000)(hN:l.length=N)(hb:b<=p)(hp:p<=N)(qc:bs<=2000000)(h1:a<=b)(h2:b<=N)(h:bG cv l a b l1)(H:aN B Tryz.f27 l' c (dQ g N cap p bs (b)<|b+bs)<|ab (mR l1 c) 272):aN B Tryz.f27 l' c (dQ g N cap p bs a b)<|ab (mR l c) 272:=rC mc H (.st 2<|.rg<|.go 2<|.fk (.en<|.st 4<|.rg<|.go 4<|.cg (.tuple []) (lG<|l1) (lQ (l) c)<|.en<|.st 2<|.rg<|.go 2<|.vl (.int .i64 ((b+bs:Nat):Int))<|.go 1<|.en<|.st 2<|.ls (gi g N cap p bs (b)<|b+bs) (mR l1 c) 272 .no) .no)<|av ((b:Int)<=(p:Int)) (fun _=>(lL (L:=[bw 1000001,gl]) (f:=40) (R:=gM jF [0,0]) (by as_aux_lemma=>kernel_rfl) (gM.bf jF.bf jF.two) (N:=N) (cap:=cap) (is:=[((a:Nat):Int),((b:Nat):Int)]) (g:=g) cA.hi (.inl ⟨N,cap,a,b,g,c,n,cv,l,l1,rfl,rfl,rfl,rfl,cA,hr,hN,hl,h1,h2,h⟩) (by omega) h.len<|And.intro (wN ((b:Int)+(bs:Int))<|b+bs) (show bL (gi g N cap p bs (b)<|b+bs) (mR l1 c) (dQ g N cap p bs (b)<|b+bs) (ab (mR l1 c) 272) from bQ))) (fun h=>show False by omega)
theorem s2(mc:Mt [bw 1000001,gl] B)(cA:CI g c n cv)(hr:Rg l n)(hl:N<=1000000)(hN:l.length=N)(hb:p<b)(hp:p<=N)(h1:a<=p)(h2:p<=N)(h:bG cv l a p l1)(H:aN B Tryz.f27 l' c (fF g N cap p bs)<|ab (mR l1 c) 272):aN B Tryz.f27 l' c (dQ g N cap p bs a b)<|ab (mR l c) 272:=rC mc H (.st 2<|.rg<|.go 2<|.fk .no<|.en<|.st 3<|.rg<|.go 4<|.cg (.tuple []) (lG<|l1) (lQ (l) c)<|.en<|.st 2<|.ls (jf g N cap p bs) (mR l1 c) 272 .no)<|av ((b:Int)<=(p:Int)) (fun h=>show False by omega) fun _=>(lL (L:=[bw 1000001,gl]) (f:=40) (R:=gM jF [0,0]) (by as_aux_lemma=>kernel_rfl) (gM.bf jF.bf jF.two) (N:=N) (cap:=cap) (is:=[((a:Nat):Int),((p:Nat):Int)]) (g:=g) cA.hi (.inl ⟨N,cap,a,p,g,c,n,cv,l,l1,rfl,rfl,rfl,rfl,cA,hr,hN,hl,h1,h2,h⟩) (by omega) h.len (show bL (jf g N cap p bs) (mR l1 c) (fF g N cap p bs) (ab (mR l1 c) 272) from bQ))
theorem t1(mc:Mt [bw 1000001,gl] B)(h:p<=bs):aN B Tryz.f27 l c (fF g N cap p bs)<|ab (mR l c) 272:=rS mc (.st 2<|.rg<|.go 2<|.fk .no<|.en<|.rt 4<|.no)<|av ((bs:Int)<(p:Int)) (fun h=>show False by omega) fun _=>(show mw l c from nC)
theorem t2(mc:Mt [bw 1000001,gl] B)(h:bs<p)(hp:p<=1000000)(H:aN B Tryz.f27 l' c (p9 g N cap p bs (0)<|2*bs)<|ab (mR l c) 272):aN B Tryz.f27 l' c (fF g N cap p bs)<|ab (mR l c) 272:=rC mc H (.st 2<|.rg<|.go 2<|.fk (.en<|.st 4<|.rg<|.go 1<|.vl (.int .i64 ((2*bs:Nat):Int))<|.go 2<|.en<|.st 3<|.ls (xQ g N cap p bs (0)<|2*bs) (mR l c) 272 .no) .no)<|av ((bs:Int)<(p:Int)) (fun _=>(And.intro (wN (2*(bs:Int))<|2*bs) (show bL (xQ g N cap p bs (0)<|2*bs) (mR l c) (p9 g N cap p bs (0)<|2*bs) (ab (mR l c) 272) from bQ))) (fun h=>show False by omega)
theorem v1(mc:Mt [bw 1000001,gl] B)(cA:CI g c n cv)(hr:Rg l n)(hl:N<=1000000)(hN:l.length=N)(hb:b<=p)(hp:p<=N)(h0:0<bs)(qc:bs<p)(h1:b=a+2*bs)(s1:b7 cv l a<|a+bs)(s2:b7 cv l (a+bs) b)(h:bG cv l a b l1)(H:aN B Tryz.f27 l' c (p9 g N cap p bs (b)<|b+2*bs)<|ab (mR l1 c) 272):aN B Tryz.f27 l' c (p9 g N cap p bs a b)<|ab (mR l c) 272:=rC mc H (.st 2<|.rg<|.go 2<|.fk (.en<|.st 4<|.rg<|.go 4<|.vl (.int .i64 ((a+bs:Nat):Int))<|.go 2<|.cg (.tuple []) (lG<|l1) (lQ (l) c)<|.en<|.st 2<|.rg<|.go 2<|.vl (.int .i64 ((2*bs:Nat):Int))<|.vl (.int .i64 ((b+2*bs:Nat):Int))<|.go 1<|.en<|.st 2<|.ls (xQ g N cap p bs (b)<|b+2*bs) (mR l1 c) 272 .no) .no)<|av ((b:Int)<=(p:Int)) (fun _=>(And.intro (wN ((a:Int)+(bs:Int))<|a+bs)<|lL (L:=[bw 1000001,gl]) (f:=41) (by as_aux_lemma=>kernel_rfl) (rI.bf 1000001) (N:=N) (cap:=cap) (is:=[((a:Nat):Int),((a+bs:Nat):Int),((b:Nat):Int)]) (g:=g) cA.hi ⟨N,cap,a,a+bs,b,g,c,n,cv,l,l1,rfl,rfl,rfl,rfl,cA,hr,hN,hl,by omega,by omega,by omega,by omega,s1,s2,h⟩ (by omega) h.len<|And.intro (wN (2*(bs:Int))<|2*bs)<|And.intro (wN ((b:Int)+((2*bs:Nat):Int))<|b+2*bs) (show bL (xQ g N cap p bs (b)<|b+2*bs) (mR l1 c) (p9 g N cap p bs (b)<|b+2*bs) (ab (mR l1 c) 272) from bQ))) (fun h=>show False by omega)
theorem v2(mc:Mt [bw 1000001,gl] B)(hl:N<=1000000)(hb:p<b)(hp:p<=N)(h0:0<bs)(qc:bs<p)(ha:a<=p)(h1:¬a+bs<p)(H:aN B Tryz.f27 l' c (fF g N cap p<|bs*2)<|ab (mR l c) 272):aN B Tryz.f27 l' c (p9 g N cap p bs a b)<|ab (mR l c) 272:=rC mc H (.st 2<|.rg<|.go 2<|.fk .no<|.en<|.st 4<|.rg<|.go 2<|.vl (.int .i64 ((a+bs:Nat):Int))<|.go 1<|.en<|.st 1<|.rg<|.go 2<|.fk .no<|.en<|.st 2<|.rg<|.go 1<|.vl (.int .i64 ((bs*2:Nat):Int))<|.go 1<|.en<|.st 2<|.ls (jf g N cap p<|bs*2) (mR l c) 272 .no)<|av ((b:Int)<=(p:Int)) (fun h=>show False by omega) fun _=>(And.intro (wN ((a:Int)+(bs:Int))<|a+bs)<|av (((a+bs:Nat):Int)<(p:Int)) (fun h=>show False by omega) fun _=>(And.intro (wN ((bs:Int)*2)<|bs*2) (show bL (jf g N cap p<|bs*2) (mR l c) (fF g N cap p<|bs*2) (ab (mR l c) 272) from bQ)))
theorem v3(mc:Mt [bw 1000001,gl] B)(cA:CI g c n cv)(hr:Rg l n)(hl:N<=1000000)(hN:l.length=N)(hb:p<b)(hp:p<=N)(h0:0<bs)(qc:bs<p)(ha:a<=p)(h1:a+bs<p)(s1:b7 cv l a<|a+bs)(s2:b7 cv l (a+bs) p)(h:bG cv l a p l1)(H:aN B Tryz.f27 l' c (fF g N cap p<|bs*2)<|ab (mR l1 c) 272):aN B Tryz.f27 l' c (p9 g N cap p bs a b)<|ab (mR l c) 272:=rC mc H (.st 2<|.rg<|.go 2<|.fk .no<|.en<|.st 4<|.rg<|.go 2<|.vl (.int .i64 ((a+bs:Nat):Int))<|.go 1<|.en<|.st 1<|.rg<|.go 2<|.fk (.en<|.st 1<|.rg<|.go 5<|.cg (.tuple []) (lG<|l1) (lQ (l) c)<|.en<|.rg<|.go 1<|.vl (.int .i64 ((bs*2:Nat):Int))<|.go 1<|.en<|.st 2<|.ls (jf g N cap p<|bs*2) (mR l1 c) 272 .no) .no)<|av ((b:Int)<=(p:Int)) (fun h=>show False by omega) fun _=>(And.intro (wN ((a:Int)+(bs:Int))<|a+bs)<|av (((a+bs:Nat):Int)<(p:Int)) (fun _=>(lL (L:=[bw 1000001,gl]) (f:=41) (by as_aux_lemma=>kernel_rfl) (rI.bf 1000001) (N:=N) (cap:=cap) (is:=[((a:Nat):Int),((a+bs:Nat):Int),((p:Nat):Int)]) (g:=g) cA.hi ⟨N,cap,a,a+bs,p,g,c,n,cv,l,l1,rfl,rfl,rfl,rfl,cA,hr,hN,hl,by omega,by omega,by omega,by omega,s1,s2,h⟩ (by omega) h.len<|And.intro (wN ((bs:Int)*2)<|bs*2) (show bL (jf g N cap p<|bs*2) (mR l1 c) (fF g N cap p<|bs*2) (ab (mR l1 c) 272) from bQ))) (fun h=>show False by omega))
end
end wZ
end
section
open Go Go.Rn Go.RowKit Go.Proofs
namespace Ip
open dP eg fq fO mg uo zY rH wg wZ
abbrev Bl(cv:Int->Int->Int)(l:List Int)(bs N:Nat):Prop:=∀z,b7 cv l (z*bs)<|min (z*bs+bs) N
theorem zj{z x k:Nat}(h:z<x):z*k+k<=x*k:=by have:=Nat.mul_le_mul_right k (show z+1<=x from h);rwa[Nat.succ_mul] at this
section
variable {B:aC} {g:FuncId} {c:AV} {n:Int} {cv:Int->Int->Int} {N bs:Nat} {cap:bc} {l0 l':List Int}
theorem Qs(mc:Mt [bw 1000001,gl] B)(cA:CI g c n cv)(fc:Rg l0 n)(hl:N<=1000000)(hN:l0.length=N)(h0:0<bs)(qc:bs<N)(H:∀l,l.Perm l0->Bl cv l (bs*2) N->aN B Tryz.f27 l' c (fF g N cap N<|bs*2) (ab (mR l c) 272)):
 ∀(r x:Nat) (l:List Int),N - x*(2*bs)<=r->x*(2*bs)<=N->l.Perm l0->(∀z,z<x->b7 cv l (z*(2*bs)) (z*(2*bs)+2*bs))->(∀z,2*x<=z->b7 cv l (z*bs) (min (z*bs+bs) N))->aN B Tryz.f27 l' c (p9 g N cap N bs (x*(2*bs))<|x*(2*bs)+2*bs) (ab (mR l c) 272):=by
 intro r;induction r with
 |zero=>
  intro x l h h1 hp hd ht;refine v2 mc hl (by omega) (Nat.le_refl _) h0 qc h1 (by omega)<|H l hp fun z=>?_;rw[show bs*2=2*bs from Nat.mul_comm _ _];by_cases q:z<x
  ·have:=zj (k:=2*bs) q;rw[Nat.min_eq_left<|by omega];exact hd z q
  ·have:=Nat.mul_le_mul_right (2*bs) (show x<=z by omega);exact fun i j k1 k2 k3=>by omega
 |succ r ih=>
  intro x l h h1 hp hd ht;have e0:l.length=N:=by rw[hp.length_eq,hN]
  have hr:=fc.perm hp;have e1:(2*x)*bs=x*(2*bs):=by rw[Nat.mul_comm 2 x,Nat.mul_assoc]
  have e2:(2*x+1)*bs=x*(2*bs)+bs:=by rw[Nat.succ_mul,e1]
  have e3:(2*x+2)*bs=x*(2*bs)+2*bs:=by rw[Nat.succ_mul,e2];omega
  have e4:(x+1)*(2*bs)=x*(2*bs)+2*bs:=Nat.succ_mul _ _;have b1:=ht (2*x)<|Nat.le_refl _;have b2:=ht (2*x+1) (by omega);rw[e1] at b1;rw[e2] at b2;by_cases q:x*(2*bs)+2*bs<=N
  ·rw[Nat.min_eq_left<|by omega] at b1 b2;have b2:b7 cv l (x*(2*bs)+bs)<|x*(2*bs)+2*bs:=by rw[show x*(2*bs)+2*bs=x*(2*bs)+bs+bs by omega];exact b2
   obtain⟨l1,h2⟩:=bG.ex (l:=l) (a:=x*(2*bs)) (b:=x*(2*bs)+2*bs) cA.ord hr (by omega) (by omega);refine v1 mc cA hr hl e0 q (Nat.le_refl _) h0 qc rfl b1 b2 h2 ?_;have:=ih (x+1) l1 (by rw[e4];omega) (by rw[e4];omega) (h2.pm.trans hp) (fun z hz=>?_) fun z hz=>?_
   ·rw[e4] at this;exact this
   ·by_cases q2:z=x
    ·subst q2;exact h2.ks
    ·have:=zj (k:=2*bs) (show z<x by omega);exact b7.other (hd z<|by omega) h2 (.inl<|by omega)
   ·have:=Nat.mul_le_mul_right bs (show 2*x+2<=z by omega);exact b7.other (ht z<|by omega) h2 (.inr<|by omega)
  ·have ua:∀l1,bG cv l (x*(2*bs)) N l1->l1.Perm l0/\Bl cv l1 (bs*2) N:=fun l1 h2=>by
    refine⟨h2.pm.trans hp,fun z=>?_⟩;rw[show bs*2=2*bs from Nat.mul_comm _ _];by_cases q2:z<x
    ·have:=zj (k:=2*bs) q2;rw[Nat.min_eq_left<|by omega];exact b7.other (hd z q2) h2 (.inl<|by omega)
    ·by_cases q3:z=x
     ·subst q3;rw[Nat.min_eq_right<|by omega];exact h2.ks
     ·have:=zj (k:=2*bs) (show x<z by omega);exact fun i j k1 k2 k3=>by omega
   by_cases q2:x*(2*bs)+bs<N
   ·rw[Nat.min_eq_left<|by omega] at b1;rw[Nat.min_eq_right<|by omega] at b2;obtain⟨l1,h2⟩:=bG.ex (l:=l) (a:=x*(2*bs)) (b:=N) cA.ord hr h1 (by omega);obtain⟨p1,p2⟩:=ua l1 h2;exact v3 mc cA hr hl e0 (by omega) (Nat.le_refl _) h0 qc h1 q2 b1 b2 h2<|H l1 p1 p2
   ·rw[Nat.min_eq_right<|by omega] at b1;obtain⟨p1,p2⟩:=ua l<|bG.refl b1;exact v2 mc hl (by omega) (Nat.le_refl _) h0 qc h1 q2<|H l p1 p2
theorem Qt(mc:Mt [bw 1000001,gl] B)(cA:CI g c n cv)(fc:Rg l0 n)(hl:N<=1000000)(hN:l0.length=N)(h':bG cv l0 0 N l'):∀(r bs:Nat) (l:List Int),N - bs<=r->0<bs->l.Perm l0->Bl cv l bs N->aN B Tryz.f27 l' c (fF g N cap N bs) (ab (mR l c) 272):=by
 have fin:∀(bs:Nat) (l:List Int),N<=bs->l.Perm l0->Bl cv l bs N->aN B Tryz.f27 l' c (fF g N cap N bs) (ab (mR l c) 272):=fun bs l h hp hb=>by have:=hb 0;rw[Nat.zero_mul,Nat.zero_add,Nat.min_eq_right h] at this;have e:=hp.length_eq;rw[h'.bf cA.ord fc (Nat.zero_le _) (by omega) ⟨hp,fun i hi=>by rw[Hk (by omega),Hk<|by omega],this⟩];exact t1 mc h
 intro r;induction r with
 |zero=>exact fun bs l h h0 hp hb=>fin bs l (by omega) hp hb
 |succ r ih=>
  intro bs l h h0 hp hb;by_cases q:N<=bs
  ·exact fin bs l q hp hb
  ·have:=Qs (cap:=cap) (l':=l') mc cA fc hl hN h0 (by omega) (fun l2 dt rZ=>ih (bs*2) l2 (by omega) (by omega) dt rZ) N 0 l (by omega) (by omega) hp (fun z hz=>by omega) fun z _=>hb z;rw[Nat.zero_mul,Nat.zero_add] at this;exact t2 mc (by omega) hl this
theorem zZ(mc:Mt [bw 1000001,gl] B)(cA:CI g c n cv)(fc:Rg l0 n)(hl:N<=1000000)(hN:l0.length=N)(h':bG cv l0 0 N l'):∀(r x:Nat) (l:List Int),N - x*20<=r->x*20<=N->l.Perm l0->(∀z,z<x->b7 cv l (z*20) (z*20+20))->aN B Tryz.f27 l' c (dQ g N cap N 20 (x*20)<|x*20+20) (ab (mR l c) 272):=by
 have fin:∀(x:Nat) (l:List Int),x*20<=N->N<x*20+20->l.Perm l0->(∀z,z<x->b7 cv l (z*20) (z*20+20))->aN B Tryz.f27 l' c (dQ g N cap N 20 (x*20)<|x*20+20) (ab (mR l c) 272):=fun x l h1 h2 hp hd=>by
  have e:=hp.length_eq;obtain⟨l1,h3⟩:=bG.ex (l:=l) (a:=x*20) (b:=N) cA.ord (fc.perm hp) h1 (by omega);refine s2 mc cA (fc.perm hp) hl (by omega) h2 (Nat.le_refl _) h1 (Nat.le_refl _) h3<|Qt mc cA fc hl hN h' N 20 l1 (by omega) (by omega) (h3.pm.trans hp) fun z=>?_;by_cases q:z<x
  ·rw[Nat.min_eq_left<|by omega];exact b7.other (hd z q) h3 (.inl<|by omega)
  ·by_cases q2:z=x
   ·subst q2;rw[Nat.min_eq_right<|by omega];exact h3.ks
   ·exact fun i j k1 k2 k3=>by omega
 intro r;induction r with
 |zero=>exact fun x l h h1 hp hd=>fin x l h1 (by omega) hp hd
 |succ r ih=>
  intro x l h h1 hp hd;by_cases q:x*20+20<=N
  ·have e:=hp.length_eq;obtain⟨l1,h3⟩:=bG.ex (l:=l) (a:=x*20) (b:=x*20+20) cA.ord (fc.perm hp) (by omega) (by omega);have:=ih (x+1) l1 (by omega) (by omega) (h3.pm.trans hp) (fun z hz=>by
    by_cases q2:z=x
    ·subst q2;exact h3.ks
    ·exact b7.other (hd z<|by omega) h3<|.inl<|by omega)
   rw[show(x+1)*20=x*20+20 by omega] at this;exact s1 mc cA (fc.perm hp) hl (by omega) q (Nat.le_refl _) (by omega) (by omega) q h3 this
  ·exact fin x l h1 (by omega) hp hd
end
def mh:LR:=fun args aw y c=>∃(N:Nat) (cap:bc) (g:FuncId) (cc:AV) (n:Int) (cv:Int->Int->Int) (l l':List Int),args=iP N cap [(N:Int)] g/\aw=[cY l,[cc]]/\y= .tuple []/\c=some (cY l')/\CI g cc n cv/\Rg l n/\l.length=N/\N<=1000000/\bG cv l 0 N l'
theorem mh.bf:iV mh:=fun args aw y y' c c' h h'=>by obtain⟨N,cap,g,cc,n,cv,l,l',rfl,rfl,rfl,rfl,hc,hr,hN,_,h⟩:=h;obtain⟨N2,gq,g2,xN,n2,Eh,l2,xO,e1,e2,rfl,rfl,jb,_,_,_,h'⟩:=h';obtain⟨rfl,_,_,rfl⟩:=s8 e1;obtain⟨rfl,rfl⟩:=tA e2;obtain⟨rfl,rfl⟩:=hc.bf jb;rw[h.bf hc.ord hr (Nat.zero_le _) (by omega) h'];exact⟨rfl,rfl⟩
theorem mh.two(args:List AV)(aw:List<|List AV)(y:AV)(c:Option<|List AV)(h:mh args aw y c):aw.length=2:=by obtain⟨N,cap,g,cc,n,cv,l,l',_,rfl,_⟩:=h;rfl
theorem CI.bP{g:FuncId}{cc:AV}(h:cc.bV=true):cc.bV=true:=h
noncomputable def uv:FuncId×KE:=(27,.raw<|eU<|vL<|gM mh [0])
end Ip
end
section
open Go Go.Rn Go.RowKit Go.Proofs
namespace Du
open dP eg fq fO mg uo zY rH wg wZ Ip
theorem NT(hP:dp Tryz.prog){L:bZ}(h:cL L):cL<|uv::L:=by
 refine mZ hP h (Hs hP 1000001<|Na hP gE) Tryz.func27 fun args aw y c e=>?_;rcases e with e|⟨g,cc,hc,rfl,rfl,rfl,rfl⟩
 ·obtain⟨N,cap,g,cc,n,cv,l,l',rfl,rfl,rfl,rfl,hc,hr,hN,hl,h⟩:=e;refine⟨aL.1 (by kernel_rfl),fun B mc=>tV ?_⟩;have:=zZ (cap:=cap) (l':=l') mc hc hr hl hN h N 0 l (by omega) (by omega) (.refl _) (fun z hz=>by omega);exact w0 mc this
 ·exact⟨aL.1 (by kernel_rfl),fun B mc=>tU<|Sh mc hc⟩
def lf:LR:=fun args aw y c=>∃(N:Nat) (cap:bc) (g:FuncId) (cc:AV) (n:Int) (cv:Int->Int->Int) (l l':List Int),args=iP N cap [] g/\aw=[cY l,[cc]]/\y= .tuple []/\c=some (cY l')/\CI g cc n cv/\Rg l n/\l.length=N/\N<=1000000/\bG cv l 0 N l'
theorem lf.bf:iV lf:=fun args aw y y' c c' h h'=>by obtain⟨N,cap,g,cc,n,cv,l,l',rfl,rfl,rfl,rfl,hc,hr,hN,_,h⟩:=h;obtain⟨N2,gq,g2,xN,n2,Eh,l2,xO,e1,e2,rfl,rfl,jb,_,_,_,h'⟩:=h';obtain⟨rfl,_,_,rfl⟩:=s8 e1;obtain⟨rfl,rfl⟩:=tA e2;obtain⟨rfl,rfl⟩:=hc.bf jb;rw[h.bf hc.ord hr (Nat.zero_le _) (by omega) h'];exact⟨rfl,rfl⟩
theorem lf.two(args:List AV)(aw:List<|List AV)(y:AV)(c:Option<|List AV)(h:lf args aw y c):aw.length=2:=by obtain⟨N,cap,g,cc,n,cv,l,l',_,rfl,_⟩:=h;rfl
noncomputable def gZ:FuncId×KE:=(12,.raw<|eU<|vL<|gM lf [])
theorem Si{B:aC}{g:FuncId}{c:AV}(mc:Mt [uv] B)(hc:c.bV=true):bp Tryz.prog B 271 (Fin Tryz.prog Tryz.f12.results.toList<|RN c) ⟨12,bt [.slice none 0<|.known 0,lb g],(max Tryz.f12.ntmps 2),[.code<|aJ Tryz.prog 12 []],[],none⟩<|ab (mB c) 271:=lC mc (L:=[uv]) (R:=RN c) (.rg<|.go 4<|.cg (.tuple []) nG (nQ c)<|.en<|.rt 2<|.no)<|BM (L:=[uv]) (f:=27) (R:=mh) (is:=[0]) (by as_aux_lemma=>kernel_rfl) (gM.bf mh.bf mh.two) (g:=g) hc (show Ek c from⟨rfl,rfl⟩)
section
variable {B:aC} {g:FuncId} {c:AV} {n:Int} {cv:Int->Int->Int} {N:Nat} {cap:bc} {l l1:List Int}
theorem Sj(mc:Mt [uv] B)(cA:CI g c n cv)(hr:Rg l n)(hN:l.length=N)(hl:N<=1000000)(h:bG cv l 0 N l1):aN B Tryz.f12 l1 c ⟨12,bt [.slice (some (270,0)) N cap,dv g],(max Tryz.f12.ntmps 2),[.code<|aJ Tryz.prog 12 []],[],none⟩<|ab (mR l c) 272:=rS mc (.rg<|.go 4<|.cg (.tuple []) (lG<|l1) (lQ (l) c)<|.en<|.rt 2<|.no)<|lL (L:=[uv]) (f:=27) (R:=gM mh [0]) (by as_aux_lemma=>kernel_rfl) (gM.bf mh.bf mh.two) (N:=N) (cap:=cap) (is:=[((N:Nat):Int)]) (g:=g) cA.hi (.inl ⟨N,cap,g,c,n,cv,l,l1,rfl,rfl,rfl,rfl,cA,hr,hN,hl,h⟩) (by omega) h.len (show mw l1 c from nC)
end
theorem NU(hP:dp Tryz.prog){L:bZ}(h:cL L):cL<|gZ::L:=by
 refine mZ hP h (NT hP gE) Tryz.func12 fun args aw y c e=>?_;rcases e with e|⟨g,cc,hc,rfl,rfl,rfl,rfl⟩
 ·obtain⟨N,cap,g,cc,n,cv,l,l',rfl,rfl,rfl,rfl,hc,hr,hN,hl,h⟩:=e;exact⟨aL.1 (by kernel_rfl),fun B mc=>tV<|Sj mc hc hr hN hl h⟩
 ·exact⟨aL.1 (by kernel_rfl),fun B mc=>tU<|Si mc hc⟩
end Du
end
section
open Go Go.Rn Go.RowKit Go.Proofs
namespace z5
open dP eg fq fO gY mg mf pK wc wZ Du um
noncomputable def xR(l:List At)(i:Nat):List<|Nat×AV:=[(3,.ptr<|some (270,0)),(13,az aj l),(14,.int .i64 (l.length:Int)),(15,.int .i64 (i:Int)),(6,.slice none 0<|.known 0)]
noncomputable def KN:List Item:=[.code<|aJ Tryz.prog 6 [1,1,1,0,1,0,0],.inLoop<|aJ Tryz.prog 6 [1,1,1,0,1,0,0],.inBlock 0,.code<|aJ Tryz.prog 6 [1,1,1,1]]
noncomputable def oU(l:List At)(i:Nat):AF:=⟨6,cH<|xR l i,(max Tryz.f6.ntmps 2),KN,[],none⟩
noncomputable def gi(l:List At)(i:Nat)(r:List Int):List<|Nat×AV:=[(3,.ptr<|some (270,0)),(13,az aj l),(14,.int .i64 (l.length:Int)),(15,.int .i64 (i:Int)),(6,.slice (some (271,0)) r.length<|.bA r.length 1)]
noncomputable def KS:List Item:=[.code<|aJ Tryz.prog 6 [1,1,1,0,1,0,0],.inLoop<|aJ Tryz.prog 6 [1,1,1,0,1,0,0],.inBlock 0,.code<|aJ Tryz.prog 6 [1,1,1,1]]
noncomputable def dQ(l:List At)(i:Nat)(r:List Int):AF:=⟨6,cH<|gi l i r,(max Tryz.f6.ntmps 2),KS,[],none⟩
def gC(r:List Int)(e:Int):List<|Nat×AV:=[(4,az aH r),(5,i6 e)]
noncomputable def KR:List Item:=[.code<|aJ Tryz.prog 6 [1,1,1,1,1,1]]
noncomputable def gD(r:List Int)(e:Int)(K:List Item):AF:=⟨6,cH<|gC r e,(max Tryz.f6.ntmps 2),K,[],none⟩
abbrev lg(r:List Int)(e:Int):AV:=.tuple [az aH r,i6 e]
abbrev ft(B:aC)(r:List Int)(e:Int)(fr:AF)(s:AS):Prop:=Sm B Tryz.f6 (lg r e) fr s
theorem Dv{init:List Int}{l:List At}{b:Bool}(hl:l.length<=1000000)(hs:sF l)(h:iW init l↔b=true):jD (fY uk) [az aH init,az aj l]=some (.bool b):=pa (pb uk.bf ⟨init,l,rfl,hl,hs,by congr 1;cases b<;>simp[h]⟩) (by show((Nat.ble top<|nm _)&&((Nat.ble top<|nm _)&&true))=true;rw[aL.2<|aQ _,aL.2<|aQ _];rfl) rfl
theorem Au(a:At)(l:List At)(i:Nat)(hx:eK FU (nm (l.map aj).flatten) (0+((i:Nat):Int).toNat*9) 9=some (aj a)):cellsOf (some<|au<|aj a) 6 1=some [.bool a.cm]:=by kernel_rfl
abbrev sJ(lo bJ nx:Nat)(l0:List<|Nat×AV)(o0:List<|Nat×Option U)(l1:List<|Nat×AV)(o1:List<|Nat×Option U)(fr:AF)(s:AS):Prop:=(l0.map (fun q=>some q.2)=l0.map (fun q=>some q.2))/\(o0.map (fun q=>q.2)=o0.map (fun q=>q.2))/\kW FU lo bJ l0 o0 l1 o1 nx/\(fr=fr/\s=s)
theorem uU{lo bJ nx:Nat}{l0 l1:List<|Nat×AV}{o0 o1:List<|Nat×Option U}{fr:AF}{s:AS}(h:kW FU lo bJ l0 o0 l1 o1 nx):sJ lo bJ nx l0 o0 l1 o1 fr s:=⟨rfl,rfl,h,rfl,rfl⟩
theorem Jr{bJ:Nat}{e:Int}(h1:270<=bJ)(h2:bJ<top):kW FU 270 bJ [(4,.slice none 0<|.known 0),(5,i6 e)] ar (gC [] e) ar 270:=
 C0 (fz:=[]) (by omega) h1 h2 (fun r hr ht p hp=>by
  simp only[gC,List.mem_cons,List.not_mem_nil,or_false] at hp;rcases hp with rfl|rfl
  ·exact⟨by show 4<top;unfold top;omega,_,mi 0,NH⟩
  ·exact⟨by show 5<top;unfold top;omega,_,mi 1,(cn.int _ _).z⟩) (fun r hr ht p hp=>by
  obtain⟨a,b⟩:=C1 (fz:=[]) hr p hp;refine⟨a,fun y hy=>?_⟩;obtain⟨c,d⟩:=b y hy;exact⟨c,y,by rw[←hy];exact hp,gU.refl _,d⟩) (fun p hp=>by cases hp)
theorem Sk{bJ:Nat}{e:Int}{r:List Int}{k:Nat}(hk:k=r.length)(hl:r.length<=1000000)(h1:272<=bJ)(h2:bJ<top):kW FU 270 bJ [(4,.slice (some (271,0)) k<|.bA k 1),(5,i6 e)] (ar++[(271,some<|aG aH r)]) (gC r e) ar 270:=by
 subst hk;exact C0 (fz:=[(271,nm (r.map aH).flatten,(r.map aH).flatten)]) (by omega) (by omega) h2 (fun f hr ht p hp=>by
  simp only[gC,List.mem_cons,List.not_mem_nil,or_false] at hp;rcases hp with rfl|rfl
  ·exact⟨by show 4<top;unfold top;omega,_,mi 0,NG (List.mem_singleton.2 rfl) ht rfl⟩
  ·exact⟨by show 5<top;unfold top;omega,_,mi 1,(cn.int _ _).z⟩) (fun f hr ht p hp=>by
  obtain⟨a,b⟩:=C1 (fz:=[(271,nm (r.map aH).flatten,(r.map aH).flatten)]) hr p hp;refine⟨a,fun y hy=>?_⟩;obtain⟨c,d⟩:=b y hy;exact⟨c,y,List.mem_append_left _ (by rw[←hy];exact hp),gU.refl _,d⟩) (fun p hp=>by
  rw[List.mem_singleton] at hp;subst hp;exact⟨by show 270<=271;omega,NI eI (by unfold top;omega) 271 (by unfold top;omega)<|List.mem_append_right _ List.mem_cons_self⟩)
theorem Js{l:List At}{i:Nat}{r':List Int}{n bJ:Nat}{x0:AV}(hx:x0= .slice (some (n,0)) r'.length (.bA r'.length 1))(hn:271<=n)(iZ:n<bJ)(hs:bJ<1000)(hl:r'.length<=1000000)(h1:272<=bJ):
 kW FU 270 bJ [(3,.ptr<|some (270,0)),(13,az aj l),(14,.int .i64 (l.length:Int)),(15,.int .i64 (i:Int)),(6,x0)] (ar++[(270,some<|au [az aj l]),(n,some<|aG aH r')]) (gi l i r') (ar++[(270,some<|au [az aj l]),(271,some<|aG aH r')]) 272:=by
 subst hx;have Sl:bJ<top:=by unfold top;omega
 have e0:∀r,r=je [(270,270),(271,n)] 270 bJ->r 270=270/\r 271=n:=fun r h=>by subst h;exact⟨rfl,rfl⟩
 refine PA (ps:=[(270,270),(271,n)]) (Nat.le_refl _) ?_ ?_ (fun r hr ht=>?_) fun r hr ht=>?_
 ·show(((Nat.ble 270 270&&(Nat.blt 270 272&&(Nat.ble 270 270&&Nat.blt 270 top)))&&((Nat.ble 270 271&&(Nat.blt 271 272&&(Nat.ble 270 n&&Nat.blt n top)))&&true))&&(Nat.ble 270 272&&(Nat.ble 272 top&&(Nat.blt bJ top&&([270,271].all fun m=>Nat.blt m 270||[(270,270),(271,n)].any fun p=>Nat.beq p.1 m)))))=true;rw[aL.2 (show 270<=n by omega),(blt_eq n top).mpr (by omega),(blt_eq bJ top).mpr Sl,(blt_eq 270 top).mpr (by unfold top;omega),aL.2 (show 272<=top by unfold top;omega)];rfl
 ·show(((!(Nat.beq 270 270)||Nat.beq 270 270)&&((!(Nat.beq 270 n)||Nat.beq 270 271)&&true))&&(((!(Nat.beq n 270)||Nat.beq 271 270)&&((!(Nat.beq n n)||Nat.beq 271 271)&&true))&&true))=true;rw[show Nat.beq 270 n=false by cases h:Nat.beq 270 n with|false=>rfl|true=>have:=Nat.eq_of_beq_eq_true h;omega,show Nat.beq n 270=false by cases h:Nat.beq n 270 with|false=>rfl|true=>have:=Nat.eq_of_beq_eq_true h;omega];simp
 ·obtain⟨e1,e2⟩:=e0 r hr;exact⟨⟨by show 3<top;unfold top;omega,_,mi 0,(cn.ptr e1).z⟩,⟨by show 13<top;unfold top;omega,_,mi 1,yY ht⟩,⟨by show 14<top;unfold top;omega,_,mi 2,vi⟩,⟨by show 15<top;unfold top;omega,_,mi 3,vi⟩,⟨by show 6<top;unfold top;omega,_,mi 4,(cn.slice e2).z⟩,trivial⟩
 ·obtain⟨e1,e2⟩:=e0 r hr;exact⟨Jo (mi 0) e1 B4<|ON (l:=[az aj l]) (m:=[az aj l]) ⟨yY ht,trivial⟩,Jo (mi 1) e2 B4 (fX.aG (fun x=>⟨rfl,rfl⟩) (by rw[tz];unfold top;omega)).z,trivial⟩
noncomputable abbrev sQ(r:List Int)(c:AV):AS->Prop:=rp 270 dI eH [271,270] [cY r,[c]]
noncomputable abbrev sG(r:List Int):AS->AS:=CX 270 dI eH 271 [270]<|cY r
abbrev SQ(r:List Int)(c:AV):Prop:=true=true/\(true=true/\some (aG aH r)=some (au<|cY r))/\(true=true/\some (au [c])=some (au [c]))/\True
theorem Nb{L:bZ}(hs:sp L 12=some (eU (vL<|gM lf []) 270 eH dI)){k:Nat}{cap:bc}{r r':List Int}{c:AV}{T:Prop}(hc:c.bV=true)(h:lf (iP k cap [] 13) [cY r,[c]] (.tuple [])<|some<|cY r')(hl:r.length<=1000000)(iC:r'.length=r.length)(t:T):
 (∀z,sQ r c z->br Tryz.prog (sp L) FU 6 (.fn 12) [.slice (some (271,0)) k cap,lb 13] z= .ok (.tuple []) (sG r' z))/\SQ r c/\T:=by
 refine⟨?_,⟨rfl,⟨rfl,rfl⟩,⟨rfl,rfl⟩,trivial⟩,t⟩;have ht:r.length<=top:=by unfold top;omega
 refine HJ (n:=5) (N:=[270]) (m:=271) (c:=cY r') hs rfl (by kernel_rfl) (by decide) rfl (by kernel_rfl) ?_ ?_ rfl ?_
 ·show(((cY r).all AV.bV&&Nat.ble (cY r).length top)&&(((c.bV&&true)&&Nat.ble 1 top)&&true))=true;rw[zg,tz,aL.2 ht,hc,aL.2 (show 1<=top by unfold top;omega)];rfl
 ·exact wa (gM.bf lf.bf lf.two)<|.inl h
 ·rw[zg,tz,iC,aL.2 ht];rfl
section
variable {B:aC} {l:List At} {i:Nat} {r r' q:List Int} {e:Int} {a:At} {init:List Int}
noncomputable def KF:List Item:=[.code<|aJ Tryz.prog 6 [1,0,1,0,1],.code<|aJ Tryz.prog 6 [1,1]]
theorem w1(mc:Mt [gH,gZ] B)(hl:l.length<=1000000)(hs:sF l)(h:¬iW init l)(H:ft B r e (gD [] 4 KF)<|ab ar 270):ft B r e ⟨6,bt [az aH init,az aj l],(max Tryz.f6.ntmps 2),[.code<|aJ Tryz.prog 6 []],[],none⟩<|ab ar 270:=vC mc H (.st 4<|.rg<|.go 2<|.kn (.bool false)<|.go 1<|.en<|.st 3<|.rn [(4,.slice none 0<|.known 0),(5,i6 4)] ar (gC [] 4) ar 271 270 .no)<|And.intro (Dv (init:=init) (l:=l) (b:=false) hl hs ⟨fun q=>absurd q h,fun q=>by cases q⟩) (show sJ 270 271 270 [(4,.slice none 0<|.known 0),(5,i6 4)] ar (gC [] 4) ar (gD [] 4 KF) (ab ar 270) from uU<|Jr (by omega) (by unfold top;omega))
theorem Sn(mc:Mt [gH,gZ] B):ft B r e (gD r e KF)<|ab ar 270:=wS mc (L:=[gH,gZ]) (R:=fun r0 _=>r0=lg r e) (.rt 2<|.no) (show lg r e=lg r e from rfl)
theorem Jt(mc:Mt [gH,gZ] B):ft B r e (gD r e KR)<|ab ar 270:=wS mc (L:=[gH,gZ]) (R:=fun r0 _=>r0=lg r e) (.rt 2<|.no) (show lg r e=lg r e from rfl)
theorem w2(mc:Mt [gH,gZ] B)(hl:l.length<=1000000)(hs:sF l)(h:iW init l)(H:ft B r e (oU l<|0)<|ab (mB<|az aj l) 271):ft B r e ⟨6,bt [az aH init,az aj l],(max Tryz.f6.ntmps 2),[.code<|aJ Tryz.prog 6 []],[],none⟩<|ab ar 270:=vC mc H (.st 4<|.rg<|.go 2<|.kn (.bool true)<|.go 1<|.en<|.st 9<|.ls (xR l<|0) (mB<|az aj l) 271 .no)<|And.intro (Dv (init:=init) (l:=l) (b:=true) hl hs ⟨fun _=>rfl,fun _=>h⟩) (show bL (xR l<|0) (mB<|az aj l) (oU l<|0) (ab (mB<|az aj l) 271) from bQ)
theorem n1(mc:Mt [gH,gZ] B)(hl:l.length<=1000000)(hi:i<l.length)(hx:eK FU (nm (l.map aj).flatten) (0+((i:Nat):Int).toNat*9) 9=some (aj a))(hc:a.cm=false)(H:ft B q e (oU l<|i+1)<|ab (mB<|az aj l) 271):ft B q e (oU l i)<|ab (mB<|az aj l) 271:=vC mc H (.st 1<|.rg<|.fk (.en<|.st 6<|.rg<|.go 1<|.a9<|.ba (aj a)<|.go 3<|.en<|.st 1<|.rg<|.go 1<|.jL (a.cm) .no<|.en<|.st 3<|.rg<|.vl (.int .i64 ((i+1:Nat):Int))<|.go 1<|.en<|.st 1<|.bk (xR l<|i+1) (mB<|az aj l) 271 .no) .no)<|av ((i:Int)<(l.length:Int)) (fun _=>(And.intro (show(0:Int)<=(i:Int) by omega)<|And.intro (show(i:Int)<((l.length:Nat):Int) by omega)<|And.intro (aQ (l.map aj).flatten)<|And.intro (hx)<|And.intro (Au a l i hx)<|And.intro (fun(h:a.cm=true)=>show False by rw[hc] at h;cases h) fun(_:a.cm=false)=>(And.intro (wN ((i:Int)+1)<|i+1) (show p6 271 (xR l<|i+1) (mB<|az aj l) (oU l<|i+1) (ab (mB<|az aj l) 271) from sD<|rF (by omega) ⟨sC (by omega),mA,fU,fU,fun r _ _=>cn.GF,trivial⟩ ⟨lD<|Aq (by show 1<=top;unfold top;omega) (fun c hc=>by rw[List.mem_singleton] at hc;subst hc;exact mA) rfl,trivial⟩)))) (fun h=>show False by omega)
theorem s1(mc:Mt [gH,gZ] B)(hl:l.length<=1000000)(hi:i<l.length)(hx:eK FU (nm (l.map aj).flatten) (0+((i:Nat):Int).toNat*9) 9=some (aj a))(hr:r.length<=1000000)(hc:a.cm=false)(H:ft B q e (dQ l (i+1) r)<|ab (ar++[(270,some<|au [az aj l]),(271,some<|aG aH r)]) 272):ft B q e (dQ l i r)<|ab (ar++[(270,some<|au [az aj l]),(271,some<|aG aH r)]) 272:=vC mc H (.st 1<|.rg<|.fk (.en<|.st 6<|.rg<|.go 1<|.a9<|.ba (aj a)<|.go 3<|.en<|.st 1<|.rg<|.go 1<|.jL (a.cm) .no<|.en<|.st 3<|.rg<|.vl (.int .i64 ((i+1:Nat):Int))<|.go 1<|.en<|.st 1<|.bk (gi l (i+1) r) (ar++[(270,some<|au [az aj l]),(271,some<|aG aH r)]) 272 .no) .no)<|av ((i:Int)<(l.length:Int)) (fun _=>(And.intro (show(0:Int)<=(i:Int) by omega)<|And.intro (show(i:Int)<((l.length:Nat):Int) by omega)<|And.intro (aQ (l.map aj).flatten)<|And.intro (hx)<|And.intro (Au a l i hx)<|And.intro (fun(h:a.cm=true)=>show False by rw[hc] at h;cases h) fun(_:a.cm=false)=>(And.intro (wN ((i:Int)+1)<|i+1) (show p6 272 (gi l (i+1) r) (ar++[(270,some<|au [az aj l]),(271,some<|aG aH r)]) (dQ l (i+1) r) (ab (ar++[(270,some<|au [az aj l]),(271,some<|aG aH r)]) 272) from sD<|rF (by omega) ⟨sC (by omega),mA,fU,fU,RL (by omega),trivial⟩ ⟨lD<|Aq (by show 1<=top;unfold top;omega) (fun c hc=>by rw[List.mem_singleton] at hc;subst hc;exact mA) rfl,lD (RP<|by omega),trivial⟩)))) (fun h=>show False by omega)
theorem n2(mc:Mt [gH,gZ] B)(hl:l.length<=1000000)(hi:i<l.length)(hx:eK FU (nm (l.map aj).flatten) (0+((i:Nat):Int).toNat*9) 9=some (aj a))(hc:a.cm=true)(H:ft B q e (dQ l (i+1)<|[((i:Nat):Int)])<|ab (ar++[(270,some<|au [az aj l]),(271,some<|aG aH<|[((i:Nat):Int)])]) 272):ft B q e (oU l i)<|ab (mB<|az aj l) 271:=vC mc H (.st 1<|.rg<|.fk (.en<|.st 6<|.rg<|.go 1<|.a9<|.ba (aj a)<|.go 3<|.en<|.st 1<|.rg<|.go 1<|.jL (a.cm) (.en<|.st 3<|.rg<|.vl (.int .i64 ((i+1:Nat):Int))<|.go 1<|.en<|.st 1<|.rn [(3,.ptr<|some (270,0)),(13,az aj l),(14,.int .i64 (l.length:Int)),(15,.int .i64 ((i+1:Nat):Int)),(6,.slice (some (273,0)) ([((i:Nat):Int)]).length<|.bA ([((i:Nat):Int)]).length 1)] (ar++[(270,some<|au [az aj l]),(273,some<|aG aH<|[((i:Nat):Int)])]) (gi l (i+1)<|[((i:Nat):Int)]) (ar++[(270,some<|au [az aj l]),(271,some<|aG aH<|[((i:Nat):Int)])]) 274 272 .no) .no) .no)<|av ((i:Int)<(l.length:Int)) (fun _=>(And.intro (show(0:Int)<=(i:Int) by omega)<|And.intro (show(i:Int)<((l.length:Nat):Int) by omega)<|And.intro (aQ (l.map aj).flatten)<|And.intro (hx)<|And.intro (Au a l i hx)<|And.intro (fun(_:a.cm=true)=>(And.intro (wN ((i:Int)+1)<|i+1) (show sJ 270 274 272 [(3,.ptr<|some (270,0)),(13,az aj l),(14,.int .i64 (l.length:Int)),(15,.int .i64 ((i+1:Nat):Int)),(6,.slice (some (273,0)) ([((i:Nat):Int)]).length<|.bA ([((i:Nat):Int)]).length 1)] (ar++[(270,some<|au [az aj l]),(273,some<|aG aH<|[((i:Nat):Int)])]) (gi l (i+1)<|[((i:Nat):Int)]) (ar++[(270,some<|au [az aj l]),(271,some<|aG aH<|[((i:Nat):Int)])]) (dQ l (i+1)<|[((i:Nat):Int)]) (ab (ar++[(270,some<|au [az aj l]),(271,some<|aG aH<|[((i:Nat):Int)])]) 272) from uU<|Js rfl (by omega) (by omega) (by omega) (by simp only[List.length_append,List.length_cons,List.length_nil];omega)<|by omega))) (fun(h:a.cm=false)=>show False by rw[hc] at h;cases h))) (fun h=>show False by omega)
theorem s2(mc:Mt [gH,gZ] B)(hl:l.length<=1000000)(hi:i<l.length)(hx:eK FU (nm (l.map aj).flatten) (0+((i:Nat):Int).toNat*9) 9=some (aj a))(hr:r.length<=100000)(hc:a.cm=true)(H:ft B q e (dQ l (i+1)<|r++[((i:Nat):Int)])<|ab (ar++[(270,some<|au [az aj l]),(271,some<|aG aH<|r++[((i:Nat):Int)])]) 272):ft B q e (dQ l i r)<|ab (ar++[(270,some<|au [az aj l]),(271,some<|aG aH r)]) 272:=vC mc H (.st 1<|.rg<|.fk (.en<|.st 6<|.rg<|.go 1<|.a9<|.ba (aj a)<|.go 3<|.en<|.st 1<|.rg<|.go 1<|.jL (a.cm) (.en<|.st 1<|.rg<|.go 3<|.ap Int aH r ((i:Nat):Int)<|.go 1<|.en<|.st 1<|.rg<|.vl (.int .i64 ((i+1:Nat):Int))<|.go 1<|.en<|.st 1<|.rn [(3,.ptr<|some (270,0)),(13,az aj l),(14,.int .i64 (l.length:Int)),(15,.int .i64 ((i+1:Nat):Int)),(6,.slice (some (274,0)) (r++[((i:Nat):Int)]).length<|.bA (r++[((i:Nat):Int)]).length 1)] (ar++[(270,some<|au [az aj l]),(274,some<|aG aH<|r++[((i:Nat):Int)])]) (gi l (i+1)<|r++[((i:Nat):Int)]) (ar++[(270,some<|au [az aj l]),(271,some<|aG aH<|r++[((i:Nat):Int)])]) 275 272 .no) .no) .no)<|av ((i:Int)<(l.length:Int)) (fun _=>(And.intro (show(0:Int)<=(i:Int) by omega)<|And.intro (show(i:Int)<((l.length:Nat):Int) by omega)<|And.intro (aQ (l.map aj).flatten)<|And.intro (hx)<|And.intro (Au a l i hx)<|And.intro (fun(_:a.cm=true)=>(R9 aH r ((i:Nat):Int) (K:=1) (xM:=8) (fun x=>⟨rfl,rfl⟩) (by unfold room;omega) (by unfold top;omega)<|And.intro (wN ((i:Int)+1)<|i+1) (show sJ 270 275 272 [(3,.ptr<|some (270,0)),(13,az aj l),(14,.int .i64 (l.length:Int)),(15,.int .i64 ((i+1:Nat):Int)),(6,.slice (some (274,0)) (r++[((i:Nat):Int)]).length<|.bA (r++[((i:Nat):Int)]).length 1)] (ar++[(270,some<|au [az aj l]),(274,some<|aG aH<|r++[((i:Nat):Int)])]) (gi l (i+1)<|r++[((i:Nat):Int)]) (ar++[(270,some<|au [az aj l]),(271,some<|aG aH<|r++[((i:Nat):Int)])]) (dQ l (i+1)<|r++[((i:Nat):Int)]) (ab (ar++[(270,some<|au [az aj l]),(271,some<|aG aH<|r++[((i:Nat):Int)])]) 272) from uU<|Js rfl (by omega) (by omega) (by omega) (by simp only[List.length_append,List.length_cons,List.length_nil];omega)<|by omega))) (fun(h:a.cm=false)=>show False by rw[hc] at h;cases h))) (fun h=>show False by omega)
theorem n3(mc:Mt [gH,gZ] B)(hi:l.length<=i)(H:ft B q e (gD [] 0 KR)<|ab ar 270):ft B q e (oU l i)<|ab (mB<|az aj l) 271:=vC mc H (.st 1<|.rg<|.fk .no<|.en<|.st 4<|.rg<|.go 2<|.cg (.tuple []) nG (nQ<|az aj l)<|.en<|.st 2<|.rn [(4,.slice none 0<|.known 0),(5,i6 0)] ar (gC [] 0) ar 271 270 .no)<|av ((i:Int)<(l.length:Int)) (fun h=>show False by omega) fun _=>(BM (L:=[gH,gZ]) (f:=12) (R:=lf) (is:=[]) (by as_aux_lemma=>kernel_rfl) (gM.bf lf.bf lf.two) (g:=13) (c:=az aj l) (aL.2<|aQ _) (show sJ 270 271 270 [(4,.slice none 0<|.known 0),(5,i6 0)] ar (gC [] 0) ar (gD [] 0 KR) (ab ar 270) from uU<|Jr (by omega) (by unfold top;omega)))
theorem s3(mc:Mt [gH,gZ] B)(hi:l.length<=i)(hr:r.length<=1000000)(ha:zB l)(hg:Rg r (l.length:Int))(h:bG (nD l) r 0 r.length r')(H:ft B q e (gD r' 0 KR)<|ab ar 270):ft B q e (dQ l i r)<|ab (ar++[(270,some<|au [az aj l]),(271,some<|aG aH r)]) 272:=vC mc H (.st 1<|.rg<|.fk .no<|.en<|.st 4<|.rg<|.go 2<|.cg (.tuple []) (sG r') (sQ r<|az aj l)<|.en<|.st 2<|.rn [(4,.slice (some (271,0)) r.length<|.bA r.length 1),(5,i6 0)] (ar++[(271,some<|aG aH r')]) (gC r' 0) ar 272 270 .no)<|av ((i:Int)<(l.length:Int)) (fun h=>show False by omega) fun _=>(Nb (L:=[gH,gZ]) (by as_aux_lemma=>kernel_rfl) (k:=r.length) (cap:=.bA r.length 1) (r:=r) (r':=r') (c:=az aj l) (aL.2<|aQ _) ⟨r.length,.bA r.length 1,13,az aj l,(l.length:Int),nD l,r,r',rfl,rfl,rfl,rfl,⟨l,rfl,rfl,rfl,rfl,ha⟩,hg,rfl,hr,h⟩ hr h.len (show sJ 270 272 270 [(4,.slice (some (271,0)) r.length<|.bA r.length 1),(5,i6 0)] (ar++[(271,some<|aG aH r')]) (gC r' 0) ar (gD r' 0 KR) (ab ar 270) from uU<|Sk h.len.symm (by rw[h.len];exact hr) (by omega) (by unfold top;omega)))
end
end z5
end
section
open Go Go.Rn Go.RowKit Go.Proofs
namespace wh
open dP eg fq fO gY mg mf pK wc wZ Du um z5
def fI(l:List At)(i:Nat):List Int:=((List.range i).filter fun(k:Nat)=>(ae l ((k:Nat):Int)).cm).map fun(k:Nat)=>((k:Nat):Int)
theorem aab(l:List At):fI l 0=[]:=rfl
theorem GU(l:List At)(i:Nat):fI l (i+1)=if(ae l (i:Int)).cm=true then fI l i++[((i:Nat):Int)] else fI l i:=by
 unfold fI;rw[List.range_succ,List.filter_append];cases h:(ae l ((i:Nat):Int)).cm with
 |true=>rw[if_pos rfl,List.filter_cons_of_pos (by exact h),List.map_append];rfl
 |false=>rw[if_neg (by intro h;cases h),List.filter_cons_of_neg (by rw[h];intro h;cases h)];simp
theorem B5(l:List At)(i:Nat):(fI l i).length<=i:=by unfold fI;rw[List.length_map];exact Nat.le_trans (List.length_filter_le _ _) (by rw[List.length_range];exact Nat.le_refl _)
theorem B6{l:List At}{i:Nat}{x:Int}:x∈fI l i↔∃k:Nat,x=(k:Int)/\k<i/\(ae l (k:Int)).cm=true:=by
 unfold fI;rw[List.mem_map];constructor
 ·rintro ⟨k,h,rfl⟩;rw[List.mem_filter,List.mem_range] at h;exact⟨k,rfl,h.1,h.2⟩
 ·rintro ⟨k,rfl,h1,h2⟩;exact⟨k,by rw[List.mem_filter,List.mem_range];exact⟨h1,h2⟩,rfl⟩
theorem Gk(l:List At)(i:Nat):(fI l i).Nodup:=by unfold fI;refine List.Pairwise.map _ (fun a b h=>?_)<|List.Pairwise.filter _ List.nodup_range;show((a:Nat):Int)≠(b:Int);intro e;exact h (by omega)
theorem Cw(l:List At):Rg (fI l l.length) (l.length:Int):=fun x hx=>by obtain⟨k,rfl,h,_⟩:=B6.1 hx;omega
theorem HO{v:Int}:∀{l:List At} {last:Int} {m:List Int},kZ v l last m->(∀a∈l,last<a.fr)/\l.Pairwise (fun a b=>a.fr<b.fr)
 |[],_,_,_=>⟨fun a h=>(by cases h),.nil⟩
 |a::l,last,m,h=>by
  obtain⟨h1,h2⟩:=HO h.2;have h0:=h.1.fr;refine⟨fun b hb=>?_,.cons h1 h2⟩;rcases List.mem_cons.1 hb with rfl|hb
  ·omega
  ·have:=h1 b hb;omega
theorem pe{l:List At}{k:Nat}(h:k<l.length):ae l (k:Int)=l[k]:=by unfold ae;rw[Int.toNat_natCast,List.getD_eq_getElem?_getD,List.getElem?_eq_getElem h];rfl
theorem apart{init:List Int}{l:List At}(h:iW init l):zB l:=fun x y hx hy e=>by
 have p:=(HO h.2).2;rw[List.pairwise_iff_getElem] at p;obtain⟨i,rfl⟩:∃i:Nat,x=(i:Int):=⟨x.toNat,by omega⟩;obtain⟨j,rfl⟩:∃j:Nat,y=(j:Int):=⟨y.toNat,by omega⟩;rw[pe (by omega),pe<|by omega] at e;rcases Nat.lt_trichotomy i j with q|q|q
 ·have:=p i j (by omega) (by omega) q;omega
 ·rw[q]
 ·have:=p j i (by omega) (by omega) q;omega
section
variable {B:aC} {l:List At} {q:List Int} {e:Int}
theorem z6{i:Nat}(h:i<l.length):eK FU (nm (l.map aj).flatten) (0+((i:Nat):Int).toNat*9) 9=some (aj<|ae l (i:Int)):=oy (l:=l) (x:=(i:Int)) (by omega) (by omega)
theorem zZ(mc:Mt [gH,gZ] B)(hl:l.length<=100000)(H:∀r,r=fI l l.length->ft B q e (dQ l l.length r) (ab (ar++[(270,some<|au [az aj l]),(271,some<|aG aH r)]) 272)):
 ∀(n i:Nat),l.length - i=n->i<=l.length->ft B q e (dQ l i<|fI l i) (ab (ar++[(270,some<|au [az aj l]),(271,some<|aG aH<|fI l i)]) 272)
 |0,i,h,hi=>by
  obtain rfl:i=l.length:=by omega
  exact H _ rfl
 |n+1,i,h,hi=>by
  have hk:i<l.length:=by omega
  have hr:=B5 l i;have:=zZ mc hl H n (i+1) (by omega) (by omega);rw[GU] at this;cases hc:(ae l (i:Int)).cm with
  |true=>rw[hc,if_pos rfl] at this;exact s2 mc (by omega) hk (z6 hk) (by omega) hc this
  |false=>rw[hc,if_neg (by intro h;cases h)] at this;exact s1 mc (by omega) hk (z6 hk) (by omega) hc this
theorem IP(mc:Mt [gH,gZ] B)(hl:l.length<=100000)(H:∀r,r=fI l l.length->ft B q e (dQ l l.length r) (ab (ar++[(270,some<|au [az aj l]),(271,some<|aG aH r)]) 272))(H0:fI l l.length=[]->ft B q e (oU l l.length) (ab (mB<|az aj l) 271)):
 ∀(n i:Nat),l.length - i=n->i<=l.length->fI l i=[]->ft B q e (oU l i) (ab (mB<|az aj l) 271)
 |0,i,h,hi,h0=>by
  obtain rfl:i=l.length:=by omega
  exact H0 h0
 |n+1,i,h,hi,h0=>by
  have hk:i<l.length:=by omega
  have e1:=GU l i;rw[h0] at e1;cases hc:(ae l (i:Int)).cm with
  |true=>rw[hc,if_pos rfl] at e1;have:=zZ mc hl H n (i+1) (by omega) (by omega);rw[e1] at this;exact n2 mc (by omega) hk (z6 hk) hc this
  |false=>rw[hc,if_neg (by intro h;cases h)] at e1;exact n1 mc (by omega) hk (z6 hk) hc<|IP mc hl H H0 n (i+1) (by omega) (by omega) e1
end
def m9(l:List At)(r:List Int):Prop:=bG (nD l) (fI l l.length) 0 (fI l l.length).length r
def uw(args:List AV)(v:AV):Prop:=∃(init:List Int) (l:List At),args=[az aH init,az aj l]/\l.length<=100000/\sF l/\((¬iW init l/\v=lg [] 4)\/(iW init l/\∃r,m9 l r/\v=lg r 0))
theorem uw.bf(args:List AV)(v v':AV)(h:uw args v)(h':uw args v'):v=v':=by
 obtain⟨i,l,rfl,_,_,h⟩:=h;obtain⟨i',l',e,_,_,h'⟩:=h';injection e with e1 e
 injection e with e2 _
 have e3:eO aH 1 (az aH i) i':=by rw[e1];exact eO.az eI i'
 obtain rfl:=eO.inj BJ (eO.az eI i) e3;obtain rfl:=vE e2;rcases h with⟨h1,rfl⟩|⟨h1,r,h2,rfl⟩<;>rcases h' with⟨k1,rfl⟩|⟨k1,r',k2,rfl⟩
 ·rfl
 ·exact absurd k1 h1
 ·exact absurd h1 k1
 ·rw[h2.bf (y7<|apart h1) (Cw l) (Nat.zero_le _) (Nat.le_refl _) k2]
noncomputable def IQ:FuncId×KE:=(6,.val<|fY uw)
theorem B7(hP:dp Tryz.prog){L:bZ}(h:cL L):cL<|IQ::L:=by
 refine rE hP h (Hn hP<|NU hP gE) Tryz.func6 fun args v e=>?_;obtain⟨init,l,rfl,hl,hs,h⟩:=o8 e;refine⟨aL.1 (by kernel_rfl),fun B mc=>?_⟩;rw[←pn];rcases h with⟨h1,rfl⟩|⟨h1,r,h2,rfl⟩
 ·exact w1 mc (by omega) hs h1<|Sn mc
 ·have hlen:=B5 l l.length;refine w2 mc (by omega) hs h1 (IP mc hl (fun p hp=>?_) (fun h0=>?_) _ 0 rfl (Nat.zero_le _) rfl)
  ·subst hp;exact s3 mc (Nat.le_refl _) (by omega) (apart h1) (Cw l) h2<|Jt mc
  ·have e:r=[]:=by have:=h2.len;rw[h0] at this;exact List.length_eq_zero_iff.1 this
   subst e;exact n3 mc (Nat.le_refl _)<|Jt mc
end wh
end
section
open Go Go.Rn Go.RowKit Go.Proofs
namespace Dw
open dP eg fq fO gY mf
noncomputable def xS(l:List At)(k:Nat):List<|Nat×AV:=[(1,az aj l),(10,.int .i64 (k:Int))]
noncomputable def KW:List Item:=[.code<|aJ Tryz.prog 4 [1,1,1,1,0,1,0,0],.inLoop<|aJ Tryz.prog 4 [1,1,1,1,0,1,0,0],.inBlock 4,.code<|aJ Tryz.prog 4 [1,1,1,1,1]]
noncomputable def oV(l:List At)(k:Nat):AF:=⟨4,cH<|xS l k,(max Tryz.f4.ntmps 2),KW,[],none⟩
noncomputable abbrev w4(init:List Int):AV:=.agg [i6 0,i6 0,i6 0,az aH init,.slice none 0<|.known 0]
theorem gv{l:List At}{x:Int}(h0:0<=x)(h1:x<(l.length:Int))(j:Nat)(hj:j<9):eK FU (nm (l.map aj).flatten) (0+x.toNat*9+j) 1=some (((aj<|ae l x).drop j).take 1):=by
 have e:l[x.toNat]? =some (ae l x):=by unfold ae;rw[List.getD_eq_getElem?_getD,List.getElem?_eq_getElem (show x.toNat<l.length by omega)];rfl
 rw[Nat.zero_add];exact qZ eA e j 1 (by omega)
abbrev nI(B:aC)(y:Bool)(fr:AF)(s:AS):Prop:=Sm B Tryz.f4 (.bool y) fr s
section
variable {B:aC} {y:Bool} {l:List At} {k:Nat} {init:List Int}
theorem d1(mc:Mt [] B)(h:init.length>100):nI B true ⟨4,bt [w4 init,az aj l],(max Tryz.f4.ntmps 2),[.code<|aJ Tryz.prog 4 []],[],none⟩<|ab ar 270:=wS mc (R:=fun r0 _=>r0= .bool true) (.st 4<|.rg<|.go 3<|.fk (.go 11<|.en<|.rt 5<|.no) .no)<|av (((init.length:Nat):Int)>100) (fun _=>(show AV.bool true=AV.bool true from rfl)) (fun h=>show False by omega)
theorem d2(mc:Mt [] B)(h0:¬init.length>100)(h:l.length>60):nI B true ⟨4,bt [w4 init,az aj l],(max Tryz.f4.ntmps 2),[.code<|aJ Tryz.prog 4 []],[],none⟩<|ab ar 270:=wS mc (R:=fun r0 _=>r0= .bool true) (.st 4<|.rg<|.go 3<|.fk .no<|.go 9<|.fk (.go 1<|.en<|.rt 5<|.no) .no)<|av (((init.length:Nat):Int)>100) (fun h=>show False by omega) fun _=>(av ((l.length:Int)>60) (fun _=>(show AV.bool true=AV.bool true from rfl)) (fun h=>show False by omega))
theorem d3(mc:Mt [] B)(h0:¬init.length>100)(h:¬l.length>60)(H:nI B y (oV l<|0)<|ab (ar) 270):nI B y ⟨4,bt [w4 init,az aj l],(max Tryz.f4.ntmps 2),[.code<|aJ Tryz.prog 4 []],[],none⟩<|ab ar 270:=vC mc H (.st 4<|.rg<|.go 3<|.fk .no<|.go 9<|.fk .no<|.go 1<|.en<|.st 19<|.bk (xS l<|0) (ar) 270 .no)<|av (((init.length:Nat):Int)>100) (fun h=>show False by omega) fun _=>(av ((l.length:Int)>60) (fun h=>show False by omega) fun _=>(show p6 270 (xS l<|0) (ar) (oV l<|0) (ab (ar) 270) from sD<|rF (o:=[]) (by omega) ⟨mA,fU,trivial⟩ trivial))
theorem t1(mc:Mt [] B)(hk:k<l.length)(h:(ae l (k:Int)).rd.length>2000):nI B true (oV l k)<|ab (ar) 270:=wS mc (R:=fun r0 _=>r0= .bool true) (.st 2<|.rg<|.go 3<|.fk (.en<|.st 5<|.rg<|.go 2<|.a9<|.go 1<|.ba ([az cD (ae l (k:Int)).rd])<|.go 1<|.fk (.go 9<|.en<|.rt 5<|.no) .no) .no)<|av ((k:Int)<(l.length:Int)) (fun _=>(And.intro (show(0:Int)<=(k:Int) by omega)<|And.intro (show(k:Int)<((l.length:Nat):Int) by omega)<|And.intro (aQ (l.map aj).flatten)<|And.intro (gv (l:=l) (x:=(k:Int)) (by omega) (by omega) 7<|by omega)<|av (((ae l (k:Int)).rd.length:Int)>2000) (fun _=>(show AV.bool true=AV.bool true from rfl)) (fun h=>show False by omega))) (fun h=>show False by omega)
theorem t2(mc:Mt [] B)(hk:k<l.length)(h0:¬(ae l (k:Int)).rd.length>2000)(h:(ae l (k:Int)).wr.length>100):nI B true (oV l k)<|ab (ar) 270:=wS mc (R:=fun r0 _=>r0= .bool true) (.st 2<|.rg<|.go 3<|.fk (.en<|.st 5<|.rg<|.go 2<|.a9<|.go 1<|.ba ([az cD (ae l (k:Int)).rd])<|.go 1<|.fk .no<|.go 3<|.a9<|.go 1<|.ba ([az cD (ae l (k:Int)).wr])<|.go 1<|.fk (.go 1<|.en<|.rt 5<|.no) .no) .no)<|av ((k:Int)<(l.length:Int)) (fun _=>(And.intro (show(0:Int)<=(k:Int) by omega)<|And.intro (show(k:Int)<((l.length:Nat):Int) by omega)<|And.intro (aQ (l.map aj).flatten)<|And.intro (gv (l:=l) (x:=(k:Int)) (by omega) (by omega) 7<|by omega)<|av (((ae l (k:Int)).rd.length:Int)>2000) (fun h=>show False by omega) fun _=>(And.intro (show(0:Int)<=(k:Int) by omega)<|And.intro (show(k:Int)<((l.length:Nat):Int) by omega)<|And.intro (aQ (l.map aj).flatten)<|And.intro (gv (l:=l) (x:=(k:Int)) (by omega) (by omega) 8<|by omega)<|av (((ae l (k:Int)).wr.length:Int)>100) (fun _=>(show AV.bool true=AV.bool true from rfl)) (fun h=>show False by omega)))) (fun h=>show False by omega)
theorem t3(mc:Mt [] B)(hl:l.length<=1000000)(hk:k<l.length)(h0:¬(ae l (k:Int)).rd.length>2000)(h:¬(ae l (k:Int)).wr.length>100)(H:nI B y (oV l<|k+1)<|ab (ar) 270):nI B y (oV l k)<|ab (ar) 270:=vC mc H (.st 2<|.rg<|.go 3<|.fk (.en<|.st 5<|.rg<|.go 2<|.a9<|.go 1<|.ba ([az cD (ae l (k:Int)).rd])<|.go 1<|.fk .no<|.go 3<|.a9<|.go 1<|.ba ([az cD (ae l (k:Int)).wr])<|.go 1<|.fk .no<|.go 1<|.en<|.st 3<|.rg<|.go 1<|.vl (.int .i64 ((k+1:Nat):Int))<|.go 1<|.en<|.st 1<|.ls (xS l<|k+1) (ar) 270 .no) .no)<|av ((k:Int)<(l.length:Int)) (fun _=>(And.intro (show(0:Int)<=(k:Int) by omega)<|And.intro (show(k:Int)<((l.length:Nat):Int) by omega)<|And.intro (aQ (l.map aj).flatten)<|And.intro (gv (l:=l) (x:=(k:Int)) (by omega) (by omega) 7<|by omega)<|av (((ae l (k:Int)).rd.length:Int)>2000) (fun h=>show False by omega) fun _=>(And.intro (show(0:Int)<=(k:Int) by omega)<|And.intro (show(k:Int)<((l.length:Nat):Int) by omega)<|And.intro (aQ (l.map aj).flatten)<|And.intro (gv (l:=l) (x:=(k:Int)) (by omega) (by omega) 8<|by omega)<|av (((ae l (k:Int)).wr.length:Int)>100) (fun h=>show False by omega) fun _=>(And.intro (wN ((k:Int)+1)<|k+1) (show bL (xS l<|k+1) (ar) (oV l<|k+1) (ab (ar) 270) from bQ))))) (fun h=>show False by omega)
theorem t4(mc:Mt [] B)(hk:l.length<=k):nI B false (oV l k)<|ab (ar) 270:=wS mc (R:=fun r0 _=>r0= .bool false) (.st 2<|.rg<|.go 3<|.fk .no<|.en<|.rt 6<|.no)<|av ((k:Int)<(l.length:Int)) (fun h=>show False by omega) fun _=>(show AV.bool false=AV.bool false from rfl)
end
def oz(init:List Int)(l:List At):Prop:=init.length>100\/l.length>60\/∃k:Nat,k<l.length/\((ae l (k:Int)).rd.length>2000\/(ae l (k:Int)).wr.length>100)
open Classical in
noncomputable def zC(init:List Int)(l:List At):Bool:=decide<|oz init l
theorem IS{B:aC}{y:Bool}{l:List At}(mc:Mt [] B)(hl:l.length<=60)(H1:(∃k:Nat,k<l.length/\((ae l (k:Int)).rd.length>2000\/(ae l (k:Int)).wr.length>100))->y=true)(H2:(¬∃k:Nat,k<l.length/\((ae l (k:Int)).rd.length>2000\/(ae l (k:Int)).wr.length>100))->y=false):
 ∀(r k:Nat),l.length - k=r->k<=l.length->(∀j:Nat,j<k->¬((ae l (j:Int)).rd.length>2000\/(ae l (j:Int)).wr.length>100))->nI B y (oV l k) (ab ar 270)
 |0,k,h,hk,hj=>by rw[H2 fun⟨j,h1,h2⟩=>hj j (by omega) h2];exact t4 mc (by omega)
 |r+1,k,h,hk,hj=>by
  have gI:k<l.length:=by omega
  by_cases q1:(ae l (k:Int)).rd.length>2000
  ·rw[H1 ⟨k,gI,.inl q1⟩];exact t1 mc gI q1
  ·by_cases q2:(ae l (k:Int)).wr.length>100
   ·rw[H1 ⟨k,gI,.inr q2⟩];exact t2 mc gI q1 q2
   ·refine t3 mc (by omega) gI q1 q2<|IS mc hl H1 H2 r (k+1) (by omega) (by omega) fun j h1=>?_;by_cases e:j=k
    ·subst e;exact fun h=>h.elim q1 q2
    ·exact hj j (by omega)
def tY(args:List AV)(v:AV):Prop:=∃(init:List Int) (l:List At),args=[w4 init,az aj l]/\v= .bool (zC init l)
theorem tY.bf(args:List AV)(v v':AV)(h:tY args v)(h':tY args v'):v=v':=by
 obtain⟨i,l,rfl,rfl⟩:=h;obtain⟨i',l',e,rfl⟩:=h';injection e with e1 e
 injection e with e2 _
 injection e1 with e1
 simp only[List.cons.injEq,true_and,_root_.and_true] at e1;have e3:eO aH 1 (az aH i) i':=by rw[e1];exact eO.az eI i'
 rw[eO.inj BJ (eO.az eI i) e3,vE e2]
noncomputable def Iq:FuncId×KE:=(4,.val<|fY tY)
open Classical in
theorem Nc(hP:dp Tryz.prog){L:bZ}(h:cL L):cL<|Iq::L:=by
 refine rE hP h gE Tryz.func4 fun args v e=>?_;obtain⟨init,l,rfl,rfl⟩:=o8 e;refine⟨aL.1 (by kernel_rfl),fun B mc=>?_⟩;rw[←pn];by_cases q1:init.length>100
 ·rw[show zC init l=true from decide_eq_true<|.inl q1];exact d1 mc q1
 ·by_cases q2:l.length>60
  ·rw[show zC init l=true from decide_eq_true<|.inr<|.inl q2];exact d2 mc q1 q2
  ·exact d3 mc q1 q2 (IS mc (by omega) (fun h=>decide_eq_true<|.inr<|.inr h) (fun h=>decide_eq_false fun w=>w.elim q1 fun w=>w.elim q2 h) _ 0 rfl (Nat.zero_le _) fun j h=>by omega)
end Dw
end
section
open Go Go.Rn Go.RowKit Go.Proofs
namespace C2
open dP
def tJ(args:List AV)(v:AV):Prop:=args=[]/\v= .bool true
theorem tJ.bf(args:List AV)(v v':AV)(h:tJ args v)(h':tJ args v'):v=v':=by rw[h.2,h'.2]
noncomputable def HP:FuncId×KE:=(5,.val<|fY tJ)
noncomputable def cx(f:FuncId):Nat:= @Bool.rec (fun _=>Nat) (@Bool.rec (fun _=>Nat) 0 1<|Nat.beq f 85) 1<|Nat.beq f 65
theorem Ir(f:FuncId):cx f=0\/cx f=1:=by unfold cx;cases Nat.beq f 65<;>cases Nat.beq f 85<;>simp
def So(r:R AV):Bool:=match r with| .ok (.bool true) _=>true|_=>false
theorem NV:So (nf Tryz.prog cx 60 (.fn 5) [] ⟨dI,270,0,[],[]⟩)=true:=by as_aux_lemma=>kernel_rfl
theorem Mi(hP:dp Tryz.prog){L:bZ}(h:cL L):cL<|HP::L:=by
 refine Lt (cx:=cx) (fun B=>Od hP (fun f e=>by rcases Ir f with h|h<;>rw[h] at e<;>cases e) (fun f e=>by rcases Ir f with h|h<;>rw[h] at e<;>cases e)) hP yL Cs CY zV h Tryz.func5 (body:=aJ Tryz.prog 5 []) (by kernel_rfl) (by kernel_rfl) fun args v e=>?_;obtain⟨rfl,rfl⟩:=o8 e;have q:=NV;revert q;cases e:nf Tryz.prog cx 60 (.fn 5) [] ⟨dI,270,0,[],[]⟩ with
 |bad=>intro q;cases q
 |ok x s1=>
  intro q;refine⟨60,s1,e.trans ?_⟩;cases x with
  |bool b=>cases b with
   |true=>rfl
   |false=>cases q
  |_=>cases q
end C2
end
section
open Go Go.Rn Go.RowKit Go.Proofs
namespace ux
open dP eg mf pK um
def bx(b:Bool):List AV:=[.bool b]
theorem Tf:kh 1 bx:=⟨fun _=>rfl,fun _=>rfl⟩
noncomputable abbrev w6(n:Nat):U:=.cells (n*1) .nil [.bool false]
noncomputable abbrev El(n:Nat):AS->AS:=wR<|w6 n
abbrev Ju(s:AS):Prop:=s.nx=270
theorem OT{n:Nat}(hn:n<=1000000)(s:AS)(hs:Ju s):makeSlice Tryz.prog 34 (.int .i64 (n:Int)) (.int .i64 (n:Int)) s= .ok (.slice (some (270,0)) n<|.known n) (El n s):=by
 have hu:Tryz.prog.underlying 34=some (.slice 4):=by kernel_rfl
 have hz:eT Tryz.prog 4=some (.bool false):=by kernel_rfl
 have hi:(match Tryz.prog.info? 4 with|some i=>Nat.beq i.size 1&&Nat.beq i.bytes 1|none=>false)=true:=by kernel_rfl
 unfold makeSlice;simp only[hu];cases e:Tryz.prog.info? 4 with
 |none=>rw[e] at hi;cases hi
 |some i=>
  rw[e] at hi;obtain⟨h1,h2⟩:=and_true.1 hi;have h1:=Nat.eq_of_beq_eq_true h1;have h2:=Nat.eq_of_beq_eq_true h2;rw[show Rn.intOf (.int .i64 (n:Int))=some (n:Int) from rfl,aP,aP,aP];have w1:within (n:Int) room=some n:=by show(match Nat.blt n room with|true=>some n|false=>none)=_;rw[(blt_eq _ _).mpr (show n<room by unfold room;omega)]
  have w2:within (n:Int) (n+1)=some n:=by show(match Nat.blt n (n+1) with|true=>some n|false=>none)=_;rw[(blt_eq _ _).mpr<|Nat.lt_succ_self n]
  rw[w1,aP,w2,aP,hz,aP,h1,h2];rw[show(and (Nat.ble (n*1) room)<|and (Nat.ble (n*1) top)<|and (or (Nat.beq (n*1) 0)<|not<|Nat.beq (AV.bool false).cells.length 0)<|(AV.bool false).cells.all AV.bB)=true by rw[aL.2 (show n*1<=room by unfold room;omega),aL.2 (show n*1<=top by unfold top;omega)];show(and true<|and true<|and (or (Nat.beq (n*1) 0) true) true)=true;cases Nat.beq (n*1) 0<;>rfl,bC];rw[M.bo<|BR (by rw[hs];unfold top;omega),hs];show R.ok _ _=_;unfold El wR;rw[hs];rfl
abbrev mt(ms:List Bool)(k:Nat):Bool:=ms.getD k false
theorem Ht{ms:List Bool}{k:Nat}(h:k<ms.length):ms[k]? =some (mt ms k):=by rw[mt,List.getD_eq_getElem?_getD,List.getElem?_eq_getElem h];rfl
theorem uV{ms:List Bool}{z:Int}(h0:0<=z)(h:z<(ms.length:Int))(hl:ms.length<=1000000):cellsOf (some<|aG bx ms) (z.toNat*1) 1=some [.bool<|mt ms z.toNat]:=Co (enc:=bx) (K:=1) (fun _=>rfl) (l:=ms) (i:=z.toNat) (c:=mt ms z.toNat) (by unfold top;omega) (Ht<|by omega) 0 1 rfl
theorem xT{ms:List Bool}{z:Int}{v:Bool}(h0:0<=z)(h:z<(ms.length:Int))(hl:ms.length<=1000000):gW (some<|aG bx ms) (z.toNat*1) [.bool v]=some (aG bx<|ms.set z.toNat v):=Cp (enc:=bx) (K:=1) (fun _=>rfl) (l:=ms) (i:=z.toNat) (c:=mt ms z.toNat) (c':=v) (r:=[.bool v]) (by unfold top;omega) (Ht<|by omega) 0 rfl rfl rfl
theorem Hu(ms:List Bool):(ms.map bx).flatten.length=ms.length:=by have:=te (enc:=bx) (K:=1) (fun _=>rfl) (l:=ms);omega
theorem Tg{nx:Nat}{ms:List Bool}(h:ms.length<=1000000):OE nx<|aG bx ms:=fun r r1 r2=>fX.aG (fun x=>⟨rfl,rfl⟩) (by rw[Hu];unfold top;omega)
theorem OU{ms:List Bool}{i:Nat}{x:AV}(h:(ms.map bx).flatten[i]? =some x):∃b,ms[i]? =some b/\x= .bool b:=by
 have e:(ms.map bx).flatten=ms.map AV.bool:=by
  clear h;induction ms with
  |nil=>rfl
  |cons b ms ih=>show bx b++(ms.map bx).flatten=_;rw[ih];rfl
 rw[e,List.getElem?_map] at h;cases q:ms[i]? with
 |none=>rw[q] at h;cases h
 |some b=>rw[q] at h;cases h;exact⟨b,rfl,rfl⟩
theorem PB{r:Nat->Nat}{n:Nat}(hn:n<=1000000):fX r (w6 n)<|aG bx<|List.replicate n false:=fun ρ N o k=>by
 have hl:((List.replicate n false).map bx).flatten.length=n:=by rw[Hu,List.length_replicate]
 unfold aG;simp only[OR] at k ⊢;obtain⟨c,e,rfl,k1,k2,k3⟩:=k;refine⟨c,e,rfl,k1,by rw[hl];omega,fun i hi=>?_⟩;rw[hl] at hi;obtain⟨x,v,a1,a2,a3,a4⟩:=k3 i (by omega);have hx:x= .bool false:=by have a1:cellAt .nil [.bool false] i=some x:=a1;unfold cellAt at a1;rw[show(Tr.nil:Tr AV).get i=none from Tr.get_nil i] at a1;have a1:[AV.bool false][i % 1]? =some x:=a1;rw[Nat.mod_one] at a1;cases a1;rfl
 subst hx;refine⟨.bool false,v,?_,a2,a3,by simp only[VR] at a4 ⊢;exact a4⟩;unfold cellAt;rw[Tr.nK _ _ _ _ (by rw[hl];unfold top;omega),if_pos (by rw[hl];omega),Nat.sub_zero];have bP:i<((List.replicate n false).map bx).flatten.length:=by rw[hl];exact hi
 rw[List.getElem?_eq_getElem bP];obtain⟨b,h1,h2⟩:=OU<|List.getElem?_eq_getElem bP;rw[h2];have:=List.mem_of_getElem? h1;rw[List.mem_replicate] at this;rw[this.2]
theorem Sq{n bJ:Nat}{l0 l1:List<|Nat×AV}(hn:n<=1000000)(hs:bJ=271)(h:∀r:Nat->Nat,(∀k,k<271->r k=k)->(∀k,top<=k->r k=k)->∀p∈l1,p.1<top/\∃x,(p.1,x)∈l0/\ju [] r x p.2):kW FU 270 bJ l0 (ar++[(270,some<|w6 n)]) l1 (ar++[(270,some<|aG bx<|List.replicate n false)]) 271:=by
 subst hs;exact C0 (fz:=[]) (by omega) (by omega) (by unfold top;omega) h (fun r hr ht p hp=>by
  rcases List.mem_append.1 hp with hp|hp
  ·obtain⟨a,b⟩:=C1 (fz:=[]) (fun k hk=>hr k<|by omega) p hp;refine⟨by omega,fun y hy=>?_⟩;obtain⟨c,d⟩:=b y hy;exact⟨c,y,List.mem_append_left _ (by rw[←hy];exact hp),gU.refl _,d⟩
  ·rw[List.mem_singleton] at hp;subst hp;refine⟨by show 270<271;omega,fun y hy=>?_⟩;cases hy;exact⟨rfl,_,List.mem_append_right _ List.mem_cons_self,B4,(PB hn).z⟩) (fun p hp=>by cases hp)
end ux
end
