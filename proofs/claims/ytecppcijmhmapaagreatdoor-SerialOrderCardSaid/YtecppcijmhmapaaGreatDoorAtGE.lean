import Derived.Test.YtecppcijmhmapaaGreatDoorProg
import Derived.Test.YtecppcijmhmapaaGreatDoorRnGD
import Derived.Test.YtecppcijmhmapaaGreatDoorRnGC
import Derived.KernelRfl
set_option maxRecDepth 100000
set_option maxHeartbeats 8000000
set_option linter.unusedSimpArgs false
set_option linter.unusedVariables false
section
open Go Go.Rn Go.RowKit Go.Proofs
namespace dx
def QS:List<|Option FuncId:=[none,none,none,none,some 175,some 176,some 177,some 178,some 180]
noncomputable section
def Hk:List AV:=QS.map Au
def dy:Tr U:=(Tr.nil).put 0<|some<|.ro Hk.length<|Tr.fill Hk 0 .nil
end
def ed:List Nat:=[0]
theorem cf:Tryz.prog.follows .mixedOrders=true:=by kernel_rfl
theorem Af:gj<=270:=aK.1 (by kernel_rfl)
theorem Ow:gj<=271:=aK.1 (by kernel_rfl)
theorem Ox:gj<=272:=aK.1 (by kernel_rfl)
theorem PZ:272<=top:=aK.1 (by kernel_rfl)
theorem DQ:270<=top:=aK.1 (by kernel_rfl)
noncomputable def au:List<|Nat×Option U:=ed.map fun n=>(n,dy.get n)
theorem Ix:kD au=dy:=by kernel_rfl
theorem qz:J au 270=⟨dy,270,0,[],[]⟩:=by show(⟨kD au,270,0,[],[]⟩:AS)=_;rw[Ix]
theorem KG:∀p∈au,p.1<top:=fun p hp=>by obtain⟨k,hk,rfl⟩:=List.mem_map.1 hp;exact Cs (m:=top) (l:=ed) (by kernel_rfl) k hk
theorem SS:∀n o,(n,some o)∈au->dy.get n=some o:=fun n o hm=>by
 obtain⟨k,hk,e⟩:=List.mem_map.1 hm;injection e with e1 e2
 rw[←e1];exact e2
theorem Eo(n:Nat)(o:U)(_:n<top)(h:dy.get n=some o):n∈ed:=by
 rw[←Ix] at h;obtain⟨k,hk,e⟩:=List.mem_map.1<|qf (l:=au) KG h;injection e with e1 _
 rw[←e1];exact hk
theorem yq:∀n∈ed,n<270:=fun n hn=>Cs (m:=270) (l:=ed) (by kernel_rfl) n hn
def aw(n:Int):List AV:=[.int .i64 n]
theorem eI:lB 1 aw:=⟨fun _=>rfl,fun _=>rfl⟩
theorem C9(x y:Int)(h:aw x=aw y):x=y:=by simp only[aw,List.cons.injEq,AV.int.injEq,true_and,_root_.and_true] at h;exact h
def qP(c:AV):List AV:=[c]
noncomputable abbrev en(L:bY):Env:=Bn Tryz.prog 270 ed dy L 270 true
noncomputable abbrev ze(L:bY):Env:=Bn Tryz.prog 270 ed dy L 271 true
noncomputable abbrev BR(L:bY):Env:=Bn Tryz.prog 270 ed dy L 272 true
noncomputable abbrev sp(L:bY):Sp:=eZ 270 ed dy L
inductive XT:TX
theorem RT(l:List AV):(l.map qP).flatten=l:=by
 induction l with
 |nil=>rfl
 |cons x l ih=>rw[List.map_cons,List.flatten_cons,ih];rfl
theorem Lu(x:AV):(qP x).length=1:=rfl
theorem P0{l:List AV}{i:Nat}{c:AV}(hl:l.length<=top)(hc:l[i]? =some c):cellsOf (some<|aD qP l) i 1=some [c]:=by have:=DN Lu (l:=l) (i:=i) (by omega) hc 0 1 rfl;rwa[Nat.mul_one,Nat.add_zero] at this
theorem I4{l:List AV}{i:Nat}{c c':AV}(hl:l.length<=top)(hc:l[i]? =some c)(h1:c'.bu=true):gA (some<|aD qP l) i [c']=some (aD qP<|l.set i c'):=by have:=DO Lu (l:=l) (i:=i) (c':=c') (r:=[c']) (by omega) hc 0 rfl rfl (by rw[List.all_cons,h1];rfl);rwa[Nat.mul_one,Nat.add_zero] at this
theorem aaa{l:List AV}{i z:Nat}{c c':AV}(hl:l.length<=top)(hc:l[i+z]? =some c)(h1:c'.bu=true):gA (some<|aD qP l) (i+z*1) [c']=some (aD qP<|l.set (i+z) c'):=by rw[Nat.mul_one];exact I4 hl hc h1
theorem Va{n:Nat}(h:n<1024):n<top:=by have:top=549755813888:=rfl;omega
theorem VF:T4 XT 270:=⟨fun k v L hx=>(by cases hx),fun k v L hx=>(by cases hx)⟩
abbrev cJ(L:bY):Prop:=iU XT 270 Tryz.prog<|sp L
abbrev Mt(L:bY)(B:aH):Prop:=Bo XT Tryz.prog 270 ed dy L B
theorem ai{A B:Prop}(a:A)(b:B):A/\B:=⟨a,b⟩
theorem oF(h:False):False:=h
theorem rX{α:Type}(x:α):x=x:=rfl
theorem mS(l:List<|Nat×AV):l.map (fun q=>some q.2)=l.map (fun q=>some q.2):=rfl
theorem mO(l:List<|Nat×Option U):l.map (fun q=>q.2)=l.map (fun q=>q.2):=rfl
theorem wI(z:Int)(h: -9223372036854775808<=z/\z<=9223372036854775807:=by omega):AV.int .i64 (IntKind.wrap .i64 z)=AV.int .i64 z:=congrArg (AV.int .i64)<|MY h
theorem VG{A:Prop}(z n:Int)(h1:0<=z)(h2:z<n)(x:A):0<=z/\z<n/\A:=⟨h1,h2,x⟩
theorem VH{A:Prop}(z n:Int)(x:A)(h1:0<=z:=by omega)(h2:z<n:=by omega):0<=z/\z<n/\A:=⟨h1,h2,x⟩
abbrev i6(n:Int):AV:=.int .i64 n
abbrev u8(n:Int):AV:=.int .u8 n
abbrev i0:AV:=.int .i64<|.ofNat 0
section
variable {L:bY} {B:aH} (mc:Mt L B) {f nt:Nat} {t:Tr AV} {K:List Item} {s:AS} {rs:List ResultVar} {R:AV->AS->Prop}
include mc
theorem wS(p:Pl){T:Prop}(x:T)(h:T=wp (en L) 900 6 (.fr f nt K t s) p rs (fun v s _=>R v s) (fun _ _ _=>False):=by as_aux_lemma=>kernel_rfl)(h0:Nat.ble 270 s.nx=true:=by as_aux_lemma=>kernel_rfl):bw Tryz.prog B 270 (Fin Tryz.prog rs R) ⟨f,t,nt,K,[],none⟩ s:=DM (E:=en L) uR rfl cf mc.2.2.1 mc.2.2.2 900 p x h h0
theorem oH(p:Pl){T:Prop}(x:T)(h:T=wp (ze L) 900 6 (.fr f nt K t s) p rs (fun v s _=>R v s) (fun _ _ _=>False):=by as_aux_lemma=>kernel_rfl)(h0:Nat.ble 271 s.nx=true:=by as_aux_lemma=>kernel_rfl):bw Tryz.prog B 271 (Fin Tryz.prog rs R) ⟨f,t,nt,K,[],none⟩ s:=DM (E:=ze L) uR rfl cf mc.2.2.1 mc.2.2.2 900 p x h h0
theorem wC{C:vP}(hC:∀fr s p,C fr s p->bw Tryz.prog B 270 (Fin Tryz.prog rs R) fr s)(p:Pl){T:Prop}(x:T)(h:T=wp (en L) 900 6 (.fr f nt K t s) p rs (fun v s _=>R v s) C:=by as_aux_lemma=>kernel_rfl)(h0:Nat.ble 270 s.nx=true:=by as_aux_lemma=>kernel_rfl):bw Tryz.prog B 270 (Fin Tryz.prog rs R) ⟨f,t,nt,K,[],none⟩ s:=DL (E:=en L) uR rfl cf mc.2.2.1 mc.2.2.2 Af rfl mc.1 hC 900 p x h h0
theorem Ub{C:vP}(hC:∀fr s p,C fr s p->bw Tryz.prog B 271 (Fin Tryz.prog rs R) fr s)(p:Pl){T:Prop}(x:T)(h:T=wp (ze L) 900 6 (.fr f nt K t s) p rs (fun v s _=>R v s) C:=by as_aux_lemma=>kernel_rfl)(h0:Nat.ble 271 s.nx=true:=by as_aux_lemma=>kernel_rfl):bw Tryz.prog B 271 (Fin Tryz.prog rs R) ⟨f,t,nt,K,[],none⟩ s:=DL (E:=ze L) uR rfl cf mc.2.2.1 mc.2.2.2 Ow rfl mc.1 hC 900 p x h h0
end
abbrev Sm(B:aH)(f:Func)(v:AV)(fr:AF)(s:AS):Prop:=bw Tryz.prog B 270 (Fin Tryz.prog f.results.toList fun y _=>y=v) fr s
theorem tu{L L':bY}{g:Nat}{fn:Func}{val:List AV->Option AV}(hP:du Tryz.prog)(h:cJ L)(h':cJ L')(cI:Tryz.prog.funcs[g]? =some fn)(iG:∀args v,val args=some v->max fn.ntmps args.length<=top/\∀B:aH,Mt L' B->bw Tryz.prog B 270 (Fin Tryz.prog fn.results.toList fun y _=>y=v) ⟨g,bG args,max fn.ntmps args.length,[.code<|aI Tryz.prog g []],[],none⟩ ⟨dy,270,0,[],[]⟩)(di:fn.body=some (aI Tryz.prog g []):=by kernel_rfl)(hn:(fn.name == "runtime.NumGoroutine")=false:=by kernel_rfl):cJ<|(g,.val val)::L:=PV hP Af DQ Eo yq h h' cI di hn iG
end dx
end
section
namespace dG
abbrev I(l:List Int)(i:Nat):Int:=l.getD i 0
abbrev Lq(cv:Int->Int->Int)(x y:Int):Prop:=¬cv y x<0
structure Ord (cv:Int->Int->Int) (n:Int->Prop):Prop where
 tr:∀x y z,n x->n y->n z->Lq cv x y->Lq cv y z->Lq cv x z
 Lv:∀x y,n x->n y->Lq cv x y\/Lq cv y x
 SU:∀x y,n x->n y->Lq cv x y->Lq cv y x->x=y
abbrev Rg(l:List Int)(n:Int->Prop):Prop:=∀x∈l,n x
abbrev cq(cv:Int->Int->Int)(l:List Int)(a b:Nat):Prop:=∀i j,a<=i->i<j->j<b->Lq cv (I l i) (I l j)
structure bI (cv:Int->Int->Int) (l:List Int) (a b:Nat) (l':List Int):Prop where
 pm:l'.Perm l
 out:∀i,i<a\/b<=i->I l' i=I l i
 lM:cq cv l' a b
theorem hZ{l:List Int}{i:Nat}(h:i<l.length):I l i=l[i]:=by rw[I,List.getD_eq_getElem?_getD,List.getElem?_eq_getElem h];rfl
theorem Av{l:List Int}{i:Nat}(h:i<l.length):l[i]? =some (I l i):=by rw[hZ h,List.getElem?_eq_getElem h]
theorem I5{l:List Int}{i:Nat}(h:l.length<=i):I l i=0:=by rw[I,List.getD_eq_getElem?_getD,List.getElem?_eq_none h];rfl
theorem at_mem{l:List Int}{i:Nat}(h:i<l.length):I l i∈l:=by rw[hZ h];exact List.getElem_mem h
theorem dJ{l:List Int}{n:Int->Prop}{i:Nat}(hr:Rg l n)(h:i<l.length):n<|I l i:=hr _<|at_mem h
theorem vd{l l':List Int}(hl:l'.length=l.length)(h:∀i,i<l.length->I l' i=I l i):l'=l:=by refine List.ext_getElem hl fun i h1 h2=>?_;have:=h i h2;rwa[hZ h1,hZ h2] at this
theorem qm{l:List Int}{a i:Nat}(h:i<a):I (l.take a) i=I l i:=by rw[I,I,List.getD_eq_getElem?_getD,List.getD_eq_getElem?_getD,List.getElem?_take_of_lt h]
theorem oY{l:List Int}{a i:Nat}:I (l.drop a) i=I l (a+i):=by rw[I,I,List.getD_eq_getElem?_getD,List.getD_eq_getElem?_getD,List.getElem?_drop]
theorem Rg.perm{l l':List Int}{n:Int->Prop}(h:Rg l n)(p:l'.Perm l):Rg l' n:=fun x hx=>h x<|p.subset hx
theorem sR(l:List Int)(a b:Nat)(h:a<=b):l=l.take a++((l.drop a).take (b - a)++l.drop b):=by
 conv=>lhs;rw[←List.take_append_drop a l, ←List.take_append_drop (b - a) (l.drop a),List.drop_drop]
 rw[show a+(b - a)=b by omega]
theorem bI.bc{cv:Int->Int->Int}{n:Int->Prop}{l l1 l2:List Int}{a b:Nat}(o:Ord cv n)(hr:Rg l n)(nD:a<=b)(hb:b<=l.length)(h1:bI cv l a b l1)(h2:bI cv l a b l2):l1=l2:=by
 have k1:=h1.pm.length_eq;have k2:=h2.pm.length_eq;have e1:l1.take a=l2.take a:=by refine vd (by rw[List.length_take,List.length_take];omega) fun i hi=>?_;rw[List.length_take] at hi;rw[qm (by omega),qm (by omega),h1.out i (by omega),h2.out i<|by omega]
 have e3:l1.drop b=l2.drop b:=by refine vd (by rw[List.length_drop,List.length_drop];omega) fun i hi=>?_;rw[oY,oY,h1.out _ (by omega),h2.out _<|by omega]
 have pm:((l1.drop a).take<|b - a).Perm<|(l2.drop a).take<|b - a:=by have p:l1.Perm l2:=h1.pm.trans h2.pm.symm;rw[sR l1 a b nD,sR l2 a b nD,e1,e3] at p;exact(List.perm_append_right_iff _).1<|(List.perm_append_left_iff _).1 p
 have up:∀l':List Int,bI cv l a b l'->((l'.drop a).take<|b - a).Pairwise (Lq cv):=fun l' h=>by have hl:=h.pm.length_eq;rw[List.pairwise_iff_getElem];intro i j hi hj dp;have bR:=hi;have mE:=hj;rw[List.length_take,List.length_drop] at hi hj;rw[←hZ bR, ←hZ mE,qm (by omega),qm (by omega),oY,oY];exact h.lM (a+i) (a+j) (by omega) (by omega) (by omega)
 have e2:(l1.drop a).take (b - a)=(l2.drop a).take (b - a):=by refine List.Perm.eq_of_pairwise (le:=Lq cv) (fun x y hx hy q1 q2=>?_) (up l1 h1) (up l2 h2) pm;exact o.SU x y (hr x<|h1.pm.subset<|List.mem_of_mem_drop<|List.mem_of_mem_take hx) (hr y<|h2.pm.subset<|List.mem_of_mem_drop<|List.mem_of_mem_take hy) q1 q2
 rw[sR l1 a b nD,sR l2 a b nD,e1,e2,e3]
theorem bI.len{cv:Int->Int->Int}{l l':List Int}{a b:Nat}(h:bI cv l a b l'):l'.length=l.length:=h.pm.length_eq
def swp(l:List Int)(i j:Nat):List Int:=(l.set i<|I l j).set j<|I l i
theorem aab(l:List Int)(i j:Nat):(swp l i j).length=l.length:=by unfold swp;rw[List.length_set,List.length_set]
theorem Da{l:List Int}{i j:Nat}(hi:i<l.length)(hj:j<l.length):(swp l i j).Perm l:=by unfold swp;rw[hZ hi,hZ hj];exact List.set_set_perm hi hj
theorem Jy{l:List Int}{i k:Nat}{v:Int}(hi:i<l.length):I (l.set i v) k=if k=i then v else I l k:=by
 rw[I,I,List.getD_eq_getElem?_getD,List.getD_eq_getElem?_getD,List.getElem?_set];split
 ·rename_i e;subst e;simp[hi]
 ·rename_i e;rw[if_neg fun q=>e q.symm]
theorem DR{l:List Int}{i j k:Nat}(hi:i<l.length)(hj:j<l.length):I (swp l i j) k=if k=j then I l i else if k=i then I l j else I l k:=by unfold swp;rw[Jy (by rw[List.length_set];exact hj),Jy hi]
def iL(p:Nat->Bool):Nat->Nat->Nat->Nat
 |0,i,_=>i
 |f+1,i,j=>if i<j then(if p ((i+j) / 2) then iL p f ((i+j) / 2+1) j else iL p f i ((i+j) / 2)) else i
theorem uK{p:Nat->Bool}{lo hi:Nat}(mono:∀x y,lo<=x->x<y->y<hi->p y=true->p x=true):∀(f i j:Nat),lo<=i->i<=j->j<=hi->j - i<=f->(∀k,lo<=k->k<i->p k=true)->(∀k,j<=k->k<hi->p k=false)->
 i<=iL p f i j/\iL p f i j<=j/\(∀k,lo<=k->k<iL p f i j->p k=true)/\∀k,iL p f i j<=k->k<hi->p k=false
 |0,i,j,h1,h2,h3,h4,h5,h6=>by
  have:i=j:=by omega
  subst this;exact⟨Nat.le_refl _,Nat.le_refl _,h5,h6⟩
 |f+1,i,j,h1,h2,h3,h4,h5,h6=>by
  unfold iL;by_cases q:i<j
  ·rw[if_pos q];cases e:p ((i+j) / 2) with
   |true=>
    rw[if_pos rfl];obtain⟨a1,a2,a3,a4⟩:=uK mono f ((i+j) / 2+1) j (by omega) (by omega) h3 (by omega) (fun k k1 k2=>by
     by_cases q2:k=(i+j) / 2
     ·rw[q2];exact e
     ·exact mono k ((i+j) / 2) k1 (by omega) (by omega) e) h6
    exact⟨by omega,a2,a3,a4⟩
   |false=>
    rw[if_neg (by intro h;cases h)];obtain⟨a1,a2,a3,a4⟩:=uK mono f i ((i+j) / 2) h1 (by omega) (by omega) (by omega) h5 (fun k k1 k2=>by
     cases e2:p k with
     |false=>rfl
     |true=>
      by_cases q2:k=(i+j) / 2
      ·rw[q2,e] at e2;cases e2
      ·rw[mono ((i+j) / 2) k (by omega) (by omega) k2 e2] at e;cases e)
    exact⟨a1,by omega,a3,a4⟩
  ·rw[if_neg q];have:i=j:=by omega
   subst this;exact⟨Nat.le_refl _,Nat.le_refl _,h5,h6⟩
end dG
end
section
namespace dG
theorem jC{l:List Int}{i j:Nat}(h:i=j):I l i=I l j:=by rw[h]
structure bZ (l:List Int) (a m b:Nat) (l':List Int):Prop where
 pm:l'.Perm l
 is:∀k,I l' k=if a<=k/\k<a+(b - m) then I l (k+(m - a)) else if a+(b - m)<=k/\k<b then I l (k - (b - m)) else I l k
structure fa (l:List Int) (a b n:Nat) (l':List Int):Prop where
 pm:l'.Perm l
 is:∀k,I l' k=if a<=k/\k<a+n then I l (b+(k - a)) else if b<=k/\k<b+n then I l (a+(k - b)) else I l k
theorem bZ.bc{l l1 l2:List Int}{a m b:Nat}(h1:bZ l a m b l1)(h2:bZ l a m b l2):l1=l2:=vd (by rw[h1.pm.length_eq,h2.pm.length_eq]) fun i _=>by rw[h1.is,h2.is]
theorem fa.bc{l l1 l2:List Int}{a b n:Nat}(h1:fa l a b n l1)(h2:fa l a b n l2):l1=l2:=vd (by rw[h1.pm.length_eq,h2.pm.length_eq]) fun i _=>by rw[h1.is,h2.is]
theorem bZ.len{l l':List Int}{a m b:Nat}(h:bZ l a m b l'):l'.length=l.length:=h.pm.length_eq
theorem fa.len{l l':List Int}{a b n:Nat}(h:fa l a b n l'):l'.length=l.length:=h.pm.length_eq
theorem fa.zero(l:List Int)(a b:Nat):fa l a b 0 l:=⟨.refl _,fun k=>by
 split
 ·omega
 ·split
  ·omega
  ·rfl⟩
theorem fa.step{l l':List Int}{a b n:Nat}(h:fa l a b n l')(nD:a+n<b)(hb:b+n<l.length):fa l a b (n+1)<|swp l' (a+n)<|b+n:=by
 have hl:=h.len;refine⟨(Da (by omega)<|by omega).trans h.pm,fun k=>?_⟩;rw[DR (by omega) (by omega),h.is,h.is,h.is]
 repeat' split
 all_goals first|(exfalso;omega)|rfl|(exact jC<|by omega)
theorem bZ.Ep(l:List Int)(a b:Nat):bZ l a a b l:=⟨.refl _,fun k=>by
 repeat' split
 all_goals first|(exfalso;omega)|rfl|(exact jC<|by omega)⟩
theorem bZ.J7(l:List Int)(a b:Nat):bZ l a b b l:=⟨.refl _,fun k=>by
 repeat' split
 all_goals first|(exfalso;omega)|rfl|(exact jC<|by omega)⟩
theorem bZ.up{l l':List Int}{a k:Nat}(h:bZ l a (a+1) (k+1) l')(hk:a<=k)(hl:k+1<l.length):bZ l a (a+1) (k+2)<|swp l' k<|k+1:=by
 have:=h.len;refine⟨(Da (by omega)<|by omega).trans h.pm,fun i=>?_⟩;rw[DR (by omega) (by omega),h.is,h.is,h.is]
 repeat' split
 all_goals first|(exfalso;omega)|rfl|(exact jC<|by omega)
theorem bZ.down{l l':List Int}{k m:Nat}(h:bZ l (k+1) m (m+1) l')(hk:k+1<=m)(hl:m<l.length):bZ l k m (m+1)<|swp l' (k+1) k:=by
 have:=h.len;refine⟨(Da (by omega)<|by omega).trans h.pm,fun i=>?_⟩;rw[DR (by omega) (by omega),h.is,h.is,h.is]
 repeat' split
 all_goals first|(exfalso;omega)|rfl|(exact jC<|by omega)
theorem bZ.ex{l:List Int}{a m b:Nat}(h1:a<=m)(h2:m<=b)(h3:b<=l.length):∃l',bZ l a m b l':=by
 refine⟨l.take a++((l.drop m).take (b - m)++((l.drop a).take (m - a)++l.drop b)),?_,fun k=>?_⟩
 ·have e:=sR l a b (by omega);have e2:(l.drop a).take (b - a)=(l.drop a).take (m - a)++(l.drop m).take (b - m):=by rw[show b - a=(m - a)+(b - m) by omega,List.take_add,List.drop_drop,show a+(m - a)=m by omega]
  rw[e2,List.append_assoc] at e
  conv=>rhs;rw[e]
  refine(List.perm_append_left_iff _).2 ?_;rw[←List.append_assoc, ←List.append_assoc];exact(List.perm_append_right_iff _).2 List.perm_append_comm
 ·simp only[I,List.getD_eq_getElem?_getD,List.getElem?_append,List.length_take,List.length_drop,List.getElem?_take,List.getElem?_drop];rw[Nat.min_eq_left (by omega),Nat.min_eq_left (by omega),Nat.min_eq_left<|by omega]
  repeat' split
  all_goals first|(exfalso;omega)|rfl|(congr 2;omega)
theorem bZ.gt{l l1 l':List Int}{m i j:Nat}(h:fa l (m - i) m j l1)(hm:i<=m)(dp:j<i)(h':bZ l1 (m - (i - j)) m (m+j) l'):bZ l (m - i) m (m+j) l':=by
 refine⟨h'.pm.trans h.pm,fun k=>?_⟩;rw[h'.is,h.is,h.is,h.is]
 repeat' split
 all_goals first|(exfalso;omega)|rfl|(exact jC<|by omega)
theorem bZ.lt{l l1 l':List Int}{m i j:Nat}(h:fa l (m - i) (m+j - i) i l1)(hm:i<=m)(dp:i<j)(h':bZ l1 (m - i) m (m+(j - i)) l'):bZ l (m - i) m (m+j) l':=by
 refine⟨h'.pm.trans h.pm,fun k=>?_⟩;rw[h'.is,h.is,h.is,h.is]
 repeat' split
 all_goals first|(exfalso;omega)|rfl|(exact jC<|by omega)
theorem bZ.eq{l l1:List Int}{m i:Nat}(h:fa l (m - i) m i l1)(hm:i<=m):bZ l (m - i) m (m+i) l1:=by
 refine⟨h.pm,fun k=>?_⟩;rw[h.is]
 repeat' split
 all_goals first|(exfalso;omega)|rfl|(exact jC<|by omega)
section
variable {cv:Int->Int->Int} {n:Int->Prop} {l l':List Int} {a m b i:Nat}
theorem Lq.of{x y:Int}(o:Ord cv n)(hx:n x)(hy:n y)(h:cv x y<0):Lq cv x y:=(o.Lv x y hx hy).resolve_right fun q=>q h
theorem Aw(o:Ord cv n)(hr:Rg l n)(hm:m<l.length)(ha:a<=i)(hi:i<=m)(s:cq cv l a m)(h1:∀h,a<=h->h<i->Lq cv (I l h) (I l m))(h2:∀h,i<=h->h<m->Lq cv (I l m) (I l h))(h:bZ l i m (m+1) l'):bI cv l a (m+1) l':=by
 refine⟨h.pm,fun k hk=>?_,fun x y hx FE hy=>?_⟩
 ·rw[h.is]
  repeat' split
  all_goals first|(exfalso;omega)|rfl|(exact jC<|by omega)
 ·rw[h.is,h.is];by_cases q1:x<i
  ·rw[if_neg (by omega),if_neg<|by omega];by_cases q2:y<i
   ·rw[if_neg (by omega),if_neg<|by omega];exact s x y hx FE (by omega)
   ·by_cases q3:y=i
    ·rw[if_pos (by omega),jC (show y+(m - i)=m by omega)];exact h1 x hx q1
    ·rw[if_neg (by omega),if_pos<|by omega];exact s x _ hx (by omega) (by omega)
  ·by_cases q2:x=i
   ·rw[if_pos (by omega),if_neg (by omega),if_pos (by omega),jC (show x+(m - i)=m by omega)];exact h2 _ (by omega) (by omega)
   ·rw[if_neg (by omega),if_pos (by omega),if_neg (by omega),if_pos<|by omega];exact s _ _ (by omega) (by omega) (by omega)
theorem P1(o:Ord cv n)(hr:Rg l n)(hb:b<=l.length)(ha:a+1<=i)(hi:i<=b)(s:cq cv l (a+1) b)(h1:∀h,a+1<=h->h<i->Lq cv (I l h) (I l a))(h2:∀h,i<=h->h<b->Lq cv (I l a) (I l h))(h:bZ l a (a+1) i l'):bI cv l a b l':=by
 refine⟨h.pm,fun k hk=>?_,fun x y hx FE hy=>?_⟩
 ·rw[h.is]
  repeat' split
  all_goals first|(exfalso;omega)|rfl|(exact jC<|by omega)
 ·rw[h.is,h.is];by_cases q1:y+1<i
  ·rw[if_pos (by omega),if_pos<|by omega];exact s _ _ (by omega) (by omega) (by omega)
  ·by_cases q2:y+1=i
   ·rw[if_pos (by omega),if_neg (by omega),if_pos (by omega),jC (show y - (i - (a+1))=a by omega)];exact h1 _ (by omega) (by omega)
   ·rw[show(if a<=y/\y<a+(i - (a+1)) then I l (y+(a+1 - a)) else if a+(i - (a+1))<=y/\y<i then I l (y - (i - (a+1))) else I l y)=I l y by rw[if_neg (by omega),if_neg<|by omega]];by_cases q3:x+1<i
    ·rw[if_pos<|by omega];exact s _ _ (by omega) (by omega) (by omega)
    ·by_cases q4:x+1=i
     ·rw[if_neg (by omega),if_pos (by omega),jC (show x - (i - (a+1))=a by omega)];exact h2 _ (by omega) (by omega)
     ·rw[if_neg (by omega),if_neg<|by omega];exact s _ _ (by omega) (by omega) (by omega)
theorem bI.mem(h:bI cv l a b l')(nD:a<=b)(hb:b<=l.length){i:Nat}(h1:a<=i)(h2:i<b):∃k,a<=k/\k<b/\I l' i=I l k:=by
 have hl:=h.len;have e1:l'.take a=l.take a:=by refine vd (by rw[List.length_take,List.length_take];omega) fun i hi=>?_;rw[List.length_take] at hi;rw[qm (by omega),qm (by omega),h.out i<|by omega]
 have e3:l'.drop b=l.drop b:=by refine vd (by rw[List.length_drop,List.length_drop];omega) fun i hi=>?_;rw[oY,oY,h.out _<|by omega]
 have pm:((l'.drop a).take<|b - a).Perm<|(l.drop a).take<|b - a:=by have p:=h.pm;rw[sR l' a b nD,sR l a b nD,e1,e3] at p;exact(List.perm_append_right_iff _).1<|(List.perm_append_left_iff _).1 p
 have hm:I l' i∈(l'.drop a).take (b - a):=by have:=at_mem (l:=(l'.drop a).take<|b - a) (i:=i - a) (by rw[List.length_take,List.length_drop];omega);rw[qm (by omega),oY,show a+(i - a)=i by omega] at this;exact this
 obtain⟨k,hk,e⟩:=List.mem_iff_getElem.1<|pm.subset hm;have fu:=hk;rw[List.length_take,List.length_drop] at fu;rw[←hZ hk,qm (by omega),oY] at e;exact⟨a+k,by omega,by omega,e.symm⟩
end
def lC(cv:Int->Int->Int)(l:List Int)(p:Nat)(c:Nat):Bool:= !decide (cv (I l<|p - c) (I l c)<0)
structure Cut (cv:Int->Int->Int) (l:List Int) (a m b md st:Nat):Prop where
 sm:st<=m
 sa:a<=st
 en:m<=md+m - st
 eb:md+m - st<=b
 sd:st<=md
 x1:∀i j,a<=i->i<st->md+m - st<=j->j<b->Lq cv (I l i) (I l j)
 x2:∀j i,m<=j->j<md+m - st->st<=i->i<m->Lq cv (I l j) (I l i)
section
variable {cv:Int->Int->Int} {n:Int->Prop} {l l1 l2 l3:List Int} {a m b md st:Nat}
theorem Lq.oJ(o:Ord cv n)(hr:Rg l n){i j k:Nat}(hi:i<l.length)(hj:j<l.length)(hk:k<l.length)(h1:Lq cv (I l i)<|I l j)(h2:Lq cv (I l j)<|I l k):Lq cv (I l i)<|I l k:=o.tr _ _ _ (dJ hr hi) (dJ hr hj) (dJ hr hk) h1 h2
theorem Lq.SV(o:Ord cv n)(hr:Rg l n){i:Nat}(hi:i<l.length):Lq cv (I l i)<|I l i:=(o.Lv _ _ (dJ hr hi)<|dJ hr hi).elim id id
theorem cq.le(o:Ord cv n)(hr:Rg l n)(s:cq cv l a b)(hb:b<=l.length){i j:Nat}(hi:a<=i)(dp:i<=j)(hj:j<b):Lq cv (I l i)<|I l j:=by
 by_cases q:i=j
 ·subst q;exact Lq.SV o hr (by omega)
 ·exact s i j hi (by omega) hj
theorem QT(o:Ord cv n)(hr:Rg l n)(VI:a<m)(Uc:m<b)(hb:b<=l.length)(sA:cq cv l a m)(sB:cq cv l m b)(Ud:md=(a+b) / 2){lo hi f:Nat}(cx:lo=if m>md then md+m - b else a)(gv:hi=if m>md then md else m)(hf:hi - lo<=f)(jG:st=iL (lC cv l<|md+m - 1) f lo hi):Cut cv l a m b md st:=by
 have q0:a<=lo/\lo<=hi/\hi<=m/\hi<=md/\(∀c,lo<=c->c<hi->m<=md+m - 1 - c/\md+m - 1 - c<b):=by
  subst cx;subst gv;split
  ·refine⟨by omega,by omega,by omega,by omega,fun c h1 h2=>by omega⟩
  ·refine⟨by omega,by omega,by omega,by omega,fun c h1 h2=>by omega⟩
 obtain⟨p1,p2,p3,p4,p5⟩:=q0;have mono:∀x y,lo<=x->x<y->y<hi->lC cv l (md+m - 1) y=true->lC cv l (md+m - 1) x=true:=fun x y h1 h2 h3 h4=>by
  obtain⟨a1,a2⟩:=p5 x h1 (by omega);obtain⟨b1,b2⟩:=p5 y (by omega) h3;have h4:Lq cv (I l y)<|I l<|md+m - 1 - y:=by simpa[lC] using h4
  have k1:=cq.le o hr sA (by omega) (show a<=x by omega) (Nat.le_of_lt h2) (show y<m by omega);have k2:=cq.le o hr sB (by omega) b1 (show md+m - 1 - y<=md+m - 1 - x by omega) a2;have k3:=Lq.oJ o hr (by omega) (by omega) (by omega) (Lq.oJ o hr (by omega) (by omega) (by omega) k1 h4) k2;simpa[lC] using k3
 obtain⟨r1,r2,r3,r4⟩:=uK mono f lo hi (Nat.le_refl _) p2 (Nat.le_refl _) hf (fun k h1 h2=>by omega) (fun k h1 h2=>by omega);rw[←jG] at r1 r2 r3 r4;have g:md+m - st<=b/\(lo=a\/(lo=md+m - b))/\(hi=m\/hi=md):=by
  by_cases q:m>md
  ·rw[if_pos q] at cx gv;exact⟨by omega,.inr cx,.inr gv⟩
  ·rw[if_neg q] at cx gv;exact⟨by omega,.inl cx,.inl gv⟩
 obtain⟨g1,g2,g3⟩:=g;refine⟨by omega,by omega,by omega,g1,by omega,fun i j h1 h2 h3 h4=>?_,fun j i h1 h2 h3 h4=>?_⟩
 ·by_cases q:st=lo
  ·rcases g2 with e|e<;>(exfalso;omega)
  ·have c:=r3 (st - 1) (by omega) (by omega);have c:Lq cv (I l<|st - 1)<|I l<|md+m - 1 - (st - 1):=by simpa[lC] using c
   have k1:=cq.le o hr sA (by omega) h1 (show i<=st - 1 by omega) (by omega);have k2:=cq.le o hr sB (by omega) (show m<=md+m - 1 - (st - 1) by omega) (show md+m - 1 - (st - 1)<=j by omega) h4;exact Lq.oJ o hr (by omega) (by omega) (by omega) (Lq.oJ o hr (by omega) (by omega) (by omega) k1 c) k2
 ·by_cases q:st=hi
  ·rcases g3 with e|e<;>(exfalso;omega)
  ·have c:=r4 st (Nat.le_refl _) (by omega);have c:cv (I l<|md+m - 1 - st) (I l st)<0:=by simpa[lC] using c
   obtain⟨b1,b2⟩:=p5 st r1 (by omega);have c:=Lq.of o (dJ hr<|by omega) (dJ hr<|by omega) c;have k1:=cq.le o hr sB (by omega) h1 (show j<=md+m - 1 - st by omega) (by omega);have k2:=cq.le o hr sA (by omega) (show a<=st by omega) h3 h4;exact Lq.oJ o hr (by omega) (by omega) (by omega) (Lq.oJ o hr (by omega) (by omega) (by omega) k1 c) k2
theorem P2(o:Ord cv n)(hr:Rg l n)(hb:b<=l.length)(Uc:m<=b)(sA:cq cv l a m)(sB:cq cv l m b)(C:Cut cv l a m b md st)(h:bZ l st m (md+m - st) l1):
 cq cv l1 a st/\cq cv l1 st md/\cq cv l1 md (md+m - st)/\cq cv l1 (md+m - st) b/\(∀i j,a<=i->i<md->md<=j->j<b->Lq cv (I l1 i) (I l1 j))/\(∀k,k<a\/b<=k->I l1 k=I l k):=by
 obtain⟨c1,c2,c3,c4,c5,x1,x2⟩:=C;have f1:∀k,k<st->I l1 k=I l k:=fun k hk=>by rw[h.is,if_neg (by omega),if_neg<|by omega]
 have f2:∀k,st<=k->k<md->I l1 k=I l (k+(m - st)):=fun k h1 h2=>by rw[h.is,if_pos<|by omega]
 have f3:∀k,md<=k->k<md+m - st->I l1 k=I l (k - (md - st)):=fun k h1 h2=>by rw[h.is,if_neg (by omega),if_pos<|by omega];exact jC (by omega)
 have f4:∀k,md+m - st<=k->I l1 k=I l k:=fun k hk=>by rw[h.is,if_neg (by omega),if_neg<|by omega]
 refine⟨fun i j h1 h2 h3=>?_,fun i j h1 h2 h3=>?_,fun i j h1 h2 h3=>?_,fun i j h1 h2 h3=>?_,fun i j h1 h2 h3 h4=>?_,fun k hk=>?_⟩
 ·rw[f1 i (by omega),f1 j<|by omega];exact sA i j h1 h2 (by omega)
 ·rw[f2 i (by omega) (by omega),f2 j (by omega)<|by omega];exact sB _ _ (by omega) (by omega) (by omega)
 ·rw[f3 i (by omega) (by omega),f3 j (by omega)<|by omega];exact sA _ _ (by omega) (by omega) (by omega)
 ·rw[f4 i (by omega),f4 j<|by omega];exact sB _ _ (by omega) (by omega) (by omega)
 ·by_cases q1:i<st
  ·rw[f1 i q1];by_cases q2:j<md+m - st
   ·rw[f3 j h3 q2];exact sA _ _ h1 (by omega) (by omega)
   ·rw[f4 j<|by omega];exact x1 i j h1 q1 (by omega) h4
  ·rw[f2 i (by omega) h2];by_cases q2:j<md+m - st
   ·rw[f3 j h3 q2];exact x2 _ _ (by omega) (by omega) (by omega) (by omega)
   ·rw[f4 j<|by omega];exact sB _ _ (by omega) (by omega) h4
 ·rcases hk with hk|hk
  ·exact f1 k (by omega)
  ·exact f4 k (by omega)
theorem P3(hb:b<=l.length)(Ue:a<=md)(Uf:md<=b)(hp:l1.Perm l)(ho:∀k,k<a\/b<=k->I l1 k=I l k)(hx:∀i j,a<=i->i<md->md<=j->j<b->Lq cv (I l1 i) (I l1 j))(h2:bI cv l1 a md l2)(h3:bI cv l2 md b l3):bI cv l a b l3:=by
 have e1:=hp.length_eq;have e2:=h2.len;refine⟨h3.pm.trans<|h2.pm.trans hp,fun k hk=>?_,fun i j hi dp hj=>?_⟩
 ·rw[h3.out k (by omega),h2.out k (by omega),ho k hk]
 ·by_cases q1:j<md
  ·rw[h3.out i (by omega),h3.out j<|by omega];exact h2.lM i j hi dp q1
  ·by_cases q2:md<=i
   ·exact h3.lM i j q2 dp hj
   ·obtain⟨k,k1,k2,k3⟩:=h3.mem Uf (by omega) (show md<=j by omega) hj;obtain⟨z,z1,z2,z3⟩:=h2.mem Ue (by omega) hi (show i<md by omega);rw[h3.out i (by omega),k3,h2.out k (by omega),z3];exact hx z k z1 z2 k1 k2
theorem bI.refl(s:cq cv l a b):bI cv l a b l:=⟨.refl _,fun _ _=>rfl,s⟩
theorem cq.other{l':List Int}{c d:Nat}(s:cq cv l c d)(h:bI cv l a b l')(hd:d<=a\/b<=c):cq cv l' c d:=fun i j h1 h2 h3=>by rw[h.out i (by omega),h.out j<|by omega];exact s i j h1 h2 h3
end
end dG
end
section
open Go Go.Rn Go.RowKit Go.Proofs
namespace ep
open dx dG
abbrev b7(l:List Int):List AV:=(l.map aw).flatten
noncomputable abbrev mR(l:List Int)(c:AV):List<|Nat×Option U:=au++[(270,some<|aD aw l),(271,some<|ak [c])]
abbrev bX(sl:List<|Nat×AV)(o:List<|Nat×Option U)(fr:AF)(s:AS):Prop:=(sl.map (fun q=>some q.2)=sl.map (fun q=>some q.2))/\(o.map (fun q=>q.2)=o.map (fun q=>q.2))/\(fr=fr/\s=s)
theorem b8{sl:List<|Nat×AV}{o:List<|Nat×Option U}{fr:AF}{s:AS}:bX sl o fr s:=⟨rfl,rfl,rfl,rfl⟩
abbrev RR(l':List Int)(c:AV)(v:AV)(s:AS):Prop:=v= .tuple []/\s.h.get 270=some (ak<|b7 l')/\s.h.get 271=some (ak [c])
abbrev aR(B:aH)(f:Func)(l':List Int)(c:AV)(fr:AF)(s:AS):Prop:=bw Tryz.prog B 272 (Fin Tryz.prog f.results.toList<|RR l' c) fr s
abbrev nK(l:List Int)(c:AV):Prop:=AV.tuple []=AV.tuple []/\some (aD aw l)=some (ak<|b7 l)/\some (ak [c])=some (ak [c])
theorem oK{l:List Int}{c:AV}:nK l c:=⟨rfl,rfl,rfl⟩
section
variable {L:bY} {B:aH} {f nt:Nat} {t:Tr AV} {K:List Item} {s:AS} {rs:List ResultVar} {R:AV->AS->Prop}
theorem rS(mc:Mt L B)(p:Pl){T:Prop}(x:T)(h:T=wp (BR L) 900 6 (.fr f nt K t s) p rs (fun v s _=>R v s) (fun _ _ _=>False):=by as_aux_lemma=>kernel_rfl)(h0:Nat.ble 272 s.nx=true:=by as_aux_lemma=>kernel_rfl):bw Tryz.prog B 272 (Fin Tryz.prog rs R) ⟨f,t,nt,K,[],none⟩ s:=DM (E:=BR L) uR rfl cf mc.2.2.1 mc.2.2.2 900 p x h h0
theorem rC(mc:Mt L B){F:AF}{S:AS}(H:bw Tryz.prog B 272 (Fin Tryz.prog rs R) F S)(p:Pl){T:Prop}(x:T)(h:T=wp (BR L) 900 6 (.fr f nt K t s) p rs (fun v s _=>R v s) (fun fr s1 _=>fr=F/\s1=S):=by as_aux_lemma=>kernel_rfl)(h0:Nat.ble 272 s.nx=true:=by as_aux_lemma=>kernel_rfl):bw Tryz.prog B 272 (Fin Tryz.prog rs R) ⟨f,t,nt,K,[],none⟩ s:=DL (E:=BR L) (C:=fun fr s1 _=>fr=F/\s1=S) uR rfl cf mc.2.2.1 mc.2.2.2 Ox rfl mc.1 (fun fr s1 p hC=>by obtain⟨rfl,rfl⟩:=hC;exact H) 900 p x h h0
end
theorem wN(z:Int)(k:Nat)(h:z=(k:Int):=by omega)(hk:k<=1000000000:=by omega):AV.int .i64 (IntKind.wrap .i64 z)=AV.int .i64 ((k:Nat):Int):=by rw[h];exact wI _ (by omega)
theorem hU(k:Nat)(hk:k<=1000000000:=by omega):AV.int .u64 (IntKind.wrap .u64 ((k:Nat):Int))=AV.int .u64 ((k:Nat):Int):=by refine congrArg (AV.int .u64) ?_;show((k:Int)) % (2 ^ 64:Int)=_;omega
theorem hS(k:Nat)(hk:k<=1000000000:=by omega):AV.int .i64 (IntKind.wrap .i64<|yj .shr .u64 ((k:Nat):Int)<|.ofNat 1)=AV.int .i64 ((k / 2:Nat):Int):=by
 have e:yj .shr .u64 ((k:Nat):Int) (.ofNat 1)=((k / 2:Nat):Int):=by show((k:Nat):Int).fdiv (2 ^ min 1 64)=_;rw[Int.fdiv_eq_ediv_of_nonneg _<|by decide];show((k:Nat):Int) / 2=_;omega
 rw[e];exact wI _ (by omega)
theorem fP{l:List Int}{k:Nat}(h:k<l.length:=by omega)(hl:l.length<=1000000:=by omega):cellsOf (some<|aD aw l) (((k:Nat):Int).toNat*1) 1=some [.int .i64<|I l k]:=by have:=DN (enc:=aw) (K:=1) (fun _=>rfl) (l:=l) (i:=k) (c:=I l k) (by unfold top;omega) (Av h) 0 1 rfl;rw[Int.toNat_natCast];exact this
theorem zf{l:List Int}{k:Nat}{v:Int}(h:k<l.length:=by omega)(hl:l.length<=1000000:=by omega):gA (some<|aD aw l) (((k:Nat):Int).toNat*1) [.int .i64 v]=some (aD aw<|l.set k v):=by have:=DO (enc:=aw) (K:=1) (fun _=>rfl) (l:=l) (i:=k) (c:=I l k) (c':=v) (r:=[.int .i64 v]) (by unfold top;omega) (Av h) 0 rfl rfl rfl;rw[Int.toNat_natCast];exact this
theorem Br{l:List Int}{i k:Nat}{v w:Int}(h:k<l.length:=by omega)(hl:l.length<=1000000:=by omega):gA (some<|aD aw<|l.set i w) (((k:Nat):Int).toNat*1) [.int .i64 v]=some (aD aw<|(l.set i w).set k v):=zf (by rw[List.length_set];exact h) (by rw[List.length_set];exact hl)
noncomputable abbrev cQ(c:AV):AS->Prop:=qK 270 dy ed [271] [[c]]
noncomputable abbrev cG:AS->AS:=xQ 270 dy ed [271]
structure Cm (L:bY) (g:FuncId) (c:AV) (n:Int->Prop) (cv:Int->Int->Int):Prop where
 SW:∀x y,n x->n y->∀z,cQ c z->br Tryz.prog (sp L) FU 6 (.fn g) [.int .i64 x,.int .i64 y,.ptr<|some (271,0)] z= .ok (.int .i64<|cv x y) (cG z)
 ord:Ord cv n
abbrev CQ(c:AV):Prop:=true=true/\(true=true/\some (ak [c])=some (ak [c]))/\True
theorem cm{L:bY}{g:FuncId}{c:AV}{n:Int->Prop}{cv:Int->Int->Int}(h:Cm L g c n cv){x y:Int}{T:Prop}(hx:n x)(hy:n y)(t:T):(∀z,cQ c z->br Tryz.prog (sp L) FU 6 (.fn g) [.int .i64 x,.int .i64 y,.ptr<|some (271,0)] z= .ok (.int .i64<|cv x y) (cG z))/\CQ c/\T:=⟨h.SW x y hx hy,⟨rfl,⟨rfl,rfl⟩,trivial⟩,t⟩
noncomputable abbrev dK(g:FuncId):AV:=.func (.func g) [] [.ptr<|some (271,0)]
end ep
end
section
open Go Go.Rn Go.RowKit Go.Proofs
namespace eV
open dx dG ep
abbrev LR:=List AV->List (List AV)->AV->Option (List AV)->Prop
open Classical in
noncomputable def vL(R:LR)(args:List AV)(ax:List<|List AV):Option<|AV×Option (List AV):=if h:∃p:AV×Option (List AV),R args ax p.1 p.2 then some h.choose else none
abbrev jD(R:LR):Prop:=∀args ax y y' c c',R args ax y c->R args ax y' c'->y=y'/\c=c'
theorem td{R:LR}(hd:jD R){args:List AV}{ax:List<|List AV}{y:AV}{c:Option<|List AV}(h:R args ax y c):vL R args ax=some (y,c):=by have hx:∃p:AV×Option (List AV),R args ax p.1 p.2:=⟨(y,c),h⟩;unfold vL;rw[dif_pos hx];obtain⟨e1,e2⟩:=hd _ _ _ _ _ _ hx.choose_spec h;exact congrArg some<|Prod.ext e1 e2
theorem QU{R:LR}{args:List AV}{ax:List<|List AV}{y:AV}{c:Option<|List AV}(h:vL R args ax=some (y,c)):R args ax y c:=by
 unfold vL at h;split at h
 ·rename_i hx;injection h with h
  have:=hx.choose_spec;rw[h] at this;exact this
 ·cases h
theorem qo(l:List Int):b7 l=l.map (AV.int .i64):=by
 induction l with
 |nil=>rfl
 |cons x l ih=>show aw x++b7 l=_;rw[ih];rfl
theorem lf(l:List Int):(b7 l).length=l.length:=by rw[qo,List.length_map]
theorem P4{l m:List Int}(h:b7 l=b7 m):l=m:=by rw[qo,qo] at h;exact(List.map_inj_right fun x y e=>by injection e).1 h
theorem AI(l:List Int):(b7 l).all AV.bO=true:=by rw[qo,List.all_map];exact List.all_eq_true.2 fun x _=>rfl
noncomputable abbrev jw(N:Nat)(cap:aZ)(is:List Int)(g:FuncId):List AV:=.slice (some (270,0)) N cap::(is.map (AV.int .i64)++[dK g])
theorem Pj(N:Nat)(cap:aZ)(g:FuncId)(is:List Int):cY (jw N cap is g)=[270,271]:=by
 have h:∀is:List Int,cY (is.map (AV.int .i64)++[dK g])=[271]:=fun is=>by
  induction is with
  |nil=>rfl
  |cons x is ih=>exact ih
 show[270]++cY (is.map (AV.int .i64)++[dK g])=_;rw[h];rfl
theorem Pk(N:Nat)(cap:aZ)(g:FuncId)(is:List Int):(jw N cap is g).all gb=true:=by
 have h:∀is:List Int,(is.map (AV.int .i64)++[dK g]).all gb=true:=fun is=>by
  induction is with
  |nil=>show(gb (dK g)&&true)=true;kernel_rfl
  |cons x is ih=>rw[List.map_cons,List.cons_append,List.all_cons,ih];rfl
 show(gb (.slice (some (270,0)) N cap)&&(is.map (AV.int .i64)++[dK g]).all gb)=true;rw[h];kernel_rfl
theorem Pm(N:Nat)(cap:aZ)(g:FuncId)(is:List Int):(jw N cap is g).map (je fun n=>270+jB [270,271] n)=jw N cap is g:=by
 have h:∀is:List Int,(is.map (AV.int .i64)++[dK g]).map (je fun n=>270+jB [270,271] n)=is.map (AV.int .i64)++[dK g]:=fun is=>by
  induction is with
  |nil=>rfl
  |cons x is ih=>rw[List.map_cons,List.cons_append,List.map_cons,ih];rfl
 show je _ (.slice (some (270,0)) N cap)::(is.map (AV.int .i64)++[dK g]).map _=_;rw[h];rfl
theorem uB{N N':Nat}{cap KJ:aZ}{is Lw:List Int}{g g':FuncId}(h:jw N cap is g=jw N' KJ Lw g'):N=N'/\cap=KJ/\is=Lw/\g=g':=by
 injection h with h1 h2
 injection h1 with _ h1 h3
 obtain⟨h4,h5⟩:=List.append_inj' h2 rfl;injection h5 with h5 _
 injection h5 with h5 _
 injection h5 with h5
 exact⟨h1,h3,(List.map_inj_right fun x y e=>by injection e).1 h4,h5⟩
theorem uT{l m:List Int}{c d:AV}(h:[b7 l,[c]]=[b7 m,[d]]):l=m/\c=d:=by
 injection h with h1 h2
 injection h2 with h2 _
 injection h2 with h2 _
 exact⟨P4 h1,h2⟩
noncomputable abbrev lQ(l:List Int)(c:AV):AS->Prop:=qK 270 dy ed [270,271] [b7 l,[c]]
noncomputable abbrev lG(l:List Int):AS->AS:=En 270 dy ed 270 [271]<|b7 l
abbrev LQ(l:List Int)(c:AV):Prop:=true=true/\(true=true/\some (aD aw l)=some (ak<|b7 l))/\(true=true/\some (ak [c])=some (ak [c]))/\True
theorem mQ{L:bY}{f:FuncId}{R:LR}(hs:sp L f=some (eH (vL R) 270 ed dy))(hd:jD R){N:Nat}{cap:aZ}{is:List Int}{g:FuncId}{l l':List Int}{c:AV}{T:Prop}(hc:c.bO=true)(h:R (jw N cap is g) [b7 l,[c]] (.tuple [])<|some<|b7 l')(hl:l.length<=1000000)(jH:l'.length=l.length)(t:T):
 (∀z,lQ l c z->br Tryz.prog (sp L) FU 6 (.fn f) (jw N cap is g) z= .ok (.tuple []) (lG l' z))/\LQ l c/\T:=by
 refine⟨?_,⟨rfl,⟨rfl,rfl⟩,⟨rfl,rfl⟩,trivial⟩,t⟩;have ht:l.length<=top:=by unfold top;omega
 refine Jx (n:=5) (N:=[271]) (m:=270) (c:=b7 l') hs (Pj N cap g is) ?_ (by decide) rfl (by kernel_rfl) ?_ ?_ rfl ?_
 ·rw[Pk];rfl
 ·show(((b7 l).all AV.bO&&Nat.ble (b7 l).length top)&&(((c.bO&&true)&&Nat.ble 1 top)&&true))=true;rw[AI,lf,aK.2 ht,hc,aK.2 (show 1<=top by unfold top;omega)];rfl
 ·rw[Pm];exact td hd h
 ·rw[AI,lf,jH,aK.2 ht];rfl
theorem mf{L L':bY}{g:Nat}{fn:Func}{R:LR}(hP:du Tryz.prog)(h:cJ L)(h':cJ L')(cI:Tryz.prog.funcs[g]? =some fn)(iG:∀args ax y c,R args ax y c->max fn.ntmps args.length<=top/\∀B:aH,Mt L' B->bw Tryz.prog B (270+ax.length) (yp 270 Tryz.prog fn.results.toList y<|mq c ax) ⟨g,bG args,max fn.ntmps args.length,[.code<|aI Tryz.prog g []],[],none⟩ ⟨kD<|au++qJ 270 ax,270+ax.length,0,[],[]⟩)(di:fn.body=some (aI Tryz.prog g []):=by kernel_rfl)(hn:(fn.name == "runtime.NumGoroutine")=false:=by kernel_rfl):cJ<|(g,.raw<|eH<|vL R)::L:=Ph hP Af PZ Eo yq SS KG h h' cI di hn fun args ax y c e=>iG args ax y c<|QU e
end eV
end
section
open Go Go.Rn Go.RowKit Go.Proofs
namespace gq
open dx dG
abbrev Pr:=Int×Int
structure At where
 th:Int
 tx:Int
 fr:Int
 to:Int
 rv:Int
 wv:Int
 cm:Bool
 rd:List Pr
 wr:List Pr
deriving Inhabited
theorem eP:lB 2 cR:=⟨fun _=>rfl,fun _=>rfl⟩
noncomputable def ah(a:At):List AV:=[.int .i64 a.th,.int .i64 a.tx,.int .i64 a.fr,.int .i64 a.to,.int .i64 a.rv,.int .i64 a.wv,.bool a.cm,.ch (nm (a.rd.map cR).flatten) 0 a.rd.length,.ch (nm (a.wr.map cR).flatten) 0 a.wr.length]
theorem eA:lB 9 ah:=⟨fun _=>rfl,fun a=>by show(true&&(true&&(true&&(true&&(true&&(true&&(true&&(Nat.ble top (nm _)&&(Nat.ble top (nm _)&&true)))))))))=true;rw[aK.2<|bj _,aK.2<|bj _];rfl⟩
theorem Ag{l m:List Pr}(h:aq cR l=aq cR m):l=m:=by
 have e:fF cR 2 (aq cR l) m:=by rw[h];exact fF.aq eP m
 exact fF.inj Ov (fF.aq eP l) e
theorem Db(x y:At)(h:ah x=ah y):x=y:=by obtain⟨_,_,_,_,_,_,_,r,w⟩:=x;obtain⟨_,_,_,_,_,_,_,r',w'⟩:=y;simp only[ah,List.cons.injEq,AV.int.injEq,AV.bool.injEq,true_and,_root_.and_true] at h;obtain⟨rfl,rfl,rfl,rfl,rfl,rfl,rfl,h1,h2⟩:=h;have e1:=Ag (show aq cR r=aq cR r' from h1);have e2:=Ag (show aq cR w=aq cR w' from h2);rw[e1,e2]
theorem rZ{l m:List At}(h:aq ah l=aq ah m):l=m:=by
 have e:fF ah 9 (aq ah l) m:=by rw[h];exact fF.aq eA m
 exact fF.inj Db (fF.aq eA l) e
theorem RU(a:At):AV.hi (.agg<|ah a)=true:=by show(ah a).all AV.bO=true;exact List.all_eq_true.2 fun x hx=>Ad<|List.all_eq_true.1 (eA.fX a) x hx
def cp(x y:Int):Int:=if x<y then -1 else if x>y then 1 else 0
def aA(l:List At)(x:Int):At:=l.getD x.toNat default
def A0(l:List At):Prop:=∀x y,(0<=x/\x<(l.length:Int))->(0<=y/\y<(l.length:Int))->(aA l x).fr=(aA l y).fr->x=y
def jJ(key:At->Int)(l:List At)(x y:Int):Int:=cp (key<|aA l x)<|key<|aA l y
theorem xB(key:At->Int)(l:List At)(x y:Int):jJ key l x y<0↔key (aA l x)<key (aA l y):=by
 unfold jJ cp
 repeat' split
 all_goals omega
def jK(l:List At)(x:Int):Prop:=0<=x/\x<(l.length:Int)
def wq(l:List At)(x:Int):Prop:=jK l x/\(aA l x).wv>0
def nb(l:List At):Prop:=∀x y,wq l x->wq l y->(aA l x).wv=(aA l y).wv->x=y
theorem xm{key:At->Int}{l:List At}{S:Int->Prop}(h:∀x y,S x->S y->key (aA l x)=key (aA l y)->x=y):Ord (jJ key l) S:=by
 refine⟨fun x y z _ _ _ h1 h2=>?_,fun x y _ _=>?_,fun x y hx hy h1 h2=>?_⟩
 ·simp only[Lq,xB] at*;omega
 ·simp only[Lq,xB];omega
 ·simp only[Lq,xB] at*;exact h x y hx hy (by omega)
end gq
end
section
open Go Go.Rn Go.RowKit Go.Proofs
namespace jb
open dx dG ep eV gq
section
variable {L:bY} {B:aH} {f nt:Nat} {t:Tr AV} {K:List Item} {s:AS} {rs:List ResultVar} {R:AV->AS->Prop}
theorem kC(mc:Mt L B){F:AF}{S:AS}(H:bw Tryz.prog B 271 (Fin Tryz.prog rs R) F S)(p:Pl){T:Prop}(x:T)(h:T=wp (ze L) 900 6 (.fr f nt K t s) p rs (fun v s _=>R v s) (fun fr s1 _=>fr=F/\s1=S):=by as_aux_lemma=>kernel_rfl)(h0:Nat.ble 271 s.nx=true:=by as_aux_lemma=>kernel_rfl):bw Tryz.prog B 271 (Fin Tryz.prog rs R) ⟨f,t,nt,K,[],none⟩ s:=Ub mc (C:=fun fr s1 _=>fr=F/\s1=S) (fun fr s1 _ hC=>by obtain⟨rfl,rfl⟩:=hC;exact H) p x h h0
theorem vC(mc:Mt L B){F:AF}{S:AS}(H:bw Tryz.prog B 270 (Fin Tryz.prog rs R) F S)(p:Pl){T:Prop}(x:T)(h:T=wp (en L) 900 6 (.fr f nt K t s) p rs (fun v s _=>R v s) (fun fr s1 _=>fr=F/\s1=S):=by as_aux_lemma=>kernel_rfl)(h0:Nat.ble 270 s.nx=true:=by as_aux_lemma=>kernel_rfl):bw Tryz.prog B 270 (Fin Tryz.prog rs R) ⟨f,t,nt,K,[],none⟩ s:=wC mc (C:=fun fr s1 _=>fr=F/\s1=S) (fun fr s1 _ hC=>by obtain⟨rfl,rfl⟩:=hC;exact H) p x h h0
end
def dB(v:Int)(p:Pr):Bool:=decide (p.1<0)||decide (p.1>=v)
def kc(v:Int):List Pr->Int->Int
 |[],_=> -1
 |p::l,i=>if dB v p then i else kc v l (i+1)
noncomputable abbrev mF(v:Int):List<|Nat×Option U:=au++[(270,some<|ak [i6 v])]
noncomputable abbrev kS:AV:=.func (.func 13) [] [.ptr<|some (270,0)]
abbrev RF(y:AV)(v:Int)(r:AV)(s:AS):Prop:=r=y/\s.h.get 270=some (ak [i6 v])
abbrev oL(B:aH)(f:Func)(y:AV)(v:Int)(fr:AF)(s:AS):Prop:=bw Tryz.prog B 271 (Fin Tryz.prog f.results.toList<|RF y v) fr s
abbrev zg(y:AV)(v:Int):Prop:=y=y/\some (ak [i6 v])=some (ak [i6 v])
theorem vR{l:List Pr}{i:Nat}(h:i<l.length):fj FU (nm (l.map cR).flatten) (0+((i:Nat):Int).toNat*2) 2=some [i6 (l.getD i (0,0)).1,i6 (l.getD i (0,0)).2]:=by
 have e:l[i]? =some (l.getD i (0,0)):=by rw[List.getD_eq_getElem?_getD,List.getElem?_eq_getElem h];rfl
 have:=qy eP e 0 2 (by omega);rw[Nat.add_zero] at this;rw[Nat.zero_add,Int.toNat_natCast];exact this
theorem J8{l:List Pr}{i:Nat}(h:i<l.length):fj FU (nm (l.map cR).flatten) (0+((i:Nat):Int).toNat*2+0) 1=some [i6 (l.getD i (0,0)).1]:=by
 have e:l[i]? =some (l.getD i (0,0)):=by rw[List.getD_eq_getElem?_getD,List.getElem?_eq_getElem h];rfl
 have:=qy eP e 0 1 (by omega);rw[Nat.zero_add,Int.toNat_natCast];exact this
abbrev VE(nx:Nat)(x:AV):Prop:=∀r:Nat->Nat,(∀k,k<nx->r k=k)->(∀k,top<=k->r k=k)->bf r x x
abbrev OE(nx:Nat)(o:U):Prop:=∀r:Nat->Nat,(∀k,k<nx->r k=k)->(∀k,top<=k->r k=k)->gm r o o
def nL(nx:Nat):List (Nat×AV)->Prop
 |[]=>True
 |p::l=>VE nx p.2/\nL nx l
def nM(nx:Nat):List (Nat×Option U)->Prop
 |[]=>True
 |p::l=>(∀x,p.2=some x->OE nx x)/\nM nx l
theorem nL.at{nx:Nat}:∀{l:List<|Nat×AV},nL nx l->∀p∈l,VE nx p.2
 |_::_,h,p,hp=>by
  rcases List.mem_cons.1 hp with rfl|hp
  ·exact h.1
  ·exact nL.at h.2 p hp
theorem nM.at{nx:Nat}:∀{l:List<|Nat×Option U},nM nx l->∀p∈l,∀x,p.2=some x->OE nx x
 |_::_,h,p,hp=>by
  rcases List.mem_cons.1 hp with rfl|hp
  ·exact h.1
  ·exact nM.at h.2 p hp
theorem pG{nx:Nat}{l:List<|Nat×AV}{o:List<|Nat×Option U}(hn:270<=nx)(hl:nL nx l)(ho:nM nx o):vO nx l<|au++o:=fun r h1 h2=>by
 refine⟨fun p hp=>hl.at p hp r h1 h2,fun p hp x hx=>?_⟩;rcases List.mem_append.1 hp with hp|hp
 ·exact Ac (nx:=270) (fun k hk=>h1 k<|by omega) (by as_aux_lemma=>kernel_rfl) p hp x hx
 ·exact ho.at p hp x hx r h1 h2
theorem Ug{nx:Nat}{x:AV}(h:x.hi=true):VE nx x:=fun r _ r2 ρ v k=>AV.vu (fun m x hm e=>by show ρ (r m)=_;rw[r2 m hm];exact e) h k
theorem ub{nx n o:Nat}(h:n<nx):VE nx<|.ptr<|some (n,o):=fun r r1 _=>bf.ptr<|r1 n h
theorem FF{nx n:Nat}(h:n<nx):VE nx<|.map<|some n:=fun r r1 _=>bf.map<|r1 n h
theorem FG{nx n len:Nat}{c:aZ}(h:n<nx):VE nx<|.slice (some (n,0)) len c:=fun r r1 _=>bf.slice<|r1 n h
theorem BS{nx n o:Nat}{g:FuncId}(h:n<nx):VE nx<|.func (.func g) [] [.ptr<|some (n,o)]:=fun r r1 _ ρ v k=>by simp only[VR,av] at k ⊢;rw[r1 n h];exact k
theorem fb{nx:Nat}{n:Int}:VE nx<|.int .i64 n:=fun r _ _=>bf.int _ _
theorem VJ{nx:Nat}{b:Bool}:VE nx<|.bool b:=fun r _ _=>bf.bool _
theorem ke{nx:Nat}{α:Type}{enc:α->List AV}{l:List α}:VE nx<|aq enc l:=Ug<|aK.2<|bj _
theorem kT{nx:Nat}{o:U}(h:OE nx o):∀x,some o=some x->OE nx x:=fun x e=>by cases e;exact h
theorem BT{nx:Nat}{cs:List AV}(hl:cs.length<=top)(h:∀c∈cs,VE nx c)(h1:cs.all AV.bu=true):OE nx<|ak cs:=fun r r1 r2=>by
 have go:∀l:List AV,(∀c∈l,VE nx c)->lu r l l:=fun l=>by
  induction l with
  |nil=>intro _;trivial
  |cons c l ih=>intro h;exact⟨h c List.mem_cons_self r r1 r2,ih fun c hc=>h c<|List.mem_cons_of_mem _ hc⟩
 exact gm.cells hl (go cs h) h1
abbrev oM(nx:Nat)(sl:List<|Nat×AV)(o:List<|Nat×Option U)(fr:AF)(s:AS):Prop:=(sl.map (fun q=>some q.2)=sl.map (fun q=>some q.2))/\(o.map (fun q=>q.2)=o.map (fun q=>q.2))/\vO nx sl o/\(fr=fr/\s=s)
theorem pW{nx:Nat}{sl:List<|Nat×AV}{o:List<|Nat×Option U}{fr:AF}{s:AS}(h:vO nx sl o):oM nx sl o fr s:=⟨rfl,rfl,h,rfl,rfl⟩
theorem BU{nx:Nat}{v:Int}:OE nx<|ak [i6 v]:=BT (by show 1<=top;unfold top;omega) (fun c hc=>by rw[List.mem_singleton] at hc;subst hc;exact fb) rfl
end jb
end
section
open Go Go.Rn Go.RowKit Go.Proofs
namespace ER
open dx dG ep eV gq jb
noncomputable def jf(l:List Pr)(i:Nat):List<|Nat×AV:=[(0,aq cR l),(1,kS),(7,.int .i64 (l.length:Int)),(8,.int .i64 (i:Int))]
noncomputable def KI:List Item:=[.code<|aI Tryz.prog 26 [1,0,1,0,0],.inLoop<|aI Tryz.prog 26 [1,0,1,0,0],.inBlock 0,.code<|aI Tryz.prog 26 [1,1]]
noncomputable def fc(l:List Pr)(i:Nat):AF:=⟨26,cj<|jf l i,(max Tryz.f26.ntmps 2),KI,[],none⟩
section
variable {B:aH} {y:AV} {v:Int} {l:List Pr} {i:Nat}
theorem i0(mc:Mt [] B)(H:oL B Tryz.f26 y v (fc l 0)<|J (mF v) 271):oL B Tryz.f26 y v ⟨26,bG [aq cR l,kS],(max Tryz.f26.ntmps 2),[.code<|aI Tryz.prog 26 []],[],none⟩<|J (mF v) 271:=kC mc H (.st 7<|.ls (jf l 0) (mF v) 271 .no) (show bX (jf l 0) (mF v) (fc l 0) (J (mF v) 271) from b8)
theorem iE(mc:Mt [] B)(h0:l.length<=i):oL B Tryz.f26 (i6<|-1) v (fc l i)<|J (mF v) 271:=oH mc (R:=RF (i6<|-1) v) (.st 1<|.rg<|.fk .no<|.en<|.rt 7<|.no)<|ay ((i:Int)<(l.length:Int)) (fun h=>show False by omega) fun _=>(show zg (i6<|-1) v from⟨rfl,rfl⟩)
theorem Uh(mc:Mt [] B)(hi:i<l.length)(h:(l.getD i (0,0)).1<0):oL B Tryz.f26 (i6 (i:Int)) v (fc l i)<|J (mF v) 271:=oH mc (R:=RF (i6 (i:Int)) v) (.st 1<|.rg<|.fk (.en<|.st 8<|.rg<|.go 3<|.bV<|.bW ([i6 (l.getD i (0,0)).1,i6 (l.getD i (0,0)).2])<|.il<|.st 3<|.rg<|.go 2<|.fk (.go 7<|.en<|.rt 2<|.en<|.rt 5<|.no) .no) .no)<|ay ((i:Int)<(l.length:Int)) (fun _=>(And.intro (show(0:Int)<=(i:Int) by omega)<|And.intro (show(i:Int)<((l.length:Nat):Int) by omega)<|And.intro (bj (l.map cR).flatten)<|And.intro (vR (l:=l) (i:=i)<|by omega)<|ay ((l.getD i (0,0)).1<0) (fun _=>(show zg (i6 (i:Int)) v from⟨rfl,rfl⟩)) (fun h=>show False by omega))) (fun h=>show False by omega)
theorem Ui(mc:Mt [] B)(hi:i<l.length)(h:¬(l.getD i (0,0)).1<0)(h2:(l.getD i (0,0)).1>=v):oL B Tryz.f26 (i6 (i:Int)) v (fc l i)<|J (mF v) 271:=oH mc (R:=RF (i6 (i:Int)) v) (.st 1<|.rg<|.fk (.en<|.st 8<|.rg<|.go 3<|.bV<|.bW ([i6 (l.getD i (0,0)).1,i6 (l.getD i (0,0)).2])<|.il<|.st 3<|.rg<|.go 2<|.fk .no<|.go 4<|.fk (.go 2<|.en<|.rt 2<|.en<|.rt 5<|.no) .no) .no)<|ay ((i:Int)<(l.length:Int)) (fun _=>(And.intro (show(0:Int)<=(i:Int) by omega)<|And.intro (show(i:Int)<((l.length:Nat):Int) by omega)<|And.intro (bj (l.map cR).flatten)<|And.intro (vR (l:=l) (i:=i)<|by omega)<|ay ((l.getD i (0,0)).1<0) (fun h=>show False by omega) fun _=>(ay ((l.getD i (0,0)).1>=v) (fun _=>(show zg (i6 (i:Int)) v from⟨rfl,rfl⟩)) (fun h=>show False by omega)))) (fun h=>show False by omega)
theorem iN(mc:Mt [] B)(hl:l.length<=1000000)(hi:i<l.length)(h:¬(l.getD i (0,0)).1<0)(h2:¬(l.getD i (0,0)).1>=v)(H:oL B Tryz.f26 y v (fc l<|i+1)<|J (mF v) 271):oL B Tryz.f26 y v (fc l i)<|J (mF v) 271:=kC mc H (.st 1<|.rg<|.fk (.en<|.st 8<|.rg<|.go 3<|.bV<|.bW ([i6 (l.getD i (0,0)).1,i6 (l.getD i (0,0)).2])<|.il<|.st 3<|.rg<|.go 2<|.fk .no<|.go 4<|.fk .no<|.go 2<|.en<|.rt 2<|.en<|.st 3<|.rg<|.vl (.int .i64 ((i+1:Nat):Int))<|.go 1<|.en<|.st 1<|.bk (jf l<|i+1) (mF v) 271 .no) .no)<|ay ((i:Int)<(l.length:Int)) (fun _=>(And.intro (show(0:Int)<=(i:Int) by omega)<|And.intro (show(i:Int)<((l.length:Nat):Int) by omega)<|And.intro (bj (l.map cR).flatten)<|And.intro (vR (l:=l) (i:=i)<|by omega)<|ay ((l.getD i (0,0)).1<0) (fun h=>show False by omega) fun _=>(ay ((l.getD i (0,0)).1>=v) (fun h=>show False by omega) fun _=>(And.intro (wN ((i:Int)+1)<|i+1) (show oM 271 (jf l<|i+1) (mF v) (fc l<|i+1) (J (mF v) 271) from pW<|pG (by omega) ⟨ke,BS (by omega),fb,fb,trivial⟩ ⟨kT BU,trivial⟩))))) (fun h=>show False by omega)
end
theorem Jz{B:aH}{v:Int}{l:List Pr}(mc:Mt [] B)(hl:l.length<=1000000):∀(r i:Nat),l.length - i=r->i<=l.length->oL B Tryz.f26 (i6<|kc v (l.drop i) i) v (fc l i) (J (mF v) 271)
 |0,i,h,hi=>by rw[List.drop_of_length_le<|by omega];exact iE mc (by omega)
 |r+1,i,h,hi=>by
  have hk:i<l.length:=by omega
  have e:l[i]=l.getD i (0,0):=by rw[List.getD_eq_getElem?_getD,List.getElem?_eq_getElem hk];rfl
  rw[List.drop_eq_getElem_cons hk,e,kc];by_cases q:(l.getD i (0,0)).1<0
  ·rw[if_pos (by unfold dB;rw[decide_eq_true q];rfl)];exact Uh mc hk q
  ·by_cases q2:(l.getD i (0,0)).1>=v
   ·rw[if_pos (by unfold dB;rw[decide_eq_false q,decide_eq_true q2];rfl)];exact Ui mc hk q q2
   ·rw[if_neg (by unfold dB;rw[decide_eq_false q,decide_eq_false q2];intro h;cases h)];exact iN mc hl hk q q2 (Jz mc hl r (i+1) (by omega)<|by omega)
def yr:LR:=fun args ax y c=>∃(l:List Pr) (v:Int),args=[aq cR l,kS]/\ax=[[i6 v]]/\l.length<=1000000/\y=i6 (kc v l 0)/\c=none
theorem yr.bc:jD yr:=fun args ax y y' c c' h h'=>by
 obtain⟨l,v,rfl,rfl,_,rfl,rfl⟩:=h;obtain⟨l2,v2,e1,e2,_,rfl,rfl⟩:=h';injection e1 with e1 _
 injection e2 with e2 _;injection e2 with e2 _;injection e2 with _ e2
 rw[Ag e1,e2];exact⟨rfl,rfl⟩
noncomputable def tv:FuncId×KE:=(26,.raw<|eH<|vL yr)
theorem P5(hP:du Tryz.prog){L:bY}(h:cJ L):cJ<|tv::L:=by refine mf hP h gO Tryz.func26 fun args ax y c e=>?_;obtain⟨l,v,rfl,rfl,hl,rfl,rfl⟩:=e;refine⟨aK.1 (by kernel_rfl),fun B mc=>tb ?_⟩;exact i0 mc<|Jz mc hl _ 0 rfl<|Nat.zero_le _
noncomputable abbrev fQ(v:Int):AS->Prop:=qK 270 dy ed [270] [[i6 v]]
noncomputable abbrev fG:AS->AS:=xQ 270 dy ed [270]
abbrev FQ(v:Int):Prop:=true=true/\(true=true/\some (ak [i6 v])=some (ak [i6 v]))/\True
theorem sc{L:bY}{f:FuncId}{R:LR}(hs:sp L f=some (eH (vL R) 270 ed dy))(hd:jD R){l:List Pr}{v:Int}{y:AV}{T:Prop}(hy:y.hi=true)(h:R [aq cR l,kS] [[i6 v]] y none)(t:T):
 (∀z,fQ v z->br Tryz.prog (sp L) FU 6 (.fn f) [aq cR l,kS] z= .ok y (fG z))/\FQ v/\T:=by
 refine⟨?_,⟨rfl,⟨rfl,rfl⟩,trivial⟩,t⟩;refine xA (n:=5) (N:=[270]) (ax:=[[i6 v]]) hs rfl ?_ (by decide) rfl (by kernel_rfl) (by kernel_rfl) (td hd h) hy;show(((or (AV.hi<|aq cR l)<|not (tq<|aq cR l).isEmpty)&&(gb kS&&true))&&Nat.ble 1 2)=true;rw[show AV.hi (aq cR l)=true from aK.2<|bj _];kernel_rfl
section
variable {B:aH} {v:Int} {l:List Pr}
theorem cT(mc:Mt [tv] B)(hl:l.length<=1000000)(hc:kc v l 0>=0):oL B Tryz.f15 (.bool true) v ⟨15,bG [aq cR l,kS],(max Tryz.f15.ntmps 2),[.code<|aI Tryz.prog 15 []],[],none⟩<|J (mF v) 271:=oH mc (L:=[tv]) (R:=RF (.bool true) v) (.st 3<|.rg<|.go 2<|.cg (i6<|kc v l 0) fG (fQ v)<|.fk (.go 1<|.en<|.rt 2<|.no) .no)<|sc (L:=[tv]) (f:=26) (by as_aux_lemma=>kernel_rfl) yr.bc (l:=l) (v:=v) (y:=i6<|kc v l 0) rfl ⟨l,v,rfl,rfl,hl,rfl,rfl⟩<|ay (kc v l 0>=0) (fun _=>(show zg (.bool true) v from⟨rfl,rfl⟩)) (fun h=>show False from h hc)
theorem cF(mc:Mt [tv] B)(hl:l.length<=1000000)(hc:¬kc v l 0>=0):oL B Tryz.f15 (.bool false) v ⟨15,bG [aq cR l,kS],(max Tryz.f15.ntmps 2),[.code<|aI Tryz.prog 15 []],[],none⟩<|J (mF v) 271:=oH mc (L:=[tv]) (R:=RF (.bool false) v) (.st 3<|.rg<|.go 2<|.cg (i6<|kc v l 0) fG (fQ v)<|.fk .no<|.go 1<|.en<|.rt 2<|.no)<|sc (L:=[tv]) (f:=26) (by as_aux_lemma=>kernel_rfl) yr.bc (l:=l) (v:=v) (y:=i6<|kc v l 0) rfl ⟨l,v,rfl,rfl,hl,rfl,rfl⟩<|ay (kc v l 0>=0) (fun h=>show False from hc h) fun _=>(show zg (.bool false) v from⟨rfl,rfl⟩)
end
theorem I6(v:Int):∀(l:List Pr) (i:Int),0<=i->(kc v l i>=0↔l.any (dB v)=true)
 |[],i,h=>by simp[kc]
 |p::l,i,h=>by
  rw[kc,List.any_cons];cases e:dB v p with
  |true=>simp[h]
  |false=>rw[if_neg (by intro h;cases h),Bool.false_or];exact I6 v l (i+1) (by omega)
def qQ:LR:=fun args ax y c=>∃(l:List Pr) (v:Int),args=[aq cR l,kS]/\ax=[[i6 v]]/\l.length<=1000000/\y= .bool (l.any<|dB v)/\c=none
theorem qQ.bc:jD qQ:=fun args ax y y' c c' h h'=>by
 obtain⟨l,v,rfl,rfl,_,rfl,rfl⟩:=h;obtain⟨l2,v2,e1,e2,_,rfl,rfl⟩:=h';injection e1 with e1 _
 injection e2 with e2 _;injection e2 with e2 _;injection e2 with _ e2
 rw[Ag e1,e2];exact⟨rfl,rfl⟩
noncomputable def cw:FuncId×KE:=(15,.raw<|eH<|vL qQ)
theorem P6(hP:du Tryz.prog){L:bY}(h:cJ L):cJ<|cw::L:=by
 refine mf hP h (P5 hP gO) Tryz.func15 fun args ax y c e=>?_;obtain⟨l,v,rfl,rfl,hl,rfl,rfl⟩:=e;refine⟨aK.1 (by kernel_rfl),fun B mc=>tb ?_⟩;have q:=I6 v l 0<|Int.le_refl _;cases e:l.any (dB v) with
 |true=>exact cT mc hl<|q.2 e
 |false=>exact cF mc hl (fun h=>by rw[q.1 h] at e;cases e)
end ER
end
section
open Go Go.Rn Go.RowKit Go.Proofs
namespace lD
open dx jb gq
noncomputable def fR(m:List Int):List<|AV×AV:=m.map fun k=>(AV.int .i64 k,AV.agg [])
noncomputable def bt(m:List Int):U:=.map (fR m) m.length
def ir(m:List Int)(k:Int):List Int:=if k∈m then m else m++[k]
theorem DS(k:Int):∀(m:List Int) (i:Nat),(k ∉ m/\dW (.int .i64 k) (fR m) i=some none)\/∃j,k∈m/\dW (.int .i64 k) (fR m) i=some (some (i+j,.agg []))/\m[j]? =some k
 |[],i=>.inl ⟨by simp,rfl⟩
 |p::l,i=>by
  have hf:dW (.int .i64 k) (fR<|p::l) i=(match some (k == p) with|none=>none|some true=>some (some (i,.agg []))|some false=>dW (.int .i64 k) (fR l)<|i+1):=rfl;by_cases e:p=k
  ·refine .inr ⟨0,by simp[e],?_,by simp[e]⟩;rw[hf,show(k == p)=true by simp[e]];rfl
  ·have bS:(k == p)=false:=by simp;exact fun q=>e q.symm
   rw[hf,bS];rcases DS k l (i+1) with⟨h1,h2⟩|⟨j,h1,h2,h3⟩
   ·exact .inl ⟨by simp[h1];exact fun q=>e q.symm,h2⟩
   ·exact .inr ⟨j+1,by simp[h1],by rw[show i+(j+1)=i+1+j by omega];exact h2,by simpa using h3⟩
theorem I7{k:Int}:∀{m:List Int} {j:Nat},m[j]? =some k->putAt (fR m) j (.int .i64 k) (.agg [])=fR m
 |p::l,0,h=>by
  have h:p=k:=by simpa using h
  subst h;rfl
 |p::l,j+1,h=>by show(AV.int .i64 p,AV.agg [])::putAt (fR l) j (.int .i64 k) (.agg [])=_;rw[I7 (m:=l) (j:=j)<|by simpa using h];rfl
noncomputable abbrev uG(n:Nat):AS->AS:=aN n
noncomputable abbrev uW(n:Nat)(m:List Int):AS->AS:=fun z=>eY n (some<|bt m)<|aN n z
abbrev uQ(n:Nat)(m:List Int)(z:AS):Prop:=Nat.blt n z.nx=true/\z.h.get n=some (bt m)
section
variable {ty kt et:TypeId} {k:Int} {m:List Int} {n:Nat}
theorem QV(hu:Tryz.prog.underlying ty=some (.map kt et))(hk:fV Tryz.prog 10000 kt (.int .i64 k)=true)(hp:plainKey Tryz.prog kt (.int .i64 k)=true)(hz:fC Tryz.prog et=some (.agg []))(z:AS)(h:uQ n m z):
 kY Tryz.prog ty (.map<|some n) (.int .i64 k) true z= .ok (.tuple [.agg [],.bool<|decide<|k∈m]) (uG n z):=by
 unfold kY;simp only[hu];have hf:nZ Tryz.prog kt (.int .i64 k) (.map<|some n) z= .ok (fR m) (aN n z):=by
  show((a9 n).bind fun o=>match o with
   | .map es _=>M.pure es
   | .cW es=>aB (or (plainKey Tryz.prog kt<|.int .i64 k)<|short es) <| M.pure es
   |_=>fail) z=_
  rw[M.bg<|ko h.1 h.2];rfl
 rw[M.bg hf,hk,bD];have nI:findKey Tryz.prog kt (.int .i64 k) (fR m)=dW (.int .i64 k) (fR m) 0:=by unfold findKey;simp only[jY,hp]
 rw[nI];rcases DS k m 0 with⟨h1,h2⟩|⟨j,h1,h2,_⟩
 ·rw[h2,aO,decide_eq_false h1];show(aG (fC Tryz.prog et) fun z=>M.pure<|ow true z false) (aN n z)=_;rw[hz,aO];rfl
 ·rw[h2,aO,decide_eq_true h1];rfl
theorem RW(hu:Tryz.prog.underlying ty=some (.map kt et))(hk:fV Tryz.prog 10000 kt (.int .i64 k)=true)(hp:plainKey Tryz.prog kt (.int .i64 k)=true)(ht:Nat.blt n top=true)(z:AS)(h:uQ n m z):
 jP Tryz.prog ty (.map<|some n) (.int .i64 k) (.agg []) z= .ok () (uW n (ir m k) z):=by
 have w:∀o:U,ba n (some o) (aN n z)= .ok () (eY n (some o)<|aN n z):=fun o=>qj (by rw[(fW n z).2.1];exact h.1) (by rw[(fW n z).1];exact h.2) rfl ht;unfold jP;simp only[hu];rw[M.bg<|ko h.1 h.2];show(aB (fV Tryz.prog 10000 kt<|.int .i64 k) <| aG (findKey Tryz.prog kt (.int .i64 k)<|fR m) fun f=>qB n (.int .i64 k) (.agg []) (fR m) m.length f) (aN n z)=_;rw[hk,bD];have nI:findKey Tryz.prog kt (.int .i64 k) (fR m)=dW (.int .i64 k) (fR m) 0:=by unfold findKey;simp only[jY,hp]
 rw[nI];rcases DS k m 0 with⟨h1,h2⟩|⟨j,h1,h2,h3⟩
 ·rw[h2,aO];show ba n (some<|.map (fR m++[(.int .i64 k,.agg [])])<|m.length+1) (aN n z)=_;rw[w];unfold uW ir;rw[if_neg h1];simp only[bt,fR,List.map_append,List.map_cons,List.map_nil,List.length_append,List.length_cons,List.length_nil]
 ·rw[h2,aO];have he:(fR m)[0+j]? =some (.int .i64 k,.agg []):=by rw[Nat.zero_add];unfold fR;rw[List.getElem?_map,h3];rfl
  show(aG (fR m)[0+j]? fun bJ=>aB (sameBits bJ.1<|.int .i64 k) <| ba n<|some<|.map (putAt (fR m) (0+j) (.int .i64 k)<|.agg []) m.length) (aN n z)=_;rw[he,aO];have hs:sameBits (.int .i64 k) (.int .i64 k)=true:=by show(match sameKey (.int .i64 k) (.int .i64 k) with|some true=>true|_=>false)=true;rw[Ik];simp
  show(aB (sameBits (.int .i64 k)<|.int .i64 k) <| ba n<|some<|.map (putAt (fR m) (0+j) (.int .i64 k)<|.agg []) m.length) (aN n z)=_;rw[hs,bD,w,Nat.zero_add,I7 h3];unfold uW ir;rw[if_pos h1];rfl
end
theorem J9:∀{m:List Int} {ρ σ:aj} {l:List MapEntry} {i:Nat},fq ρ (fR m) l i->fq σ (fR m) l i
 |[],_,_,_,_,h=>h
 |_::_,_,_,_,_,h=>by obtain⟨e,es,a,b,c,d,f⟩:=h;exact⟨e,es,a,b,(by simp only[VR,av] at c ⊢;exact c),d,J9 f⟩
theorem FH{nx:Nat}{m:List Int}:OE nx<|bt m:=fun r r1 r2 ρ N o k=>by obtain⟨l,h1,h2,h3⟩:=k;exact⟨l,h1,h2,J9 h3⟩
theorem FI{nx:Nat}{g:FuncId}:VE nx<|.func (.func g) [] []:=fun r r1 _ ρ v k=>by simp only[VR,av] at k ⊢;exact k
theorem Uj{nx:Nat}{l:List Int}(h:l.length<=1000000):OE nx<|aD aw l:=fun r r1 r2=>gm.aD (fun x=>⟨rfl,rfl⟩) (by rw[show(l.map aw).flatten.length=l.length from eV.lf l];unfold top;omega)
theorem SX{nx:Nat}{x:AV}(h:x.bO=true):VE nx x:=fun r _ r2 ρ v k=>AV.u0 (fun m x hm e=>by show ρ (r m)=_;rw[r2 m hm];exact e) h k
theorem Lx{nx:Nat}{a:At}:OE nx<|ak<|ah a:=BT (by show 9<=top;unfold top;omega) (fun c hc=>SX<|Ad<|List.all_eq_true.1 (eA.fX a) c hc)<|List.all_eq_true.2 fun c hc=>CR<|List.all_eq_true.1 (eA.fX a) c hc
end lD
end
section
open Go Go.Rn Go.RowKit Go.Proofs
namespace vS
open dx dG ep eV gq jb ER lD
def wt(args:List AV)(v:AV):Prop:=∃a:At,args=[.agg<|ah a]/\v= .bool (decide<|a.wv>0)
theorem wt.bc(args:List AV)(v v':AV)(h:wt args v)(h':wt args v'):v=v':=by
 obtain⟨a,rfl,rfl⟩:=h;obtain⟨a',e,rfl⟩:=h';injection e with e1 _
 injection e1 with e1
 rw[Db _ _ e1]
noncomputable def bK:FuncId×KE:=(14,.val<|gR wt)
def wu(args:List AV)(v:AV):Prop:=∃n:Int,args=[i6 n]/\v= .bool (decide<|0<=n/\n<=1099511627776)
theorem wu.bc(args:List AV)(v v':AV)(h:wu args v)(h':wu args v'):v=v':=by
 obtain⟨a,rfl,rfl⟩:=h;obtain⟨a',e,rfl⟩:=h';injection e with e1 _
 injection e1 with _ e1
 rw[e1]
noncomputable def cz:FuncId×KE:=(12,.val<|gR wu)
theorem eN{B:aH}{a:At}(mc:Mt [] B)(h:a.wv>0):Sm B Tryz.f14 (.bool true) ⟨14,bG [.agg<|ah a],(max Tryz.f14.ntmps 1),[.code<|aI Tryz.prog 14 []],[],none⟩<|J au 270:=wS mc (R:=fun r0 _=>r0= .bool true) (.st 3<|.rg<|.go 2<|.fk (.go 1<|.en<|.rt 2<|.no) .no)<|ay (a.wv>0) (fun _=>(show AV.bool true=AV.bool true from rfl)) (fun h=>show False by omega)
theorem Uk{B:aH}{a:At}(mc:Mt [] B)(h:¬a.wv>0):Sm B Tryz.f14 (.bool false) ⟨14,bG [.agg<|ah a],(max Tryz.f14.ntmps 1),[.code<|aI Tryz.prog 14 []],[],none⟩<|J au 270:=wS mc (R:=fun r0 _=>r0= .bool false) (.st 3<|.rg<|.go 2<|.fk .no<|.go 1<|.en<|.rt 2<|.no)<|ay (a.wv>0) (fun h=>show False by omega) fun _=>(show AV.bool false=AV.bool false from rfl)
theorem Ul{B:aH}{n:Int}(mc:Mt [] B)(h:0<=n)(h2:n<=1099511627776):Sm B Tryz.f12 (.bool true) ⟨12,bG [i6 n],(max Tryz.f12.ntmps 1),[.code<|aI Tryz.prog 12 []],[],none⟩<|J au 270:=wS mc (R:=fun r0 _=>r0= .bool true) (.st 3<|.rg<|.go 1<|.fk (.go 2<|.fk (.go 2<|.en<|.rt 2<|.no) .no) .no)<|ay (n>=0) (fun _=>(ay (n<=1099511627776) (fun _=>(show AV.bool true=AV.bool true from rfl)) (fun h=>show False by omega))) (fun h=>show False by omega)
theorem Um{B:aH}{n:Int}(mc:Mt [] B)(h:0<=n)(h2:¬n<=1099511627776):Sm B Tryz.f12 (.bool false) ⟨12,bG [i6 n],(max Tryz.f12.ntmps 1),[.code<|aI Tryz.prog 12 []],[],none⟩<|J au 270:=wS mc (R:=fun r0 _=>r0= .bool false) (.st 3<|.rg<|.go 1<|.fk (.go 2<|.fk .no<|.go 2<|.en<|.rt 2<|.no) .no)<|ay (n>=0) (fun _=>(ay (n<=1099511627776) (fun h=>show False by omega) fun _=>(show AV.bool false=AV.bool false from rfl))) (fun h=>show False by omega)
theorem Un{B:aH}{n:Int}(mc:Mt [] B)(h:¬0<=n):Sm B Tryz.f12 (.bool false) ⟨12,bG [i6 n],(max Tryz.f12.ntmps 1),[.code<|aI Tryz.prog 12 []],[],none⟩<|J au 270:=wS mc (R:=fun r0 _=>r0= .bool false) (.st 3<|.rg<|.go 1<|.fk .no<|.go 5<|.en<|.rt 2<|.no)<|ay (n>=0) (fun h=>show False by omega) fun _=>(show AV.bool false=AV.bool false from rfl)
theorem JA(hP:du Tryz.prog){L:bY}(h:cJ L):cJ<|bK::L:=by
 refine tu hP h gO Tryz.func14 fun args v e=>?_;obtain⟨a,rfl,rfl⟩:=qh e;refine⟨aK.1 (by kernel_rfl),fun B mc=>?_⟩;rw[←qz];by_cases q:a.wv>0
 ·rw[decide_eq_true q];exact eN mc q
 ·rw[decide_eq_false q];exact Uk mc q
theorem QW(hP:du Tryz.prog){L:bY}(h:cJ L):cJ<|cz::L:=by
 refine tu hP h gO Tryz.func12 fun args v e=>?_;obtain⟨n,rfl,rfl⟩:=qh e;refine⟨aK.1 (by kernel_rfl),fun B mc=>?_⟩;rw[←qz];by_cases q:0<=n
 ·by_cases q2:n<=1099511627776
  ·rw[decide_eq_true ⟨q,q2⟩];exact Ul mc q q2
  ·rw[decide_eq_false fun h=>q2 h.2];exact Um mc q q2
 ·rw[decide_eq_false fun h=>q h.1];exact Un mc q
theorem mr{a:At}{b:Bool}(h:decide (a.wv>0)=b):kH (gR wt) [.agg<|ah a]=some (.bool b):=qk (ql wt.bc ⟨a,rfl,by rw[h]⟩) (by rw[List.all_cons,RU];rfl) rfl
theorem ot{n:Int}{b:Bool}(h:decide (0<=n/\n<=1099511627776)=b):kH (gR wu) [i6 n]=some (.bool b):=qk (ql wu.bc ⟨n,rfl,by rw[h]⟩) rfl rfl
theorem look{k:Int}{m:List Int}{b:Bool}(h:decide (k∈m)=b)(z:AS)(hz:uQ 271 m z):kY Tryz.prog 51 (.map<|some 271) (.int .i64 k) true z= .ok (.tuple [.agg [],.bool b]) (uG 271 z):=by rw[←h];exact QV (kt:=3) (et:=52) (by kernel_rfl) (by kernel_rfl) (by kernel_rfl) (by kernel_rfl) z hz
theorem put{k:Int}{m:List Int}(z:AS)(hz:uQ 271 m z):jP Tryz.prog 51 (.map<|some 271) (.int .i64 k) (.agg []) z= .ok () (uW 271 (ir m k) z):=RW (kt:=3) (et:=52) (by kernel_rfl) (by kernel_rfl) (by kernel_rfl) (by kernel_rfl) z hz
abbrev UQ(m:List Int):Prop:=true=true/\some (bt m)=some (bt m)
theorem uq{m:List Int}:UQ m:=⟨rfl,rfl⟩
abbrev cX(B:aH)(y:Bool)(fr:AF)(s:AS):Prop:=Sm B Tryz.f6 (.bool y) fr s
theorem FJ(a:At):cellsOf (some<|ak<|ah a) 6 1=some [.bool a.cm]:=by kernel_rfl
noncomputable def lN(l:List At)(v:Int)(last:Int)(i:Nat)(m:List Int):List<|Nat×AV:=[(5,.ptr<|some (270,0)),(6,.func (.func 12) [] []),(7,kS),(8,.map<|some 271),(9,i6 last),(26,aq ah l),(27,.int .i64 (l.length:Int)),(28,.int .i64 (i:Int))]
noncomputable def KO:List Item:=[.code<|aI Tryz.prog 6 [1,1,1,1,1,1,1,0,1,0,0],.inLoop<|aI Tryz.prog 6 [1,1,1,1,1,1,1,0,1,0,0],.inBlock 0,.code<|aI Tryz.prog 6 [1,1,1,1,1,1,1,1]]
noncomputable def iC(l:List At)(v:Int)(last:Int)(i:Nat)(m:List Int):AF:=⟨6,cj<|lN l v last i m,(max Tryz.f6.ntmps 2),KO,[],none⟩
noncomputable def FK(l:List At)(v:Int)(last:Int)(i:Nat)(m:List Int)(a:At)(tw:Bool):List<|Nat×AV:=[(5,.ptr<|some (270,0)),(6,.func (.func 12) [] []),(7,kS),(8,.map<|some 271),(9,i6 last),(26,aq ah l),(27,.int .i64 (l.length:Int)),(28,.int .i64 (i:Int)),(11,.ptr<|some (272,0)),(13,.bool tw)]
noncomputable def K1:List Item:=[.code<|aI Tryz.prog 6 [1,1,1,1,1,1,1,0,1,0,0,1,1,0,0,1,1],.inBlock 1,.code<|aI Tryz.prog 6 [1,1,1,1,1,1,1,0,1,0,0,1,1,1],.inLoop<|aI Tryz.prog 6 [1,1,1,1,1,1,1,0,1,0,0],.inBlock 0,.code<|aI Tryz.prog 6 [1,1,1,1,1,1,1,1]]
noncomputable def aX(l:List At)(v:Int)(last:Int)(i:Nat)(m:List Int)(a:At)(tw:Bool):AF:=⟨6,cj<|FK l v last i m a tw,(max Tryz.f6.ntmps 2),K1,[],none⟩
noncomputable def zi(l:List At)(v:Int)(last:Int)(i:Nat)(m:List Int)(a:At)(tw:Bool):List<|Nat×AV:=[(5,.ptr<|some (270,0)),(6,.func (.func 12) [] []),(7,kS),(8,.map<|some 271),(9,i6 last),(26,aq ah l),(27,.int .i64 (l.length:Int)),(28,.int .i64 (i:Int)),(11,.ptr<|some (272,0)),(13,.bool tw)]
noncomputable def K2:List Item:=[.code<|aI Tryz.prog 6 [1,1,1,1,1,1,1,0,1,0,0,1,1,0,0,1,1,0,0,1,1],.inBlock 2,.code<|aI Tryz.prog 6 [1,1,1,1,1,1,1,0,1,0,0,1,1,0,0,1,1,1],.inBlock 1,.code<|aI Tryz.prog 6 [1,1,1,1,1,1,1,0,1,0,0,1,1,1],.inLoop<|aI Tryz.prog 6 [1,1,1,1,1,1,1,0,1,0,0],.inBlock 0,.code<|aI Tryz.prog 6 [1,1,1,1,1,1,1,1]]
noncomputable def gr(l:List At)(v:Int)(last:Int)(i:Nat)(m:List Int)(a:At)(tw:Bool):AF:=⟨6,cj<|zi l v last i m a tw,(max Tryz.f6.ntmps 2),K2,[],none⟩
noncomputable def zj(l:List At)(v:Int)(last:Int)(i:Nat)(m:List Int)(a:At):List<|Nat×AV:=[(5,.ptr<|some (270,0)),(6,.func (.func 12) [] []),(7,kS),(8,.map<|some 271),(9,i6 last),(26,aq ah l),(27,.int .i64 (l.length:Int)),(28,.int .i64 (i:Int)),(11,.ptr<|some (272,0))]
noncomputable def K3:List Item:=[.code<|aI Tryz.prog 6 [1,1,1,1,1,1,1,0,1,0,0,1,1,0,0,1,1,0,0,1,1,1,1],.inBlock 2,.code<|aI Tryz.prog 6 [1,1,1,1,1,1,1,0,1,0,0,1,1,0,0,1,1,1],.inBlock 1,.code<|aI Tryz.prog 6 [1,1,1,1,1,1,1,0,1,0,0,1,1,1],.inLoop<|aI Tryz.prog 6 [1,1,1,1,1,1,1,0,1,0,0],.inBlock 0,.code<|aI Tryz.prog 6 [1,1,1,1,1,1,1,1]]
noncomputable def ry(l:List At)(v:Int)(last:Int)(i:Nat)(m:List Int)(a:At):AF:=⟨6,cj<|zj l v last i m a,(max Tryz.f6.ntmps 2),K3,[],none⟩
noncomputable def uc(l:List At)(v:Int)(last:Int)(i:Nat)(m:List Int)(a:At)(k:Nat):List<|Nat×AV:=[(5,.ptr<|some (270,0)),(6,.func (.func 12) [] []),(7,kS),(8,.map<|some 271),(9,i6 last),(26,aq ah l),(27,.int .i64 (l.length:Int)),(28,.int .i64 (i:Int)),(11,.ptr<|some (272,0)),(94,aq cR a.wr),(95,.int .i64 (a.wr.length:Int)),(96,.int .i64 (k:Int))]
noncomputable def K4:List Item:=[.code<|aI Tryz.prog 6 [1,1,1,1,1,1,1,0,1,0,0,1,1,0,0,1,1,1,0,1,0,0],.inLoop<|aI Tryz.prog 6 [1,1,1,1,1,1,1,0,1,0,0,1,1,0,0,1,1,1,0,1,0,0],.inBlock 3,.code<|aI Tryz.prog 6 [1,1,1,1,1,1,1,0,1,0,0,1,1,0,0,1,1,1,1],.inBlock 1,.code<|aI Tryz.prog 6 [1,1,1,1,1,1,1,0,1,0,0,1,1,1],.inLoop<|aI Tryz.prog 6 [1,1,1,1,1,1,1,0,1,0,0],.inBlock 0,.code<|aI Tryz.prog 6 [1,1,1,1,1,1,1,1]]
noncomputable def nN(l:List At)(v:Int)(last:Int)(i:Nat)(m:List Int)(a:At)(k:Nat):AF:=⟨6,cj<|uc l v last i m a k,(max Tryz.f6.ntmps 2),K4,[],none⟩
section
variable {B:aH} {y:Bool} {l:List At} {v last:Int} {i k:Nat} {m:List Int} {a:At} {tw:Bool} {init:List Int}
theorem x1(mc:Mt [bK,cz,cw] B)(h:init.length<1):cX B false ⟨6,bG [aq aw init,aq ah l],(max Tryz.f6.ntmps 2),[.code<|aI Tryz.prog 6 []],[],none⟩<|J au 270:=wS mc (L:=[bK,cz,cw]) (R:=fun r0 _=>r0= .bool false) (.st 6<|.rg<|.go 1<|.fk (.go 4<|.en<|.rt 5<|.no) .no)<|ay (((init.length:Nat):Int)<1) (fun _=>(show AV.bool false=AV.bool false from rfl)) (fun h=>show False by omega)
theorem x2(mc:Mt [bK,cz,cw] B)(h0:¬init.length<1)(h:init.length>32):cX B false ⟨6,bG [aq aw init,aq ah l],(max Tryz.f6.ntmps 2),[.code<|aI Tryz.prog 6 []],[],none⟩<|J au 270:=wS mc (L:=[bK,cz,cw]) (R:=fun r0 _=>r0= .bool false) (.st 6<|.rg<|.go 1<|.fk .no<|.go 2<|.fk (.go 1<|.en<|.rt 5<|.no) .no)<|ay (((init.length:Nat):Int)<1) (fun h=>show False by omega) fun _=>(ay (((init.length:Nat):Int)>32) (fun _=>(show AV.bool false=AV.bool false from rfl)) (fun h=>show False by omega))
theorem x3(mc:Mt [bK,cz,cw] B)(h0:¬init.length<1)(h:¬init.length>32)(H:cX B y (iC l (((init.length:Nat):Int)) (-1) (0)<|[])<|J (au++[(270,some<|ak [i6<|((init.length:Nat):Int)]),(271,some<|bt<|[])]) 272):cX B y ⟨6,bG [aq aw init,aq ah l],(max Tryz.f6.ntmps 2),[.code<|aI Tryz.prog 6 []],[],none⟩<|J au 270:=vC mc H (.st 6<|.rg<|.go 1<|.fk .no<|.go 2<|.fk .no<|.go 1<|.en<|.st 15<|.ls (lN l (((init.length:Nat):Int)) (-1) (0)<|[]) (au++[(270,some<|ak [i6<|((init.length:Nat):Int)]),(271,some<|bt<|[])]) 272 .no)<|ay (((init.length:Nat):Int)<1) (fun h=>show False by omega) fun _=>(ay (((init.length:Nat):Int)>32) (fun h=>show False by omega) fun _=>(show bX (lN l (((init.length:Nat):Int)) (-1) (0)<|[]) (au++[(270,some<|ak [i6<|((init.length:Nat):Int)]),(271,some<|bt<|[])]) (iC l (((init.length:Nat):Int)) (-1) (0)<|[]) (J (au++[(270,some<|ak [i6<|((init.length:Nat):Int)]),(271,some<|bt<|[])]) 272) from b8))
theorem oE(mc:Mt [bK,cz,cw] B)(h:l.length<=i):cX B true (iC l v last i m)<|J (au++[(270,some<|ak [i6 v]),(271,some<|bt m)]) 272:=wS mc (L:=[bK,cz,cw]) (R:=fun r0 _=>r0= .bool true) (.st 1<|.rg<|.fk .no<|.en<|.rt 7<|.no)<|ay ((i:Int)<(l.length:Int)) (fun h=>show False by omega) fun _=>(show AV.bool true=AV.bool true from rfl)
theorem o1(mc:Mt [bK,cz,cw] B)(hi:i<l.length)(hx:fj FU (nm (l.map ah).flatten) (0+((i:Nat):Int).toNat*9) 9=some (ah a))(ht:decide (a.wv∈m)=tw)(H:cX B y (aX l v last i m a tw)<|J (au++[(270,some<|ak [i6 v]),(271,some<|bt m),(272,some<|ak<|ah a)]) 274):cX B y (iC l v last i m)<|J (au++[(270,some<|ak [i6 v]),(271,some<|bt m)]) 272:=vC mc H (.st 1<|.rg<|.fk (.en<|.st 6<|.rg<|.bV<|.bW (ah a)<|.go 2<|.en<|.st 1<|.rg<|.go 3<|.lx (.tuple [.agg [],.bool tw]) (uG 271) (uQ 271 m)<|.go 6<|.en<|.ls (FK l v last i m a tw) (au++[(270,some<|ak [i6 v]),(271,some<|bt m),(272,some<|ak<|ah a)]) 274 .no) .no)<|ay ((i:Int)<(l.length:Int)) (fun _=>(And.intro (show(0:Int)<=(i:Int) by omega)<|And.intro (show(i:Int)<((l.length:Nat):Int) by omega)<|And.intro (bj (l.map ah).flatten)<|And.intro (hx)<|And.intro (look ht)<|And.intro (uq (m:=m)) (show bX (FK l v last i m a tw) (au++[(270,some<|ak [i6 v]),(271,some<|bt m),(272,some<|ak<|ah a)]) (aX l v last i m a tw) (J (au++[(270,some<|ak [i6 v]),(271,some<|bt m),(272,some<|ak<|ah a)]) 274) from b8))) (fun h=>show False by omega)
theorem f1(mc:Mt [bK,cz,cw] B)(h1:a.fr<=last):cX B false (aX l v last i m a tw)<|J (au++[(270,some<|ak [i6 v]),(271,some<|bt m),(272,some<|ak<|ah a)]) 274:=wS mc (L:=[bK,cz,cw]) (R:=fun r0 _=>r0= .bool false) (.st 4<|.rg<|.go 3<|.fk (.go 1<|.en<|.rt 7<|.no) .no)<|ay (a.fr<=last) (fun _=>(show AV.bool false=AV.bool false from rfl)) (fun h=>show False by omega)
theorem f2(mc:Mt [bK,cz,cw] B)(h1:¬a.fr<=last)(h2:a.to≠ -1)(h3:a.to<a.fr):cX B false (aX l v last i m a tw)<|J (au++[(270,some<|ak [i6 v]),(271,some<|bt m),(272,some<|ak<|ah a)]) 274:=wS mc (L:=[bK,cz,cw]) (R:=fun r0 _=>r0= .bool false) (.st 4<|.rg<|.go 3<|.fk .no<|.go 1<|.en<|.st 2<|.rg<|.go 2<|.fk (.go 5<|.fk (.go 2<|.en<|.rt 7<|.no) .no) .no)<|ay (a.fr<=last) (fun h=>show False by omega) fun _=>(ay (a.to≠ -1) (fun _=>(ay (a.to<a.fr) (fun _=>(show AV.bool false=AV.bool false from rfl)) (fun h=>show False by omega))) (fun h=>show False by omega))
theorem Uo(mc:Mt [bK,cz,cw] B)(h1:¬a.fr<=last)(h2:a.to= -1)(kb:decide (0<=a.rv/\a.rv<=1099511627776)=false):cX B false (aX l v last i m a tw)<|J (au++[(270,some<|ak [i6 v]),(271,some<|bt m),(272,some<|ak<|ah a)]) 274:=wS mc (L:=[bK,cz,cw]) (R:=fun r0 _=>r0= .bool false) (.st 4<|.rg<|.go 3<|.fk .no<|.go 1<|.en<|.st 2<|.rg<|.go 2<|.fk .no<|.go 8<|.en<|.st 2<|.rg<|.go 3<|.kn (.bool false)<|.go 2<|.en<|.rt 7<|.no)<|ay (a.fr<=last) (fun h=>show False by omega) fun _=>(ay (a.to≠ -1) (fun h=>show False by omega) fun _=>(And.intro (ot kb) (show AV.bool false=AV.bool false from rfl)))
theorem Uq(mc:Mt [bK,cz,cw] B)(h1:¬a.fr<=last)(h2:a.to= -1)(kb:decide (0<=a.rv/\a.rv<=1099511627776)=true)(lO:decide (0<=a.wv/\a.wv<=1099511627776)=false):cX B false (aX l v last i m a tw)<|J (au++[(270,some<|ak [i6 v]),(271,some<|bt m),(272,some<|ak<|ah a)]) 274:=wS mc (L:=[bK,cz,cw]) (R:=fun r0 _=>r0= .bool false) (.st 4<|.rg<|.go 3<|.fk .no<|.go 1<|.en<|.st 2<|.rg<|.go 2<|.fk .no<|.go 8<|.en<|.st 2<|.rg<|.go 3<|.kn (.bool true)<|.go 2<|.en<|.st 1<|.rg<|.go 3<|.kn (.bool false)<|.go 2<|.en<|.rt 5<|.no)<|ay (a.fr<=last) (fun h=>show False by omega) fun _=>(ay (a.to≠ -1) (fun h=>show False by omega) fun _=>(And.intro (ot kb)<|And.intro (ot lO) (show AV.bool false=AV.bool false from rfl)))
theorem Ur(mc:Mt [bK,cz,cw] B)(h1:¬a.fr<=last)(h2:a.to= -1)(kb:decide (0<=a.rv/\a.rv<=1099511627776)=true)(lO:decide (0<=a.wv/\a.wv<=1099511627776)=true)(H:cX B y (gr l v last i m a tw)<|J (au++[(270,some<|ak [i6 v]),(271,some<|bt m),(272,some<|ak<|ah a)]) 274):cX B y (aX l v last i m a tw)<|J (au++[(270,some<|ak [i6 v]),(271,some<|bt m),(272,some<|ak<|ah a)]) 274:=vC mc H (.st 4<|.rg<|.go 3<|.fk .no<|.go 1<|.en<|.st 2<|.rg<|.go 2<|.fk .no<|.go 8<|.en<|.st 2<|.rg<|.go 3<|.kn (.bool true)<|.go 2<|.en<|.st 1<|.rg<|.go 3<|.kn (.bool true)<|.go 2<|.en<|.st 1<|.ls (zi l v last i m a tw) (au++[(270,some<|ak [i6 v]),(271,some<|bt m),(272,some<|ak<|ah a)]) 274 .no)<|ay (a.fr<=last) (fun h=>show False by omega) fun _=>(ay (a.to≠ -1) (fun h=>show False by omega) fun _=>(And.intro (ot kb)<|And.intro (ot lO) (show bX (zi l v last i m a tw) (au++[(270,some<|ak [i6 v]),(271,some<|bt m),(272,some<|ak<|ah a)]) (gr l v last i m a tw) (J (au++[(270,some<|ak [i6 v]),(271,some<|bt m),(272,some<|ak<|ah a)]) 274) from b8)))
theorem Us(mc:Mt [bK,cz,cw] B)(h1:¬a.fr<=last)(h2:a.to≠ -1)(h3:¬a.to<a.fr)(kb:decide (0<=a.rv/\a.rv<=1099511627776)=false):cX B false (aX l v last i m a tw)<|J (au++[(270,some<|ak [i6 v]),(271,some<|bt m),(272,some<|ak<|ah a)]) 274:=wS mc (L:=[bK,cz,cw]) (R:=fun r0 _=>r0= .bool false) (.st 4<|.rg<|.go 3<|.fk .no<|.go 1<|.en<|.st 2<|.rg<|.go 2<|.fk (.go 5<|.fk .no<|.go 2<|.en<|.st 2<|.rg<|.go 3<|.kn (.bool false)<|.go 2<|.en<|.rt 7<|.no) .no)<|ay (a.fr<=last) (fun h=>show False by omega) fun _=>(ay (a.to≠ -1) (fun _=>(ay (a.to<a.fr) (fun h=>show False by omega) fun _=>(And.intro (ot kb) (show AV.bool false=AV.bool false from rfl)))) (fun h=>show False by omega))
theorem Ut(mc:Mt [bK,cz,cw] B)(h1:¬a.fr<=last)(h2:a.to≠ -1)(h3:¬a.to<a.fr)(kb:decide (0<=a.rv/\a.rv<=1099511627776)=true)(lO:decide (0<=a.wv/\a.wv<=1099511627776)=false):cX B false (aX l v last i m a tw)<|J (au++[(270,some<|ak [i6 v]),(271,some<|bt m),(272,some<|ak<|ah a)]) 274:=wS mc (L:=[bK,cz,cw]) (R:=fun r0 _=>r0= .bool false) (.st 4<|.rg<|.go 3<|.fk .no<|.go 1<|.en<|.st 2<|.rg<|.go 2<|.fk (.go 5<|.fk .no<|.go 2<|.en<|.st 2<|.rg<|.go 3<|.kn (.bool true)<|.go 2<|.en<|.st 1<|.rg<|.go 3<|.kn (.bool false)<|.go 2<|.en<|.rt 5<|.no) .no)<|ay (a.fr<=last) (fun h=>show False by omega) fun _=>(ay (a.to≠ -1) (fun _=>(ay (a.to<a.fr) (fun h=>show False by omega) fun _=>(And.intro (ot kb)<|And.intro (ot lO) (show AV.bool false=AV.bool false from rfl)))) (fun h=>show False by omega))
theorem Uu(mc:Mt [bK,cz,cw] B)(h1:¬a.fr<=last)(h2:a.to≠ -1)(h3:¬a.to<a.fr)(kb:decide (0<=a.rv/\a.rv<=1099511627776)=true)(lO:decide (0<=a.wv/\a.wv<=1099511627776)=true)(H:cX B y (gr l v last i m a tw)<|J (au++[(270,some<|ak [i6 v]),(271,some<|bt m),(272,some<|ak<|ah a)]) 274):cX B y (aX l v last i m a tw)<|J (au++[(270,some<|ak [i6 v]),(271,some<|bt m),(272,some<|ak<|ah a)]) 274:=vC mc H (.st 4<|.rg<|.go 3<|.fk .no<|.go 1<|.en<|.st 2<|.rg<|.go 2<|.fk (.go 5<|.fk .no<|.go 2<|.en<|.st 2<|.rg<|.go 3<|.kn (.bool true)<|.go 2<|.en<|.st 1<|.rg<|.go 3<|.kn (.bool true)<|.go 2<|.en<|.st 1<|.ls (zi l v last i m a tw) (au++[(270,some<|ak [i6 v]),(271,some<|bt m),(272,some<|ak<|ah a)]) 274 .no) .no)<|ay (a.fr<=last) (fun h=>show False by omega) fun _=>(ay (a.to≠ -1) (fun _=>(ay (a.to<a.fr) (fun h=>show False by omega) fun _=>(And.intro (ot kb)<|And.intro (ot lO) (show bX (zi l v last i m a tw) (au++[(270,some<|ak [i6 v]),(271,some<|bt m),(272,some<|ak<|ah a)]) (gr l v last i m a tw) (J (au++[(270,some<|ak [i6 v]),(271,some<|bt m),(272,some<|ak<|ah a)]) 274) from b8)))) (fun h=>show False by omega))
theorem Uv(mc:Mt [bK,cz,cw] B)(hv:decide (a.wv>0)=true)(hc:a.cm=false):cX B false (gr l v last i m a tw)<|J (au++[(270,some<|ak [i6 v]),(271,some<|bt m),(272,some<|ak<|ah a)]) 274:=wS mc (L:=[bK,cz,cw]) (R:=fun r0 _=>r0= .bool false) (.st 2<|.rg<|.go 1<|.kn (.bool true)<|.go 2<|.wg (a.cm) .no<|.go 6<|.en<|.rt 7<|.no)<|And.intro (mr hv)<|And.intro (FJ a)<|And.intro (fun(h:a.cm=true)=>show False by rw[hc] at h;cases h) fun(_:a.cm=false)=>(show AV.bool false=AV.bool false from rfl)
theorem Uw(mc:Mt [bK,cz,cw] B)(hv:decide (a.wv>0)=true)(hc:a.cm=true):cX B false (gr l v last i m a<|true)<|J (au++[(270,some<|ak [i6 v]),(271,some<|bt m),(272,some<|ak<|ah a)]) 274:=wS mc (L:=[bK,cz,cw]) (R:=fun r0 _=>r0= .bool false) (.st 2<|.rg<|.go 1<|.kn (.bool true)<|.go 2<|.wg (a.cm) (.go 6<|.en<|.rt 7<|.no) .no)<|And.intro (mr hv)<|And.intro (FJ a)<|And.intro (fun(_:a.cm=true)=>(show AV.bool false=AV.bool false from rfl)) (fun(h:a.cm=false)=>show False by rw[hc] at h;cases h)
theorem Ux(mc:Mt [bK,cz,cw] B)(hv:decide (a.wv>0)=true)(hc:a.cm=true)(H:cX B y (ry l v last i m a)<|J (au++[(270,some<|ak [i6 v]),(271,some<|bt m),(272,some<|ak<|ah a)]) 274):cX B y (gr l v last i m a<|false)<|J (au++[(270,some<|ak [i6 v]),(271,some<|bt m),(272,some<|ak<|ah a)]) 274:=vC mc H (.st 2<|.rg<|.go 1<|.kn (.bool true)<|.go 2<|.wg (a.cm) (.go 6<|.en<|.st 1<|.rg<|.go 1<|.kn (.bool true)<|.go 8<|.en<|.st 1<|.ls (zj l v last i m a) (au++[(270,some<|ak [i6 v]),(271,some<|bt m),(272,some<|ak<|ah a)]) 274 .no) .no)<|And.intro (mr hv)<|And.intro (FJ a)<|And.intro (fun(_:a.cm=true)=>(And.intro (mr hv) (show bX (zj l v last i m a) (au++[(270,some<|ak [i6 v]),(271,some<|bt m),(272,some<|ak<|ah a)]) (ry l v last i m a) (J (au++[(270,some<|ak [i6 v]),(271,some<|bt m),(272,some<|ak<|ah a)]) 274) from b8))) (fun(h:a.cm=false)=>show False by rw[hc] at h;cases h)
theorem f6(mc:Mt [bK,cz,cw] B)(hv:decide (a.wv>0)=false)(hl:a.wr.length>0):cX B false (gr l v last i m a tw)<|J (au++[(270,some<|ak [i6 v]),(271,some<|bt m),(272,some<|ak<|ah a)]) 274:=wS mc (L:=[bK,cz,cw]) (R:=fun r0 _=>r0= .bool false) (.st 2<|.rg<|.go 1<|.kn (.bool false)<|.go 9<|.en<|.st 1<|.rg<|.go 1<|.kn (.bool false)<|.go 5<|.fk (.go 2<|.en<|.rt 5<|.no) .no)<|And.intro (mr hv)<|And.intro (mr hv)<|ay ((a.wr.length:Int)>0) (fun _=>(show AV.bool false=AV.bool false from rfl)) (fun h=>show False by omega)
theorem Uy(mc:Mt [bK,cz,cw] B)(hv:decide (a.wv>0)=false)(hl:¬a.wr.length>0)(H:cX B y (ry l v last i m a)<|J (au++[(270,some<|ak [i6 v]),(271,some<|bt m),(272,some<|ak<|ah a)]) 274):cX B y (gr l v last i m a tw)<|J (au++[(270,some<|ak [i6 v]),(271,some<|bt m),(272,some<|ak<|ah a)]) 274:=vC mc H (.st 2<|.rg<|.go 1<|.kn (.bool false)<|.go 9<|.en<|.st 1<|.rg<|.go 1<|.kn (.bool false)<|.go 5<|.fk .no<|.go 2<|.en<|.st 1<|.ls (zj l v last i m a) (au++[(270,some<|ak [i6 v]),(271,some<|bt m),(272,some<|ak<|ah a)]) 274 .no)<|And.intro (mr hv)<|And.intro (mr hv)<|ay ((a.wr.length:Int)>0) (fun h=>show False by omega) fun _=>(show bX (zj l v last i m a) (au++[(270,some<|ak [i6 v]),(271,some<|bt m),(272,some<|ak<|ah a)]) (ry l v last i m a) (J (au++[(270,some<|ak [i6 v]),(271,some<|bt m),(272,some<|ak<|ah a)]) 274) from b8)
theorem f7(mc:Mt [bK,cz,cw] B)(kO:a.rd.length<=1000000)(h1:a.rd.any (dB v)=true):cX B false (ry l v last i m a)<|J (au++[(270,some<|ak [i6 v]),(271,some<|bt m),(272,some<|ak<|ah a)]) 274:=wS mc (L:=[bK,cz,cw]) (R:=fun r0 _=>r0= .bool false) (.st 2<|.rg<|.go 3<|.cg (.bool true) fG (fQ v)<|.go 1<|.en<|.rt 7<|.no)<|sc (L:=[bK,cz,cw]) (f:=15) (by as_aux_lemma=>kernel_rfl) qQ.bc (l:=a.rd) (v:=v) (y:=.bool true) rfl ⟨a.rd,v,rfl,rfl,kO,by rw[h1],rfl⟩ (show AV.bool false=AV.bool false from rfl)
theorem f8(mc:Mt [bK,cz,cw] B)(kO:a.rd.length<=1000000)(gV:a.wr.length<=1000000)(h1:a.rd.any (dB v)=false)(h2:a.wr.any (dB v)=true):cX B false (ry l v last i m a)<|J (au++[(270,some<|ak [i6 v]),(271,some<|bt m),(272,some<|ak<|ah a)]) 274:=wS mc (L:=[bK,cz,cw]) (R:=fun r0 _=>r0= .bool false) (.st 2<|.rg<|.go 3<|.cg (.bool false) fG (fQ v)<|.go 1<|.en<|.st 1<|.rg<|.go 3<|.cg (.bool true) fG (fQ v)<|.go 1<|.en<|.rt 5<|.no)<|sc (L:=[bK,cz,cw]) (f:=15) (by as_aux_lemma=>kernel_rfl) qQ.bc (l:=a.rd) (v:=v) (y:=.bool false) rfl ⟨a.rd,v,rfl,rfl,kO,by rw[h1],rfl⟩<|sc (L:=[bK,cz,cw]) (f:=15) (by as_aux_lemma=>kernel_rfl) qQ.bc (l:=a.wr) (v:=v) (y:=.bool true) rfl ⟨a.wr,v,rfl,rfl,gV,by rw[h2],rfl⟩ (show AV.bool false=AV.bool false from rfl)
theorem g4(mc:Mt [bK,cz,cw] B)(kO:a.rd.length<=1000000)(gV:a.wr.length<=1000000)(h1:a.rd.any (dB v)=false)(h2:a.wr.any (dB v)=false)(H:cX B y (nN l v last i m a<|0)<|J (au++[(270,some<|ak [i6 v]),(271,some<|bt m),(272,some<|ak<|ah a)]) 274):cX B y (ry l v last i m a)<|J (au++[(270,some<|ak [i6 v]),(271,some<|bt m),(272,some<|ak<|ah a)]) 274:=vC mc H (.st 2<|.rg<|.go 3<|.cg (.bool false) fG (fQ v)<|.go 1<|.en<|.st 1<|.rg<|.go 3<|.cg (.bool false) fG (fQ v)<|.go 1<|.en<|.st 8<|.ls (uc l v last i m a<|0) (au++[(270,some<|ak [i6 v]),(271,some<|bt m),(272,some<|ak<|ah a)]) 274 .no)<|sc (L:=[bK,cz,cw]) (f:=15) (by as_aux_lemma=>kernel_rfl) qQ.bc (l:=a.rd) (v:=v) (y:=.bool false) rfl ⟨a.rd,v,rfl,rfl,kO,by rw[h1],rfl⟩<|sc (L:=[bK,cz,cw]) (f:=15) (by as_aux_lemma=>kernel_rfl) qQ.bc (l:=a.wr) (v:=v) (y:=.bool false) rfl ⟨a.wr,v,rfl,rfl,gV,by rw[h2],rfl⟩ (show bX (uc l v last i m a<|0) (au++[(270,some<|ak [i6 v]),(271,some<|bt m),(272,some<|ak<|ah a)]) (nN l v last i m a<|0) (J (au++[(270,some<|ak [i6 v]),(271,some<|bt m),(272,some<|ak<|ah a)]) 274) from b8)
theorem k0(mc:Mt [bK,cz,cw] B)(gV:a.wr.length<=1000000)(hk:k<a.wr.length)(h0:k=0)(H:cX B y (nN l v last i m a<|k+1)<|J (au++[(270,some<|ak [i6 v]),(271,some<|bt m),(272,some<|ak<|ah a)]) 274):cX B y (nN l v last i m a k)<|J (au++[(270,some<|ak [i6 v]),(271,some<|bt m),(272,some<|ak<|ah a)]) 274:=vC mc H (.st 1<|.rg<|.fk (.en<|.st 6<|.rg<|.go 1<|.bV<|.bW ([i6 (a.wr.getD k (0,0)).1,i6 (a.wr.getD k (0,0)).2])<|.go 3<|.en<|.st 1<|.rg<|.go 1<|.fk .no<|.go 12<|.en<|.st 3<|.rg<|.vl (.int .i64 ((k+1:Nat):Int))<|.go 1<|.en<|.st 1<|.bk (uc l v last i m a<|k+1) (au++[(270,some<|ak [i6 v]),(271,some<|bt m),(272,some<|ak<|ah a)]) 274 .no) .no)<|ay ((k:Int)<(a.wr.length:Int)) (fun _=>(And.intro (show(0:Int)<=(k:Int) by omega)<|And.intro (show(k:Int)<((a.wr.length:Nat):Int) by omega)<|And.intro (bj (a.wr.map cR).flatten)<|And.intro (vR (l:=a.wr) (i:=k)<|by omega)<|ay ((k:Int)>0) (fun h=>show False by omega) fun _=>(And.intro (wN ((k:Int)+1)<|k+1) (show oM 274 (uc l v last i m a<|k+1) (au++[(270,some<|ak [i6 v]),(271,some<|bt m),(272,some<|ak<|ah a)]) (nN l v last i m a<|k+1) (J (au++[(270,some<|ak [i6 v]),(271,some<|bt m),(272,some<|ak<|ah a)]) 274) from pW<|pG (by omega) ⟨ub (by omega),FI,BS (by omega),FF (by omega),fb,ke,fb,fb,ub (by omega),ke,fb,fb,trivial⟩ ⟨kT BU,kT FH,kT Lx,trivial⟩)))) (fun h=>show False by omega)
theorem k1(mc:Mt [bK,cz,cw] B)(gV:a.wr.length<=1000000)(hk:k<a.wr.length)(h0:k>0)(hc:¬(a.wr.getD (k - 1) (0,0)).1>=(a.wr.getD k (0,0)).1)(H:cX B y (nN l v last i m a<|k+1)<|J (au++[(270,some<|ak [i6 v]),(271,some<|bt m),(272,some<|ak<|ah a)]) 274):cX B y (nN l v last i m a k)<|J (au++[(270,some<|ak [i6 v]),(271,some<|bt m),(272,some<|ak<|ah a)]) 274:=vC mc H (.st 1<|.rg<|.fk (.en<|.st 6<|.rg<|.go 1<|.bV<|.bW ([i6 (a.wr.getD k (0,0)).1,i6 (a.wr.getD k (0,0)).2])<|.go 3<|.en<|.st 1<|.rg<|.go 1<|.fk (.go 4<|.vl (.int .i64 ((k - 1:Nat):Int))<|.bV<|.go 1<|.bW ([i6 (a.wr.getD (k - 1) (0,0)).1])<|.go 2<|.fk .no<|.go 1<|.en<|.st 3<|.rg<|.vl (.int .i64 ((k+1:Nat):Int))<|.go 1<|.en<|.st 1<|.bk (uc l v last i m a<|k+1) (au++[(270,some<|ak [i6 v]),(271,some<|bt m),(272,some<|ak<|ah a)]) 274 .no) .no) .no)<|ay ((k:Int)<(a.wr.length:Int)) (fun _=>(And.intro (show(0:Int)<=(k:Int) by omega)<|And.intro (show(k:Int)<((a.wr.length:Nat):Int) by omega)<|And.intro (bj (a.wr.map cR).flatten)<|And.intro (vR (l:=a.wr) (i:=k)<|by omega)<|ay ((k:Int)>0) (fun _=>(And.intro (wN ((k:Int) - 1)<|k - 1)<|And.intro (show(0:Int)<=((k - 1:Nat):Int) by omega)<|And.intro (show((k - 1:Nat):Int)<((a.wr.length:Nat):Int) by omega)<|And.intro (bj (a.wr.map cR).flatten)<|And.intro (J8 (l:=a.wr) (i:=k - 1)<|by omega)<|ay ((a.wr.getD (k - 1) (0,0)).1>=(a.wr.getD k (0,0)).1) (fun h=>show False by omega) fun _=>(And.intro (wN ((k:Int)+1)<|k+1) (show oM 274 (uc l v last i m a<|k+1) (au++[(270,some<|ak [i6 v]),(271,some<|bt m),(272,some<|ak<|ah a)]) (nN l v last i m a<|k+1) (J (au++[(270,some<|ak [i6 v]),(271,some<|bt m),(272,some<|ak<|ah a)]) 274) from pW<|pG (by omega) ⟨ub (by omega),FI,BS (by omega),FF (by omega),fb,ke,fb,fb,ub (by omega),ke,fb,fb,trivial⟩ ⟨kT BU,kT FH,kT Lx,trivial⟩)))) (fun h=>show False by omega))) (fun h=>show False by omega)
theorem f9(mc:Mt [bK,cz,cw] B)(gV:a.wr.length<=1000000)(hk:k<a.wr.length)(h0:k>0)(hc:(a.wr.getD (k - 1) (0,0)).1>=(a.wr.getD k (0,0)).1):cX B false (nN l v last i m a k)<|J (au++[(270,some<|ak [i6 v]),(271,some<|bt m),(272,some<|ak<|ah a)]) 274:=wS mc (L:=[bK,cz,cw]) (R:=fun r0 _=>r0= .bool false) (.st 1<|.rg<|.fk (.en<|.st 6<|.rg<|.go 1<|.bV<|.bW ([i6 (a.wr.getD k (0,0)).1,i6 (a.wr.getD k (0,0)).2])<|.go 3<|.en<|.st 1<|.rg<|.go 1<|.fk (.go 4<|.vl (.int .i64 ((k - 1:Nat):Int))<|.bV<|.go 1<|.bW ([i6 (a.wr.getD (k - 1) (0,0)).1])<|.go 2<|.fk (.go 1<|.en<|.rt 5<|.no) .no) .no) .no)<|ay ((k:Int)<(a.wr.length:Int)) (fun _=>(And.intro (show(0:Int)<=(k:Int) by omega)<|And.intro (show(k:Int)<((a.wr.length:Nat):Int) by omega)<|And.intro (bj (a.wr.map cR).flatten)<|And.intro (vR (l:=a.wr) (i:=k)<|by omega)<|ay ((k:Int)>0) (fun _=>(And.intro (wN ((k:Int) - 1)<|k - 1)<|And.intro (show(0:Int)<=((k - 1:Nat):Int) by omega)<|And.intro (show((k - 1:Nat):Int)<((a.wr.length:Nat):Int) by omega)<|And.intro (bj (a.wr.map cR).flatten)<|And.intro (J8 (l:=a.wr) (i:=k - 1)<|by omega)<|ay ((a.wr.getD (k - 1) (0,0)).1>=(a.wr.getD k (0,0)).1) (fun _=>(show AV.bool false=AV.bool false from rfl)) (fun h=>show False by omega))) (fun h=>show False by omega))) (fun h=>show False by omega)
theorem kE(mc:Mt [bK,cz,cw] B)(hk:a.wr.length<=k)(hl:l.length<=1000000)(hi:i<l.length)(H:cX B y (iC l v (a.fr) (i+1)<|ir m a.wv)<|J (au++[(270,some<|ak [i6 v]),(271,some<|bt<|ir m a.wv)]) 272):cX B y (nN l v last i m a k)<|J (au++[(270,some<|ak [i6 v]),(271,some<|bt m),(272,some<|ak<|ah a)]) 274:=vC mc H (.st 1<|.rg<|.fk .no<|.en<|.st 3<|.rg<|.go 7<|.mx (uW 271<|ir m a.wv) (uQ 271 m)<|.en<|.st 1<|.rg<|.vl (.int .i64 ((i+1:Nat):Int))<|.go 1<|.en<|.st 1<|.bk (lN l v (a.fr) (i+1)<|ir m a.wv) (au++[(270,some<|ak [i6 v]),(271,some<|bt<|ir m a.wv)]) 272 .no)<|ay ((k:Int)<(a.wr.length:Int)) (fun h=>show False by omega) fun _=>(And.intro (put (k:=a.wv) (m:=m))<|And.intro (uq (m:=m))<|And.intro (wN ((i:Int)+1)<|i+1) (show oM 272 (lN l v (a.fr) (i+1)<|ir m a.wv) (au++[(270,some<|ak [i6 v]),(271,some<|bt<|ir m a.wv)]) (iC l v (a.fr) (i+1)<|ir m a.wv) (J (au++[(270,some<|ak [i6 v]),(271,some<|bt<|ir m a.wv)]) 272) from pW<|pG (by omega) ⟨ub (by omega),FI,BS (by omega),FF (by omega),fb,ke,fb,fb,trivial⟩ ⟨kT BU,kT FH,trivial⟩))
end
end vS
end
section
open Go Go.Rn Go.RowKit Go.Proofs
namespace te
open dx dG ep eV gq jb ER lD vS
open Classical
def Up(w:List Pr):Prop:=∀k,0<k->k<w.length->(w.getD (k - 1) (0,0)).1<(w.getD k (0,0)).1
structure FL (v last:Int) (m:List Int) (a:At):Prop where
 fr:¬a.fr<=last
 to:¬(a.to≠ -1/\a.to<a.fr)
 rv:0<=a.rv/\a.rv<=1099511627776
 wv:0<=a.wv/\a.wv<=1099511627776
 w1:a.wv>0->a.cm=true/\a.wv ∉ m
 w0:¬a.wv>0->¬a.wr.length>0
 r:a.rd.any (dB v)=false
 w:a.wr.any (dB v)=false
 up:Up a.wr
def mv(v:Int):List At->Int->List Int->Prop
 |[],_,_=>True
 |a::l,last,m=>FL v last m a/\mv v l a.fr (ir m a.wv)
def qR(init:List Int)(l:List At):Prop:=(¬init.length<1/\¬init.length>32)/\mv ((init.length:Nat):Int) l (-1) []
abbrev BV(l:List At):Prop:=∀a∈l,a.rd.length<=1000000/\a.wr.length<=1000000
section
variable {B:aH} {y:Bool} {l:List At} {v last:Int} {i:Nat} {m:List Int} {a:At}
theorem ES(mc:Mt [bK,cz,cw] B)(hl:l.length<=1000000)(hi:i<l.length)(hw:a.wr.length<=1000000)(H:Up a.wr->cX B y (iC l v a.fr (i+1)<|ir m a.wv) (J (au++[(270,some<|ak [i6 v]),(271,some<|bt<|ir m a.wv)]) 272))(H2:¬Up a.wr->y=false):
 ∀(r k:Nat),a.wr.length - k=r->k<=a.wr.length->(∀j,0<j->j<k->(a.wr.getD (j - 1) (0,0)).1<(a.wr.getD j (0,0)).1)->cX B y (nN l v last i m a k) (J (au++[(270,some<|ak [i6 v]),(271,some<|bt m),(272,some<|ak<|ah a)]) 274)
 |0,k,h,h1,h2=>kE mc (by omega) hl hi (H fun j k1 k2=>h2 j k1<|by omega)
 |r+1,k,h,h1,h2=>by
  by_cases q:k=0
  ·exact k0 mc hw (by omega) q (ES mc hl hi hw H H2 r (k+1) (by omega) (by omega) fun j k1 k2=>by omega)
  ·by_cases q2:(a.wr.getD (k - 1) (0,0)).1>=(a.wr.getD k (0,0)).1
   ·rw[H2 fun hu=>by have:=hu k (by omega) (by omega);omega];exact f9 mc hw (by omega) (by omega) q2
   ·refine k1 mc hw (by omega) (by omega) q2<|ES mc hl hi hw H H2 r (k+1) (by omega) (by omega) fun j k1 k2=>?_;by_cases q3:j=k
    ·subst q3;omega
    ·exact h2 j k1 (by omega)
theorem no{p:Prop}(h:¬p):decide p=false:=decide_eq_false h
theorem JB(mc:Mt [bK,cz,cw] B)(hl:l.length<=1000000)(hs:BV l):∀(r i:Nat) (last:Int) (m:List Int),l.length - i=r->i<=l.length->cX B (decide<|mv v (l.drop i) last m) (iC l v last i m) (J (au++[(270,some<|ak [i6 v]),(271,some<|bt m)]) 272)
 |0,i,last,m,h,hi=>by rw[List.drop_of_length_le (by omega),decide_eq_true (show mv v [] last m from trivial)];exact oE mc (by omega)
 |r+1,i,last,m,h,hi=>by
  have hk:i<l.length:=by omega
  rw[List.drop_eq_getElem_cons hk];generalize ha:l[i]=a;obtain⟨kO,gV⟩:=hs a (by rw[←ha];exact List.getElem_mem hk);have hx:fj FU (nm (l.map ah).flatten) (0+((i:Nat):Int).toNat*9) 9=some (ah a):=by have:=qy eA (l:=l) (i:=i) (a:=a) (by rw[List.getElem?_eq_getElem hk,ha]) 0 9 (by omega);rw[Nat.add_zero] at this;rw[Nat.zero_add,Int.toNat_natCast];exact this
  have bad:∀{y:Bool},¬FL v last m a->y=false->decide (mv v (a::l.drop (i+1)) last m)=y:=fun h e=>by rw[e];exact no fun q=>h q.1
  refine o1 mc hk hx (tw:=decide<|a.wv∈m) (by by_cases q:a.wv∈m<;>simp[q]) ?_;by_cases q1:a.fr<=last
  ·rw[bad (fun q=>q.fr q1) rfl];exact f1 mc q1
  have st:∀{y:Bool},(¬(a.to≠ -1/\a.to<a.fr)->(0<=a.rv/\a.rv<=1099511627776)->(0<=a.wv/\a.wv<=1099511627776)->cX B y (gr l v last i m a<|decide<|a.wv∈m) (J (au++[(270,some<|ak [i6 v]),(271,some<|bt m),(272,some<|ak<|ah a)]) 274))->(¬FL v last m a->y=false)->
   cX B y (aX l v last i m a<|decide<|a.wv∈m) (J (au++[(270,some<|ak [i6 v]),(271,some<|bt m),(272,some<|ak<|ah a)]) 274):=by
   intro y H hb;by_cases q2:a.to= -1
   ·by_cases q3:0<=a.rv/\a.rv<=1099511627776
    ·by_cases q4:0<=a.wv/\a.wv<=1099511627776
     ·exact Ur mc q1 q2 (decide_eq_true q3) (decide_eq_true q4)<|H (fun q=>q.1 q2) q3 q4
     ·rw[hb fun q=>q4 q.wv];exact Uq mc q1 q2 (decide_eq_true q3)<|decide_eq_false q4
    ·rw[hb fun q=>q3 q.rv];exact Uo mc q1 q2<|decide_eq_false q3
   ·by_cases q5:a.to<a.fr
    ·rw[hb fun q=>q.to ⟨q2,q5⟩];exact f2 mc q1 q2 q5
    by_cases q3:0<=a.rv/\a.rv<=1099511627776
    ·by_cases q4:0<=a.wv/\a.wv<=1099511627776
     ·exact Uu mc q1 q2 q5 (decide_eq_true q3) (decide_eq_true q4)<|H (fun q=>q5 q.2) q3 q4
     ·rw[hb fun q=>q4 q.wv];exact Ut mc q1 q2 q5 (decide_eq_true q3)<|decide_eq_false q4
    ·rw[hb fun q=>q3 q.rv];exact Us mc q1 q2 q5<|decide_eq_false q3
  refine st (fun q2 q3 q4=>?_) fun h=>no fun q=>h q.1;have s3:(a.wv>0->a.cm=true/\a.wv ∉ m)->(¬a.wv>0->¬a.wr.length>0)->cX B (decide<|mv v (a::l.drop (i+1)) last m) (ry l v last i m a) (J (au++[(270,some<|ak [i6 v]),(271,some<|bt m),(272,some<|ak<|ah a)]) 274):=by
   intro q5 q6;by_cases q7:a.rd.any (dB v)=true
   ·rw[bad (fun q=>by rw[q.r] at q7;cases q7) rfl];exact f7 mc kO q7
   have q7:a.rd.any (dB v)=false:=by simpa using q7
   by_cases q8:a.wr.any (dB v)=true
   ·rw[bad (fun q=>by rw[q.w] at q8;cases q8) rfl];exact f8 mc kO gV q7 q8
   have q8:a.wr.any (dB v)=false:=by simpa using q8
   refine g4 mc kO gV q7 q8 (ES mc hl hk gV (fun hu=>?_) (fun hu=>bad (fun q=>hu q.up) rfl) _ 0 rfl (Nat.zero_le _) fun j k1 k2=>by omega);have e:decide (mv v (a::l.drop (i+1)) last m)=decide (mv v (l.drop<|i+1) a.fr<|ir m a.wv):=decide_eq_decide.2 ⟨fun q=>q.2,fun q=>⟨⟨q1,q2,q3,q4,q5,q6,q7,q8,hu⟩,q⟩⟩;rw[e];exact JB mc hl hs r (i+1) a.fr _ (by omega) (by omega)
  by_cases q5:a.wv>0
  ·cases q6:a.cm with
   |false=>rw[bad (fun q=>by rw[(q.w1 q5).1] at q6;cases q6) rfl];exact Uv mc (decide_eq_true q5) q6
   |true=>
    by_cases q7:a.wv∈m
    ·rw[bad (fun q=>(q.w1 q5).2 q7) rfl,decide_eq_true q7];exact Uw mc (decide_eq_true q5) q6
    ·have:=s3 (fun _=>⟨q6,q7⟩) fun h=>absurd q5 h;rw[decide_eq_false q7];exact Ux mc (decide_eq_true q5) q6 this
  ·by_cases q7:a.wr.length>0
   ·rw[bad (fun q=>q.w0 q5 q7) rfl];exact f6 mc (decide_eq_false q5) q7
   ·exact Uy mc (decide_eq_false q5) q7<|s3 (fun h=>absurd h q5) fun _=>q7
end
def vT(args:List AV)(v:AV):Prop:=∃(init:List Int) (l:List At),args=[aq aw init,aq ah l]/\l.length<=1000000/\BV l/\v= .bool (decide<|qR init l)
theorem vT.bc(args:List AV)(v v':AV)(h:vT args v)(h':vT args v'):v=v':=by
 obtain⟨i,l,rfl,_,_,rfl⟩:=h;obtain⟨i',l',e,_,_,rfl⟩:=h';injection e with e1 e
 injection e with e2 _
 have e3:fF aw 1 (aq aw i) i':=by rw[e1];exact fF.aq eI i'
 rw[fF.inj C9 (fF.aq eI i) e3,rZ e2]
noncomputable def KK:FuncId×KE:=(6,.val<|gR vT)
theorem P7(hP:du Tryz.prog){L:bY}(h:cJ L):cJ<|KK::L:=by
 refine tu hP h (JA hP<|QW hP<|P6 hP gO) Tryz.func6 fun args v e=>?_;obtain⟨init,l,rfl,hl,hs,rfl⟩:=qh e;refine⟨aK.1 (by kernel_rfl),fun B mc=>?_⟩;rw[←qz];by_cases q1:init.length<1
 ·rw[no fun q=>q.1.1 q1];exact x1 mc q1
 ·by_cases q2:init.length>32
  ·rw[no fun q=>q.1.2 q2];exact x2 mc q1 q2
  ·have e:decide (qR init l)=decide (mv ((init.length:Nat):Int) l (-1) []):=decide_eq_decide.2 ⟨fun q=>q.2,fun q=>⟨⟨q1,q2⟩,q⟩⟩;rw[e];exact x3 mc q1 q2<|JB mc hl hs _ 0 (-1) [] rfl<|Nat.zero_le _
end te
end
section
open Go Go.Rn Go.RowKit Go.Proofs
namespace mw
open dx
theorem cC{a b:Nat}:Nat.beq a b=true↔a=b:=⟨Nat.eq_of_beq_eq_true,fun h=>by subst h;exact Nat.beq_refl _⟩
theorem Iz(p:Nat×Option U)(hp:p∈au):∀y,p.2=some y->y.fJ=true:=fun y hy=>by
 have h1:(au.all fun p=>(match p.2 with|some x=>x.fJ|none=>true))=true:=by as_aux_lemma=>kernel_rfl
 have b:=List.all_eq_true.1 h1 p hp;rw[hy] at b;exact b
def kf(ps:List<|Nat×Nat)(lo aP k:Nat):Nat:=match ps.find? fun p=>Nat.beq p.1 k with
 |some p=>p.2
 |none=>if k<lo\/top<=k then k else max k aP
def Ly(ps:List<|Nat×Nat)(lo aP nx:Nat)(names:List Nat):Bool:=ps.all (fun p=>Nat.ble lo p.1&&(Nat.blt p.1 nx&&(Nat.ble lo p.2&&Nat.blt p.2 top)))&&(Nat.ble lo nx&&(Nat.ble nx top&&(Nat.blt aP top&&(names.all fun m=>Nat.blt m lo||ps.any fun p=>Nat.beq p.1 m))))
def SY(ps:List<|Nat×Nat):Bool:=ps.all fun p=>ps.all fun q=> !(Nat.beq p.2 q.2)||Nat.beq p.1 q.1
def nL(r:Nat->Nat)(l0:List<|Nat×AV):List (Nat×AV)->Prop
 |[]=>True
 |p::l=>(p.1<top/\∃x,(p.1,x)∈l0/\gQ [] r x p.2)/\nL r l0 l
def nM(r:Nat->Nat)(o0:List<|Nat×Option U):List (Nat×Option U)->Prop
 |[]=>True
 |p::l=>(∀y,p.2=some y->y.fJ=true/\∃x,(r p.1,some x)∈o0/\ff x y/\fh [] r x y)/\nM r o0 l
theorem nL.mem{r:Nat->Nat}{l0:List<|Nat×AV}:∀{l:List<|Nat×AV},nL r l0 l->∀p∈l,p.1<top/\∃x,(p.1,x)∈l0/\gQ [] r x p.2
 |[],_,p,hp=>by cases hp
 |a::l,h,p,hp=>by
  rcases List.mem_cons.1 hp with rfl|hp
  ·exact h.1
  ·exact nL.mem h.2 p hp
theorem nM.mem{r:Nat->Nat}{o0:List<|Nat×Option U}:∀{l:List<|Nat×Option U},nM r o0 l->∀p∈l,∀y,p.2=some y->y.fJ=true/\∃x,(r p.1,some x)∈o0/\ff x y/\fh [] r x y
 |[],_,p,hp=>by cases hp
 |a::l,h,p,hp=>by
  rcases List.mem_cons.1 hp with rfl|hp
  ·exact h.1
  ·exact nM.mem h.2 p hp
theorem RZ{ps:List<|Nat×Nat}{lo aP nx:Nat}{l0 l:List<|Nat×AV}{o0 o:List<|Nat×Option U}(cx:270<=lo)(hb:Ly ps lo aP nx (o.map (·.1))=true)(hi:SY ps=true)(hl:∀r,r=kf ps lo aP->(∀k,top<=k->r k=k)->nL r l0 l)(ho:∀r,r=kf ps lo aP->(∀k,top<=k->r k=k)->nM r o0 o):
 gE FU lo aP l0 (au++o0) l (au++o) nx:=by
 unfold Ly at hb;obtain⟨b1,hb⟩:=and_true.1 hb;obtain⟨b2,hb⟩:=and_true.1 hb;obtain⟨b3,hb⟩:=and_true.1 hb;obtain⟨b4,b5⟩:=and_true.1 hb;have b2:=aK.1 b2;have b3:=aK.1 b3;have b4:=(blt_eq _ _).mp b4;have nJ:∀p∈ps,lo<=p.1/\p.1<nx/\lo<=p.2/\p.2<top:=fun p hp=>by have:=List.all_eq_true.1 b1 p hp;obtain⟨c1,c2⟩:=and_true.1 this;obtain⟨c2,c3⟩:=and_true.1 c2;obtain⟨c3,c4⟩:=and_true.1 c3;exact⟨aK.1 c1,(blt_eq _ _).mp c2,aK.1 c3,(blt_eq _ _).mp c4⟩
 have none_:∀k,(k<lo\/nx<=k)->(ps.find? fun p=>Nat.beq p.1 k)=none:=fun k hk=>by refine List.find?_eq_none.2 fun p hp=>?_;obtain⟨c1,c2,_⟩:=nJ p hp;rw[cC];omega
 let r:=kf ps lo aP;have rl:∀k,k<lo->r k=k:=fun k hk=>by show kf ps lo aP k=k;unfold kf;rw[none_ k<|.inl hk];exact if_pos<|.inl hk
 have rt:∀k,top<=k->r k=k:=fun k hk=>by show kf ps lo aP k=k;unfold kf;rw[none_ k<|.inr<|by omega];exact if_pos<|.inr hk
 have rn:∀k,nx<=k->k<top->aP<=r k/\r k<top:=fun k h1 h2=>by show aP<=kf ps lo aP k/\kf ps lo aP k<top;unfold kf;rw[none_ k<|.inr h1];show aP<=(if _ then _ else _)/\(if _ then _ else _)<top;rw[if_neg<|by omega];omega
 have Lz:∀k∈o.map (·.1),(k<lo/\r k=k)\/∃p∈ps,p.1=k/\r k=p.2:=fun k hk=>by
  have:=List.all_eq_true.1 b5 k hk;rcases Bool.or_eq_true_iff.1 this with this|this
  ·have:=(blt_eq _ _).mp this;exact .inl ⟨this,rl k this⟩
  right;obtain⟨p,hp,e⟩:=List.any_eq_true.1 this;cases q:ps.find? fun p=>Nat.beq p.1 k with
  |none=>exact absurd e (by simpa using List.find?_eq_none.1 q p hp)
  |some p'=>have h1:=List.find?_some q;refine⟨p',List.mem_of_find?_eq_some q,cC.1 h1,?_⟩;show kf ps lo aP k=_;unfold kf;rw[q]
 have ud:∀p∈au,p.1<270:=fun p hp=>by obtain⟨k,hk,e⟩:=List.mem_map.1 hp;rw[←e];exact yq k hk
 have t0:270<top:=by unfold top;omega
 refine⟨[],r,rl,rn,rt,b3,(hl r rfl rt).mem,fun p hp=>?_,fun p hp q hq _ _ e=>?_,fun p hp=>(by cases hp),fun p hp=>(by cases hp)⟩
 ·rcases List.mem_append.1 hp with hp|hp
  ·have aW:=ud p hp;refine⟨by omega,fun y hy=>?_⟩;rw[rl _<|by omega];refine⟨by omega,Iz p hp y hy,y,?_,ff.refl _,(Ac (nx:=270) (fun k hk=>rl k<|by omega) (by as_aux_lemma=>kernel_rfl) p hp y hy).z⟩;refine List.mem_append_left _ ?_;rw[←hy];exact hp
  ·have aW:p.1<top/\r p.1<top:=by
    rcases Lz p.1 (List.mem_map.2 ⟨p,hp,rfl⟩) with⟨c1,c2⟩|⟨p',h1,h2,h3⟩
    ·rw[c2];omega
    ·obtain⟨c1,c2,c3,c4⟩:=nJ p' h1;rw[h3];omega
   refine⟨aW.1,fun y hy=>?_⟩;obtain⟨d1,x,d2,d3,d4⟩:=(ho r rfl rt).mem p hp y hy;exact⟨aW.2,d1,x,List.mem_append_right _ d2,d3,d4⟩
 ·have key:∀p∈au++o,(p.1<lo/\r p.1=p.1)\/∃q∈ps,q.1=p.1/\r p.1=q.2:=fun p hp=>by
   rcases List.mem_append.1 hp with hp|hp
   ·exact .inl ⟨by have:=ud p hp;omega,rl _ (by have:=ud p hp;omega)⟩
   ·exact Lz p.1<|List.mem_map.2 ⟨p,hp,rfl⟩
  rcases key p hp with⟨a1,a2⟩|⟨a,a1,a2,a3⟩<;>rcases key q hq with⟨c1,c2⟩|⟨c,c1,c2,c3⟩
  ·rw[a2,c2] at e;exact e
  ·have:=(nJ c c1).2.2.1;rw[a2,c3] at e;omega
  ·have:=(nJ a a1).2.2.1;rw[a3,c2] at e;omega
  ·rw[a3,c3] at e;have h1:=List.all_eq_true.1 (List.all_eq_true.1 hi a a1) c c1;rw[Bool.or_eq_true] at h1;rcases h1 with h1|h1
   ·rw[e,show Nat.beq c.2 c.2=true from Nat.beq_refl _] at h1;cases h1
   ·rw[←a2, ←c2];exact Nat.eq_of_beq_eq_true h1
theorem U8{r:Nat->Nat}{n m o len lo iz e:Nat}(h:r m=n)(h1:iz<=lo)(h2:len<=iz):bf r (.slice (some (n,o)) len<|.aU lo e)<|.slice (some (m,o)) len<|.aU iz e:=by intro ρ v hv;simp only[VR] at hv ⊢;obtain⟨b,N,c,q1,q2,q3,q4,q5⟩:=hv;exact⟨b,N,c,by rw[h];exact q1,q2,by omega,q4,q5⟩
theorem gP{a b:Nat}{s t:Tr AV}{z w:List AV}:ff (.cells a s z)<|.cells b t w:=⟨fun _=>rfl,(fun e=>by cases e),fun e=>by cases e⟩
theorem mi{α:Type}{l:List α}{a:α}(j:Nat)(h:l[j]? =some a:=by rfl):a∈l:=List.mem_of_getElem? h
theorem rq{r:Nat->Nat}{ps:List<|Nat×Nat}{lo aP m n:Nat}(hr:r=kf ps lo aP)(h:kf ps lo aP m=n:=by as_aux_lemma=>kernel_rfl):r m=n:=by rw[hr];exact h
theorem vi{r:Nat->Nat}{k:IntKind}{n:Int}:gQ [] r (.int k n)<|.int k n:=(bf.int _ _).z
theorem FM{r:Nat->Nat}{o0:List<|Nat×Option U}{m n:Nat}{x y:U}(hm:(n,some x)∈o0)(hr:r m=n)(kp:ff x y)(FN:fh [] r x y)(pl:y.fJ=true:=by rfl):∀z,some y=some z->z.fJ=true/\∃x,(r m,some x)∈o0/\ff x z/\fh [] r x z:=fun z e=>by cases e;exact⟨pl,x,by rw[hr];exact hm,kp,FN⟩
theorem QX{r:Nat->Nat}{N M:Nat}{l m:List AV}(h:oa [] r l m)(hN:l.length=N:=by rfl)(hM:m.length=M:=by rfl)(hl:Nat.ble N top=true:=by as_aux_lemma=>kernel_rfl)(h1:m.all AV.bu=true:=by rfl):fh [] r (.cells N (Tr.fill l 0 .nil) [])<|.cells M (Tr.fill m 0 .nil) []:=by subst hN;subst hM;exact fh.cells (aK.1 hl) h h1
abbrev VL(lo aP nx:Nat)(l0:List<|Nat×AV)(o0:List<|Nat×Option U)(l1:List<|Nat×AV)(o1:List<|Nat×Option U)(fr:AF)(s:AS):Prop:=(l0.map (fun q=>some q.2)=l0.map (fun q=>some q.2))/\((au++o0).map (fun q=>q.2)=(au++o0).map (fun q=>q.2))/\gE FU lo aP l0 (au++o0) l1 (au++o1) nx/\(fr=fr/\s=s)
theorem A1{lo aP nx:Nat}{fz:gD}{l0 l:List<|Nat×AV}{o0 o:List<|Nat×Option U}(h1:lo<=nx)(h2:nx<=aP)(h3:aP<top)(hs:∀r:Nat->Nat,(∀k,k<nx->r k=k)->(∀k,top<=k->r k=k)->∀p∈l,p.1<top/\∃x,(p.1,x)∈l0/\gQ fz r x p.2)(ho:∀r:Nat->Nat,(∀k,k<nx->r k=k)->(∀k,top<=k->r k=k)->∀p∈o,p.1<nx/\∀y,p.2=some y->y.fJ=true/\∃x,(p.1,some x)∈o0/\ff x y/\fh fz r x y)(hz:∀p∈fz,nx<=p.1/\p.1<top/\FU p.2.1=some p.2.2/\∃N t z,(p.1,some<|.cells N t z)∈o0/\∀i x,p.2.2[i]? =some x->i<N/\cellAt t z i=some x/\x.bu=true/\x.bO=true):gE FU lo aP l0 o0 l o nx:=by
 let r:Nat->Nat:=fun k=>if k<nx\/top<=k then k else max k aP
 have r1:∀k,k<nx->r k=k:=fun k hk=>if_pos<|.inl hk;have r2:∀k,top<=k->r k=k:=fun k hk=>if_pos<|.inr hk;refine⟨fz,r,fun k hk=>r1 k (by omega),fun k a b=>?_,r2,by omega,hs r r1 r2,fun p hp=>?_,fun p hp q hq _ _ e=>?_,fun p hp=>?_,fun p hp q hq _ e=>?_⟩
 ·show aP<=(if _ then _ else _)/\(if _ then _ else _)<top;rw[if_neg<|by omega];omega
 ·obtain⟨a,b⟩:=ho r r1 r2 p hp;exact⟨by omega,fun y hy=>by obtain⟨c1,x,c2,c3,c4⟩:=b y hy;rw[r1 _ a];exact⟨by omega,c1,x,c2,c3,c4⟩⟩
 ·have a:=(ho r r1 r2 p hp).1;have b:=(ho r r1 r2 q hq).1;rw[r1 _ a,r1 _ b] at e;exact e
 ·exact(hz p hp).2
 ·have a:=(ho r r1 r2 q hq).1;rw[r1 _ a] at e;have:=(hz p hp).1;omega
theorem A2{fz:gD}{r:Nat->Nat}(hr:∀k,k<270->r k=k):∀p∈au,p.1<270/\∀y,p.2=some y->y.fJ=true/\fh fz r y y:=fun p hp=>by
 have h1:(au.all fun p=>Nat.blt p.1 270&&(match p.2 with|some x=>x.fJ|none=>true))=true:=by as_aux_lemma=>kernel_rfl
 obtain⟨a,b⟩:=and_true.1<|List.all_eq_true.1 h1 p hp;refine⟨(blt_eq _ _).mp a,fun y hy=>?_⟩;rw[hy] at b;exact⟨b,(Ac (nx:=270) hr (by as_aux_lemma=>kernel_rfl) p hp y hy).z⟩
theorem FO{α:Type}(enc:α->List AV)(l:List α)(c:α){K ue:Nat}{X:Prop}(h1:∀x,(enc x).length=K/\(enc x).all AV.bu=true)(h2:2*(l.length+1)*ue+4096*ue<=room)(h3:(l.length+1)*K<=Rn.top)(x:X):
 l.length=l.length/\l.length=l.length/\some (aD enc l)=some (aD enc l)/\some (U.cells (enc c).length (Tr.fill (enc c) 0 .nil) [])=some (U.cells (enc c).length (Tr.fill (enc c) 0 .nil) [])/\(∀x,(enc x).length=K/\(enc x).all AV.bu=true)/\2*(l.length+1)*ue+4096*ue<=room/\(l.length+1)*K<=Rn.top/\X:=
 ⟨rfl,rfl,rfl,rfl,h1,h2,h3,x⟩
end mw
end
section
open Go Go.Rn Go.RowKit Go.Proofs
namespace KM
open dx dG ep
noncomputable def gZ(g:FuncId)(N:Nat)(cap:aZ)(a b n i:Nat):List<|Nat×AV:=[(0,.slice (some (270,0)) N cap),(1,.int .i64 (a:Int)),(2,.int .i64 (b:Int)),(3,.int .i64 (n:Int)),(10,.int .i64 (i:Int))]
noncomputable def KS:List Item:=[.code<|aI Tryz.prog 76 [1,0,0],.inLoop<|aI Tryz.prog 76 [1,0,0],.inBlock 0]
noncomputable def eC(g:FuncId)(N:Nat)(cap:aZ)(a b n i:Nat):AF:=⟨76,cj<|gZ g N cap a b n i,(max Tryz.f76.ntmps 5),KS,[],none⟩
section
variable {L:bY} {B:aH} {g:FuncId} {c:AV} {N a b n i:Nat} {cap:aZ} {l l':List Int}
theorem w0(mc:Mt L B)(H:aR B Tryz.f76 l' c (eC g N cap a b n 0)<|J (mR l c) 272):aR B Tryz.f76 l' c ⟨76,bG [.slice (some (270,0)) N cap,.int .i64 (a:Int),.int .i64 (b:Int),.int .i64 (n:Int),dK g],(max Tryz.f76.ntmps 5),[.code<|aI Tryz.prog 76 []],[],none⟩<|J (mR l c) 272:=rC mc H (.st 4<|.ls (gZ g N cap a b n 0) (mR l c) 272 .no) (show bX (gZ g N cap a b n 0) (mR l c) (eC g N cap a b n 0) (J (mR l c) 272) from b8)
theorem wE(mc:Mt L B)(h0:n<=i):aR B Tryz.f76 l c (eC g N cap a b n i)<|J (mR l c) 272:=rS mc (.st 2<|.rg<|.go 2<|.fk .no<|.en<|.rt 4<|.no)<|ay ((i:Int)<(n:Int)) (fun h=>show False by omega) fun _=>(show nK l c from oK)
theorem UC(mc:Mt L B)(hl:N<=1000000)(hN:l.length=N)(hi:i<n)(ha:a+n<=b)(hb:b+n<=N)(H:aR B Tryz.f76 l' c (eC g N cap a b n<|i+1)<|J (mR (swp l (a+i)<|b+i) c) 272):aR B Tryz.f76 l' c (eC g N cap a b n i)<|J (mR l c) 272:=rC mc H (.st 2<|.rg<|.go 2<|.fk (.en<|.st 4<|.rg<|.go 3<|.vl (.int .i64 ((a+i:Nat):Int))<|.go 3<|.vl (.int .i64 ((b+i:Nat):Int))<|.go 3<|.vl (.int .i64 ((b+i:Nat):Int))<|.ix<|.ld [.int .i64<|I (l)<|b+i]<|.go 3<|.vl (.int .i64 ((a+i:Nat):Int))<|.ix<|.ld [.int .i64<|I (l)<|a+i]<|.ix<|.lL (aD aw<|(l).set (a+i)<|I (l)<|b+i)<|.ix<|.lL (aD aw<|swp (l) (a+i)<|b+i)<|.en<|.st 1<|.rg<|.go 1<|.vl (.int .i64 ((i+1:Nat):Int))<|.go 1<|.en<|.st 1<|.ls (gZ g N cap a b n<|i+1) (mR (swp l (a+i)<|b+i) c) 272 .no) .no)<|ay ((i:Int)<(n:Int)) (fun _=>(And.intro (wN ((a:Int)+(i:Int))<|a+i)<|And.intro (wN ((b:Int)+(i:Int))<|b+i)<|And.intro (wN ((b:Int)+(i:Int))<|b+i)<|And.intro (show(0:Int)<=((b+i:Nat):Int) by omega)<|And.intro (show((b+i:Nat):Int)<((N:Nat):Int) by omega)<|And.intro (fP (l:=l) (k:=b+i))<|And.intro (wN ((a:Int)+(i:Int))<|a+i)<|And.intro (show(0:Int)<=((a+i:Nat):Int) by omega)<|And.intro (show((a+i:Nat):Int)<((N:Nat):Int) by omega)<|And.intro (fP (l:=l) (k:=a+i))<|And.intro (show(0:Int)<=((a+i:Nat):Int) by omega)<|And.intro (show((a+i:Nat):Int)<((N:Nat):Int) by omega)<|And.intro (show gA (some<|aD aw<|l) (((a+i:Nat):Int).toNat*1) [.int .i64<|I (l)<|b+i]=some (aD aw<|(l).set (a+i)<|I (l)<|b+i) from zf)<|And.intro (show(0:Int)<=((b+i:Nat):Int) by omega)<|And.intro (show((b+i:Nat):Int)<((N:Nat):Int) by omega)<|And.intro (show gA (some<|aD aw<|(l).set (a+i)<|I (l)<|b+i) (((b+i:Nat):Int).toNat*1) [.int .i64<|I (l)<|a+i]=some (aD aw<|swp (l) (a+i)<|b+i) from Br)<|And.intro (wN ((i:Int)+1)<|i+1) (show bX (gZ g N cap a b n<|i+1) (mR (swp l (a+i)<|b+i) c) (eC g N cap a b n<|i+1) (J (mR (swp l (a+i)<|b+i) c) 272) from b8))) (fun h=>show False by omega)
end
end KM
end
section
open Go Go.Rn Go.RowKit Go.Proofs
namespace Ka
open dx dG ep eV KM
def vB:LR:=fun args ax y c=>∃(N:Nat) (cap:aZ) (a b n:Nat) (g:FuncId) (cc:AV) (l l':List Int),args=jw N cap [(a:Int),(b:Int),(n:Int)] g/\ax=[b7 l,[cc]]/\y= .tuple []/\c=some (b7 l')/\l.length=N/\N<=1000000/\a+n<=b/\b+n<=N/\fa l a b n l'
theorem vB.bc:jD vB:=fun args ax y y' c c' h h'=>by
 obtain⟨N,cap,a,b,n,g,cc,l,l',rfl,rfl,rfl,rfl,_,_,_,_,h⟩:=h;obtain⟨N2,im,a2,b2,n2,g2,zk,l2,zm,e1,e2,rfl,rfl,_,_,_,_,h'⟩:=h';obtain⟨_,_,e1,_⟩:=uB e1;obtain⟨rfl,_⟩:=uT e2;simp only[List.cons.injEq,_root_.and_true] at e1;obtain⟨q1,q2,q3⟩:=e1;obtain rfl:a=a2:=by omega
 obtain rfl:b=b2:=by omega
 obtain rfl:n=n2:=by omega
 rw[h.bc h'];exact⟨rfl,rfl⟩
theorem I9{L:bY}{B:aH}{g:FuncId}{c:AV}{N a b n:Nat}{cap:aZ}{l0 l':List Int}(mc:Mt L B)(hl:N<=1000000)(hN:l0.length=N)(ha:a+n<=b)(hb:b+n<=N)(h':fa l0 a b n l'):
 ∀(r i:Nat) (l:List Int),n - i=r->i<=n->fa l0 a b i l->aR B Tryz.f76 l' c (eC g N cap a b n i) (J (mR l c) 272)
 |0,i,l,hr,hi,h=>by
  obtain rfl:i=n:=by omega
  rw[h'.bc h];exact wE mc<|Nat.le_refl _
 |r+1,i,l,hr,hi,h=>by have:=h.len;exact UC mc hl (by omega) (by omega) ha hb (I9 mc hl hN ha hb h' r (i+1) _ (by omega) (by omega)<|h.step (by omega)<|by omega)
noncomputable def pf:FuncId×KE:=(76,.raw<|eH<|vL vB)
theorem Pn(hP:du Tryz.prog){L:bY}(h:cJ L):cJ<|pf::L:=by refine mf hP h gO Tryz.func76 fun args ax y c e=>?_;obtain⟨N,cap,a,b,n,g,cc,l,l',rfl,rfl,rfl,rfl,hN,hl,ha,hb,h⟩:=e;refine⟨aK.1 (by kernel_rfl),fun B mc=>tc ?_⟩;exact w0 mc<|I9 mc hl hN ha hb h n 0 l (by omega) (by omega)<|fa.zero l a b
theorem fa.ex{l:List Int}{a b:Nat}:∀{n:Nat},a+n<=b->b+n<=l.length->∃l',fa l a b n l'
 |0,_,_=>⟨l,fa.zero l a b⟩
 |n+1,h1,h2=>by obtain⟨l',h⟩:=fa.ex (n:=n) (l:=l) (a:=a) (b:=b) (by omega) (by omega);exact⟨_,h.step (by omega)<|by omega⟩
end Ka
end
section
open Go Go.Rn Go.RowKit Go.Proofs
namespace vU
open dx dG ep eV Ka
noncomputable def gd(g:FuncId)(N:Nat)(cap:aZ)(m i j:Nat):List<|Nat×AV:=[(0,.slice (some (270,0)) N cap),(2,.int .i64 (m:Int)),(4,dK g),(10,.int .i64 (i:Int)),(11,.int .i64 (j:Int))]
noncomputable def KT:List Item:=[.code<|aI Tryz.prog 53 [1,1,0,0,0],.inLoop<|aI Tryz.prog 53 [1,1,0,0,0],.inBlock 0,.code<|aI Tryz.prog 53 [1,1,1]]
noncomputable def dV(g:FuncId)(N:Nat)(cap:aZ)(m i j:Nat):AF:=⟨53,cj<|gd g N cap m i j,(max Tryz.f53.ntmps 5),KT,[],none⟩
section
variable {B:aH} {g:FuncId} {c:AV} {N a m b i j:Nat} {cap:aZ} {l l' l1:List Int}
theorem w0(mc:Mt [pf] B)(hb:b<=1000000)(h1:a<=m)(h2:m<=b)(H:aR B Tryz.f53 l' c (dV g N cap m (m - a)<|b - m)<|J (mR l c) 272):aR B Tryz.f53 l' c ⟨53,bG [.slice (some (270,0)) N cap,.int .i64 (a:Int),.int .i64 (m:Int),.int .i64 (b:Int),dK g],(max Tryz.f53.ntmps 5),[.code<|aI Tryz.prog 53 []],[],none⟩<|J (mR l c) 272:=rC mc H (.st 1<|.rg<|.go 2<|.vl (.int .i64 ((m - a:Nat):Int))<|.go 1<|.en<|.st 1<|.rg<|.go 2<|.vl (.int .i64 ((b - m:Nat):Int))<|.go 1<|.en<|.st 3<|.ls (gd g N cap m (m - a)<|b - m) (mR l c) 272 .no)<|And.intro (wN ((m:Int) - (a:Int))<|m - a)<|And.intro (wN ((b:Int) - (m:Int))<|b - m) (show bX (gd g N cap m (m - a)<|b - m) (mR l c) (dV g N cap m (m - a)<|b - m) (J (mR l c) 272) from b8)
theorem wE(mc:Mt [pf] B)(hc:c.bO=true)(hl:N<=1000000)(hN:l.length=N)(hi:i<=m)(hj:m+j<=N)(dp:i=j)(h:fa l (m - i) m i l1):aR B Tryz.f53 l1 c (dV g N cap m i j)<|J (mR l c) 272:=rS mc (.st 2<|.rg<|.go 2<|.fk .no<|.en<|.st 2<|.rg<|.go 3<|.vl (.int .i64 ((m - i:Nat):Int))<|.go 3<|.cg (.tuple []) (lG<|l1) (lQ (l) c)<|.en<|.rt 2<|.no)<|ay ((i:Int)≠(j:Int)) (fun h=>show False by omega) fun _=>(And.intro (wN ((m:Int) - (i:Int))<|m - i)<|mQ (L:=[pf]) (f:=76) (by as_aux_lemma=>kernel_rfl) vB.bc (N:=N) (cap:=cap) (is:=[((m - i:Nat):Int),((m:Nat):Int),((i:Nat):Int)]) (g:=g) hc ⟨N,cap,m - i,m,i,g,c,l,l1,rfl,rfl,rfl,rfl,hN,hl,by omega,by omega,h⟩ (by omega) h.len (show nK l1 c from oK))
theorem wG(mc:Mt [pf] B)(hc:c.bO=true)(hl:N<=1000000)(hN:l.length=N)(hi:i<=m)(hj:m+j<=N)(dp:j<i)(h:fa l (m - i) m j l1)(H:aR B Tryz.f53 l' c (dV g N cap m (i - j) j)<|J (mR l1 c) 272):aR B Tryz.f53 l' c (dV g N cap m i j)<|J (mR l c) 272:=rC mc H (.st 2<|.rg<|.go 2<|.fk (.en<|.st 4<|.rg<|.go 2<|.fk (.en<|.st 2<|.rg<|.go 3<|.vl (.int .i64 ((m - i:Nat):Int))<|.go 3<|.cg (.tuple []) (lG<|l1) (lQ (l) c)<|.en<|.rg<|.go 2<|.vl (.int .i64 ((i - j:Nat):Int))<|.go 1<|.en<|.st 2<|.ls (gd g N cap m (i - j) j) (mR l1 c) 272 .no) .no) .no)<|ay ((i:Int)≠(j:Int)) (fun _=>(ay ((i:Int)>(j:Int)) (fun _=>(And.intro (wN ((m:Int) - (i:Int))<|m - i)<|mQ (L:=[pf]) (f:=76) (by as_aux_lemma=>kernel_rfl) vB.bc (N:=N) (cap:=cap) (is:=[((m - i:Nat):Int),((m:Nat):Int),((j:Nat):Int)]) (g:=g) hc ⟨N,cap,m - i,m,j,g,c,l,l1,rfl,rfl,rfl,rfl,hN,hl,by omega,by omega,h⟩ (by omega) h.len<|And.intro (wN ((i:Int) - (j:Int))<|i - j) (show bX (gd g N cap m (i - j) j) (mR l1 c) (dV g N cap m (i - j) j) (J (mR l1 c) 272) from b8))) (fun h=>show False by omega))) (fun h=>show False by omega)
theorem wL(mc:Mt [pf] B)(hc:c.bO=true)(hl:N<=1000000)(hN:l.length=N)(hi:i<=m)(hj:m+j<=N)(dp:i<j)(h:fa l (m - i) (m+j - i) i l1)(H:aR B Tryz.f53 l' c (dV g N cap m i<|j - i)<|J (mR l1 c) 272):aR B Tryz.f53 l' c (dV g N cap m i j)<|J (mR l c) 272:=rC mc H (.st 2<|.rg<|.go 2<|.fk (.en<|.st 4<|.rg<|.go 2<|.fk .no<|.en<|.st 2<|.rg<|.go 3<|.vl (.int .i64 ((m - i:Nat):Int))<|.go 2<|.vl (.int .i64 ((m+j:Nat):Int))<|.go 1<|.vl (.int .i64 ((m+j - i:Nat):Int))<|.go 2<|.cg (.tuple []) (lG<|l1) (lQ (l) c)<|.en<|.rg<|.go 2<|.vl (.int .i64 ((j - i:Nat):Int))<|.go 1<|.en<|.st 2<|.ls (gd g N cap m i<|j - i) (mR l1 c) 272 .no) .no)<|ay ((i:Int)≠(j:Int)) (fun _=>(ay ((i:Int)>(j:Int)) (fun h=>show False by omega) fun _=>(And.intro (wN ((m:Int) - (i:Int))<|m - i)<|And.intro (wN ((m:Int)+(j:Int))<|m+j)<|And.intro (wN (((m+j:Nat):Int) - (i:Int))<|m+j - i)<|mQ (L:=[pf]) (f:=76) (by as_aux_lemma=>kernel_rfl) vB.bc (N:=N) (cap:=cap) (is:=[((m - i:Nat):Int),((m+j - i:Nat):Int),((i:Nat):Int)]) (g:=g) hc ⟨N,cap,m - i,m+j - i,i,g,c,l,l1,rfl,rfl,rfl,rfl,hN,hl,by omega,by omega,h⟩ (by omega) h.len<|And.intro (wN ((j:Int) - (i:Int))<|j - i) (show bX (gd g N cap m i<|j - i) (mR l1 c) (dV g N cap m i<|j - i) (J (mR l1 c) 272) from b8)))) (fun h=>show False by omega)
end
theorem DT{B:aH}{g:FuncId}{c:AV}{N m:Nat}{cap:aZ}{l':List Int}(mc:Mt [pf] B)(hc:c.bO=true)(hl:N<=1000000):∀(r i j:Nat) (l:List Int),i+j<=r->0<i->0<j->l.length=N->i<=m->m+j<=N->bZ l (m - i) m (m+j) l'->aR B Tryz.f53 l' c (dV g N cap m i j) (J (mR l c) 272)
 |0,i,j,l,h,h1,h2,_,_,_,_=>by omega
 |r+1,i,j,l,h,h1,h2,hN,hi,hj,hr=>by
  rcases Nat.lt_trichotomy i j with q|q|q
  ·obtain⟨l1,h3⟩:=fa.ex (l:=l) (a:=m - i) (b:=m+j - i) (n:=i) (by omega) (by omega);have e:=h3.len;obtain⟨l2,h4⟩:=bZ.ex (l:=l1) (a:=m - i) (m:=m) (b:=m+(j - i)) (by omega) (by omega) (by omega);obtain rfl:=hr.bc<|bZ.lt h3 hi q h4;exact wL mc hc hl hN hi hj q h3<|DT mc hc hl r i (j - i) l1 (by omega) h1 (by omega) (by omega) hi (by omega) h4
  ·subst q;obtain⟨l1,h3⟩:=fa.ex (l:=l) (a:=m - i) (b:=m) (n:=i) (by omega) (by omega);obtain rfl:=hr.bc<|bZ.eq h3 hi;exact wE mc hc hl hN hi hj rfl h3
  ·obtain⟨l1,h3⟩:=fa.ex (l:=l) (a:=m - i) (b:=m) (n:=j) (by omega) (by omega);have e:=h3.len;obtain⟨l2,h4⟩:=bZ.ex (l:=l1) (a:=m - (i - j)) (m:=m) (b:=m+j) (by omega) (by omega) (by omega);obtain rfl:=hr.bc<|bZ.gt h3 hi q h4;exact wG mc hc hl hN hi hj q h3<|DT mc hc hl r (i - j) j l1 (by omega) (by omega) h2 (by omega) (by omega) hj h4
def Bs:LR:=fun args ax y c=>∃(N:Nat) (cap:aZ) (a m b:Nat) (g:FuncId) (cc:AV) (l l':List Int),args=jw N cap [(a:Int),(m:Int),(b:Int)] g/\ax=[b7 l,[cc]]/\y= .tuple []/\c=some (b7 l')/\cc.bO=true/\l.length=N/\N<=1000000/\a<m/\m<b/\b<=N/\bZ l a m b l'
theorem Bs.bc:jD Bs:=fun args ax y y' c c' h h'=>by
 obtain⟨N,cap,a,m,b,g,cc,l,l',rfl,rfl,rfl,rfl,_,_,_,_,_,_,h⟩:=h;obtain⟨N2,im,a2,m2,b2,g2,zk,l2,zm,e1,e2,rfl,rfl,_,_,_,_,_,_,h'⟩:=h';obtain⟨_,_,e1,_⟩:=uB e1;obtain⟨rfl,_⟩:=uT e2;simp only[List.cons.injEq,_root_.and_true] at e1;obtain⟨q1,q2,q3⟩:=e1;obtain rfl:a=a2:=by omega
 obtain rfl:m=m2:=by omega
 obtain rfl:b=b2:=by omega
 rw[h.bc h'];exact⟨rfl,rfl⟩
noncomputable def cb:FuncId×KE:=(53,.raw<|eH<|vL Bs)
theorem P8(hP:du Tryz.prog){L:bY}(h:cJ L):cJ<|cb::L:=by refine mf hP h (Pn hP gO) Tryz.func53 fun args ax y c e=>?_;obtain⟨N,cap,a,m,b,g,cc,l,l',rfl,rfl,rfl,rfl,hc,hN,hl,h1,h2,h3,h⟩:=e;refine⟨aK.1 (by kernel_rfl),fun B mc=>tc ?_⟩;refine w0 mc (by omega) (by omega) (by omega)<|DT mc hc hl _ (m - a) (b - m) l (Nat.le_refl _) (by omega) (by omega) hN (by omega) (by omega) ?_;rw[show m - (m - a)=a by omega,show m+(b - m)=b by omega];exact h
end vU
end
section
open Go Go.Rn Go.RowKit Go.Proofs
namespace jX
open dx dG ep eV gq
theorem c1{B:aH}{x y:Int}(mc:Mt [] B)(h:x<y):Sm B Tryz.f21 (i6<|cp x y) ⟨21,bG [.int .i64 x,.int .i64 y],(max Tryz.f21.ntmps 2),[.code<|aI Tryz.prog 21 []],[],none⟩<|J au 270:=wS mc (L:=[]) (R:=fun r0 _=>r0=i6 (cp x y)) (.st 3<|.rg<|.go 1<|.il<|.st 3<|.rg<|.go 2<|.fk .no<|.go 1<|.en<|.rt 2<|.go 1<|.en<|.st 1<|.rg<|.go 1<|.il<|.st 3<|.rg<|.go 2<|.fk .no<|.go 1<|.en<|.rt 2<|.go 1<|.en<|.st 12<|.rg<|.go 2<|.fk (.en<|.rt 5<|.no) .no)<|ay (x≠x) (fun h=>show False by exact h rfl) fun _=>(ay (y≠y) (fun h=>show False by exact h rfl) fun _=>(ay (x<y) (fun _=>(show AV.int .i64 (-1)=i6 (cp x y) by rw[cp,if_pos<|by assumption])) (fun h=>show False by omega)))
theorem c2{B:aH}{x y:Int}(mc:Mt [] B)(h:x>y):Sm B Tryz.f21 (i6<|cp x y) ⟨21,bG [.int .i64 x,.int .i64 y],(max Tryz.f21.ntmps 2),[.code<|aI Tryz.prog 21 []],[],none⟩<|J au 270:=wS mc (L:=[]) (R:=fun r0 _=>r0=i6 (cp x y)) (.st 3<|.rg<|.go 1<|.il<|.st 3<|.rg<|.go 2<|.fk .no<|.go 1<|.en<|.rt 2<|.go 1<|.en<|.st 1<|.rg<|.go 1<|.il<|.st 3<|.rg<|.go 2<|.fk .no<|.go 1<|.en<|.rt 2<|.go 1<|.en<|.st 12<|.rg<|.go 2<|.fk .no<|.en<|.st 4<|.rg<|.go 2<|.fk (.en<|.rt 5<|.no) .no)<|ay (x≠x) (fun h=>show False by exact h rfl) fun _=>(ay (y≠y) (fun h=>show False by exact h rfl) fun _=>(ay (x<y) (fun h=>show False by omega) fun _=>(ay (x>y) (fun _=>(show AV.int .i64 1=i6 (cp x y) by rw[cp,if_neg (by omega),if_pos<|by omega])) (fun h=>show False by omega))))
theorem c3{B:aH}{x y:Int}(mc:Mt [] B)(h:x=y):Sm B Tryz.f21 (i6<|cp x y) ⟨21,bG [.int .i64 x,.int .i64 y],(max Tryz.f21.ntmps 2),[.code<|aI Tryz.prog 21 []],[],none⟩<|J au 270:=wS mc (L:=[]) (R:=fun r0 _=>r0=i6 (cp x y)) (.st 3<|.rg<|.go 1<|.il<|.st 3<|.rg<|.go 2<|.fk .no<|.go 1<|.en<|.rt 2<|.go 1<|.en<|.st 1<|.rg<|.go 1<|.il<|.st 3<|.rg<|.go 2<|.fk .no<|.go 1<|.en<|.rt 2<|.go 1<|.en<|.st 12<|.rg<|.go 2<|.fk .no<|.en<|.st 4<|.rg<|.go 2<|.fk .no<|.en<|.rt 6<|.no)<|ay (x≠x) (fun h=>show False by exact h rfl) fun _=>(ay (y≠y) (fun h=>show False by exact h rfl) fun _=>(ay (x<y) (fun h=>show False by omega) fun _=>(ay (x>y) (fun h=>show False by omega) fun _=>(show AV.int .i64 0=i6 (cp x y) by rw[cp,if_neg (by omega),if_neg<|by omega]))))
def vV(args:List AV)(v:AV):Prop:=∃x y:Int,args=[.int .i64 x,.int .i64 y]/\v=i6 (cp x y)
theorem vV.bc(args:List AV)(v v':AV)(h:vV args v)(h':vV args v'):v=v':=by
 obtain⟨x,y,rfl,rfl⟩:=h;obtain⟨x',y',e,rfl⟩:=h';injection e with e1 e;injection e with e2 _
 injection e1 with _ e1;injection e2 with _ e2
 rw[e1,e2]
noncomputable def zn:FuncId×KE:=(21,.val<|gR vV)
theorem JC(hP:du Tryz.prog){L:bY}(h:cJ L):cJ<|zn::L:=by
 refine tu hP h gO Tryz.func21 fun args v e=>?_;obtain⟨x,y,rfl,rfl⟩:=qh e;refine⟨aK.1 (by kernel_rfl),fun B mc=>?_⟩;rw[←qz];rcases Int.lt_trichotomy x y with q|q|q
 ·exact c1 mc q
 ·exact c3 mc q
 ·exact c2 mc q
noncomputable abbrev mB(c:AV):List<|Nat×Option U:=au++[(270,some<|ak [c])]
abbrev LA(v:Int)(c:AV):Prop:=i6 v=i6 v/\some (ak [c])=some (ak [c])
theorem KY(x y:Int):kH (gR vV) [.int .i64 x,.int .i64 y]=some (i6<|cp x y):=qk (ql vV.bc ⟨x,y,rfl,rfl⟩) rfl rfl
theorem kJ{l:List At}{x:Int}(h0:0<=x)(h1:x<(l.length:Int))(j:Nat)(hj:j<9):fj FU (nm (l.map ah).flatten) (0+x.toNat*9+j) 1=some (((ah<|aA l x).drop j).take 1):=by
 have e:l[x.toNat]? =some (aA l x):=by unfold aA;rw[List.getD_eq_getElem?_getD,List.getElem?_eq_getElem (show x.toNat<l.length by omega)];rfl
 rw[Nat.zero_add];exact qy eA e j 1 (by omega)
section
variable {B:aH} {x y:Int} {l:List At}
theorem eW(mc:Mt [zn] B)(hx:0<=x/\x<(l.length:Int))(hy:0<=y/\y<(l.length:Int)):bw Tryz.prog B 271 (Fin Tryz.prog Tryz.f27.results.toList fun r0 s=>r0=i6 (cp (aA l x).wv (aA l y).wv)/\s.h.get 270=some (ak [aq ah l])) ⟨27,bG [.int .i64 x,.int .i64 y,.ptr<|some (270,0)],(max Tryz.f27.ntmps 3),[.code<|aI Tryz.prog 27 []],[],none⟩<|J (mB<|aq ah l) 271:=oH mc (L:=[zn]) (R:=fun r0 s=>r0=i6 (cp (aA l x).wv (aA l y).wv)/\s.h.get 270=some (ak [aq ah l])) (.st 3<|.rg<|.go 2<|.bV<|.go 1<|.bW ([i6 (aA l x).wv])<|.go 2<|.bV<|.go 1<|.bW ([i6 (aA l y).wv])<|.kn (i6<|cp (aA l x).wv (aA l y).wv)<|.go 1<|.en<|.rt 2<|.no)<|And.intro (show(0:Int)<=x by omega)<|And.intro (show x<((l.length:Nat):Int) by omega)<|And.intro (bj (l.map ah).flatten)<|And.intro (kJ (l:=l) (x:=x) (by omega) (by omega) 5<|by omega)<|And.intro (show(0:Int)<=y by omega)<|And.intro (show y<((l.length:Nat):Int) by omega)<|And.intro (bj (l.map ah).flatten)<|And.intro (kJ (l:=l) (x:=y) (by omega) (by omega) 5<|by omega)<|And.intro (KY (aA l x).wv (aA l y).wv) (show LA (cp (aA l x).wv (aA l y).wv) (aq ah l) from⟨rfl,rfl⟩)
theorem eF(mc:Mt [zn] B)(hx:0<=x/\x<(l.length:Int))(hy:0<=y/\y<(l.length:Int)):bw Tryz.prog B 271 (Fin Tryz.prog Tryz.f20.results.toList fun r0 s=>r0=i6 (cp (aA l x).fr (aA l y).fr)/\s.h.get 270=some (ak [aq ah l])) ⟨20,bG [.int .i64 x,.int .i64 y,.ptr<|some (270,0)],(max Tryz.f20.ntmps 3),[.code<|aI Tryz.prog 20 []],[],none⟩<|J (mB<|aq ah l) 271:=oH mc (L:=[zn]) (R:=fun r0 s=>r0=i6 (cp (aA l x).fr (aA l y).fr)/\s.h.get 270=some (ak [aq ah l])) (.st 3<|.rg<|.go 2<|.bV<|.go 1<|.bW ([i6 (aA l x).fr])<|.go 2<|.bV<|.go 1<|.bW ([i6 (aA l y).fr])<|.kn (i6<|cp (aA l x).fr (aA l y).fr)<|.go 1<|.en<|.rt 2<|.no)<|And.intro (show(0:Int)<=x by omega)<|And.intro (show x<((l.length:Nat):Int) by omega)<|And.intro (bj (l.map ah).flatten)<|And.intro (kJ (l:=l) (x:=x) (by omega) (by omega) 2<|by omega)<|And.intro (show(0:Int)<=y by omega)<|And.intro (show y<((l.length:Nat):Int) by omega)<|And.intro (bj (l.map ah).flatten)<|And.intro (kJ (l:=l) (x:=y) (by omega) (by omega) 2<|by omega)<|And.intro (KY (aA l x).fr (aA l y).fr) (show LA (cp (aA l x).fr (aA l y).fr) (aq ah l) from⟨rfl,rfl⟩)
end
def qS(key:At->Int):LR:=fun args ax y c=>∃(x z:Int) (l:List At),args=[.int .i64 x,.int .i64 z,.ptr<|some (270,0)]/\ax=[[aq ah l]]/\jK l x/\jK l z/\y=i6 (jJ key l x z)/\c=none
theorem qS.bc(key:At->Int):jD<|qS key:=fun args ax y y' c c' h h'=>by
 obtain⟨x,z,l,rfl,rfl,_,_,rfl,rfl⟩:=h;obtain⟨x',z',l',e1,e2,_,_,rfl,rfl⟩:=h';injection e1 with e1 e3;injection e3 with e3 _
 injection e1 with _ e1;injection e3 with _ e3
 injection e2 with e2 _;injection e2 with e2 _
 rw[e1,e3,rZ e2];exact⟨rfl,rfl⟩
noncomputable def bx:FuncId×KE:=(27,.raw<|eH<|vL<|qS At.wv)
noncomputable def bz:FuncId×KE:=(20,.raw<|eH<|vL<|qS At.fr)
theorem JD(hP:du Tryz.prog){L:bY}(h:cJ L):cJ<|bx::L:=by refine mf hP h (JC hP gO) Tryz.func27 fun args ax y c e=>?_;obtain⟨x,z,l,rfl,rfl,hx,hz,rfl,rfl⟩:=e;exact⟨aK.1 (by kernel_rfl),fun B mc=>tb<|eW mc hx hz⟩
theorem JE(hP:du Tryz.prog){L:bY}(h:cJ L):cJ<|bz::L:=by refine mf hP h (JC hP gO) Tryz.func20 fun args ax y c e=>?_;obtain⟨x,z,l,rfl,rfl,hx,hz,rfl,rfl⟩:=e;exact⟨aK.1 (by kernel_rfl),fun B mc=>tb<|eF mc hx hz⟩
def CI(g:FuncId)(c:AV)(n:Int->Prop)(cv:Int->Int->Int):Prop:=∃l:List At,c=aq ah l/\((g=27/\n=wq l/\cv=jJ At.wv l/\nb l)\/(g=20/\n=jK l/\cv=jJ At.fr l/\A0 l))
theorem CI.bc{g:FuncId}{c:AV}{n n':Int->Prop}{cv LB:Int->Int->Int}(h:CI g c n cv)(h':CI g c n' LB):n=n'/\cv=LB:=by
 obtain⟨l,rfl,h⟩:=h;obtain⟨l',e,h'⟩:=h';obtain rfl:=rZ e;rcases h with⟨rfl,rfl,rfl,_⟩|⟨rfl,rfl,rfl,_⟩<;>rcases h' with⟨e,rfl,rfl,_⟩|⟨e,rfl,rfl,_⟩
 ·exact⟨rfl,rfl⟩
 ·cases e
 ·cases e
 ·exact⟨rfl,rfl⟩
theorem CI.hi{g:FuncId}{c:AV}{n:Int->Prop}{cv:Int->Int->Int}(h:CI g c n cv):c.bO=true:=by obtain⟨l,rfl,_⟩:=h;exact aK.2<|bj _
theorem CI.ord{g:FuncId}{c:AV}{n:Int->Prop}{cv:Int->Int->Int}(h:CI g c n cv):Ord cv n:=by
 obtain⟨l,rfl,⟨_,rfl,rfl,ha⟩|⟨_,rfl,rfl,ha⟩⟩:=h
 ·exact xm ha
 ·exact xm ha
theorem CI.cm{L:bY}(hs:sp L 27=some (eH (vL<|qS At.wv) 270 ed dy))(yH:sp L 20=some (eH (vL<|qS At.fr) 270 ed dy)){g:FuncId}{c:AV}{n:Int->Prop}{cv:Int->Int->Int}(h:CI g c n cv):Cm L g c n cv:=by
 have hh:=h.hi;refine⟨fun x y hx hy=>?_,h.ord⟩;obtain⟨l,rfl,⟨rfl,rfl,rfl,ha⟩|⟨rfl,rfl,rfl,ha⟩⟩:=h
 ·exact xA (n:=5) (N:=[271]) (ax:=[[aq ah l]]) hs rfl (by kernel_rfl) (by decide) rfl (by kernel_rfl) (by show(((AV.bO (aq ah l)&&true)&&Nat.ble 1 top)&&true)=true;rw[hh,aK.2 (show 1<=top by unfold top;omega)];rfl) (td (qS.bc _) ⟨x,y,l,rfl,rfl,hx.1,hy.1,rfl,rfl⟩) rfl
 ·exact xA (n:=5) (N:=[271]) (ax:=[[aq ah l]]) yH rfl (by kernel_rfl) (by decide) rfl (by kernel_rfl) (by show(((AV.bO (aq ah l)&&true)&&Nat.ble 1 top)&&true)=true;rw[hh,aK.2 (show 1<=top by unfold top;omega)];rfl) (td (qS.bc _) ⟨x,y,l,rfl,rfl,hx,hy,rfl,rfl⟩) rfl
end jX
end
section
open Go Go.Rn Go.RowKit Go.Proofs
namespace Bt
open dx dG ep eV jX
noncomputable def lN(g:FuncId)(N:Nat)(cap:aZ)(a b i:Nat):List<|Nat×AV:=[(0,.slice (some (270,0)) N cap),(1,.int .i64 (a:Int)),(2,.int .i64 (b:Int)),(3,dK g),(8,.int .i64 (i:Int))]
noncomputable def KO:List Item:=[.code<|aI Tryz.prog 36 [1,0,0],.inLoop<|aI Tryz.prog 36 [1,0,0],.inBlock 0]
noncomputable def iC(g:FuncId)(N:Nat)(cap:aZ)(a b i:Nat):AF:=⟨36,cj<|lN g N cap a b i,(max Tryz.f36.ntmps 4),KO,[],none⟩
noncomputable def jf(g:FuncId)(N:Nat)(cap:aZ)(a b i j:Nat):List<|Nat×AV:=[(0,.slice (some (270,0)) N cap),(1,.int .i64 (a:Int)),(2,.int .i64 (b:Int)),(3,dK g),(8,.int .i64 (i:Int)),(9,.int .i64 (j:Int))]
noncomputable def KI:List Item:=[.code<|aI Tryz.prog 36 [1,0,0,1,0,0,1,0,0],.inLoop<|aI Tryz.prog 36 [1,0,0,1,0,0,1,0,0],.inBlock 2,.inBlock 1,.code<|aI Tryz.prog 36 [1,0,0,1,1],.inLoop<|aI Tryz.prog 36 [1,0,0],.inBlock 0]
noncomputable def fc(g:FuncId)(N:Nat)(cap:aZ)(a b i j:Nat):AF:=⟨36,cj<|jf g N cap a b i j,(max Tryz.f36.ntmps 4),KI,[],none⟩
section
variable {B:aH} {g:FuncId} {c:AV} {n:Int->Prop} {cv:Int->Int->Int} {N a b i j:Nat} {cap:aZ} {l l':List Int}
theorem w0(mc:Mt [bx,bz] B)(ha:a<=1000000)(H:aR B Tryz.f36 l' c (iC g N cap a b<|a+1)<|J (mR l c) 272):aR B Tryz.f36 l' c ⟨36,bG [.slice (some (270,0)) N cap,.int .i64 (a:Int),.int .i64 (b:Int),dK g],(max Tryz.f36.ntmps 4),[.code<|aI Tryz.prog 36 []],[],none⟩<|J (mR l c) 272:=rC mc H (.st 1<|.rg<|.go 1<|.vl (.int .i64 ((a+1:Nat):Int))<|.go 1<|.en<|.st 2<|.ls (lN g N cap a b<|a+1) (mR l c) 272 .no)<|And.intro (wN ((a:Int)+1)<|a+1) (show bX (lN g N cap a b<|a+1) (mR l c) (iC g N cap a b<|a+1) (J (mR l c) 272) from b8)
theorem oE(mc:Mt [bx,bz] B)(h:b<=i):aR B Tryz.f36 l c (iC g N cap a b i)<|J (mR l c) 272:=rS mc (.st 2<|.rg<|.go 2<|.fk .no<|.en<|.rt 4<|.no)<|ay ((i:Int)<(b:Int)) (fun h=>show False by omega) fun _=>(show nK l c from oK)
theorem oI(mc:Mt [bx,bz] B)(h:i<b)(H:aR B Tryz.f36 l' c (fc g N cap a b i<|i)<|J (mR l c) 272):aR B Tryz.f36 l' c (iC g N cap a b i)<|J (mR l c) 272:=rC mc H (.st 2<|.rg<|.go 2<|.fk (.en<|.st 8<|.ls (jf g N cap a b i<|i) (mR l c) 272 .no) .no)<|ay ((i:Int)<(b:Int)) (fun _=>(show bX (jf g N cap a b i<|i) (mR l c) (fc g N cap a b i<|i) (J (mR l c) 272) from b8)) (fun h=>show False by omega)
theorem iA(mc:Mt [bx,bz] B)(hi:i<=1000000)(h:j=a)(H:aR B Tryz.f36 l' c (iC g N cap a b<|i+1)<|J (mR l c) 272):aR B Tryz.f36 l' c (fc g N cap a b i j)<|J (mR l c) 272:=rC mc H (.st 2<|.rg<|.go 2<|.fk .no<|.go 14<|.en<|.st 3<|.rg<|.go 1<|.vl (.int .i64 ((i+1:Nat):Int))<|.go 1<|.en<|.st 1<|.ls (lN g N cap a b<|i+1) (mR l c) 272 .no)<|ay ((j:Int)>(a:Int)) (fun h=>show False by omega) fun _=>(And.intro (wN ((i:Int)+1)<|i+1) (show bX (lN g N cap a b<|i+1) (mR l c) (iC g N cap a b<|i+1) (J (mR l c) 272) from b8))
theorem iX(mc:Mt [bx,bz] B)(hC:Cm [bx,bz] g c n cv)(hr:Rg l n)(hl:N<=1000000)(hN:l.length=N)(hi:i<N)(hj:j<=i)(h:a<j)(hc:¬cv (I l j) (I l<|j - 1)<0)(H:aR B Tryz.f36 l' c (iC g N cap a b<|i+1)<|J (mR l c) 272):aR B Tryz.f36 l' c (fc g N cap a b i j)<|J (mR l c) 272:=rC mc H (.st 2<|.rg<|.go 2<|.fk (.go 4<|.ix<|.ld [.int .i64<|I (l)<|j]<|.go 2<|.vl (.int .i64 ((j - 1:Nat):Int))<|.ix<|.ld [.int .i64<|I (l)<|j - 1]<|.cg (.int .i64<|cv (I l j)<|I l<|j - 1) cG (cQ c)<|.fk .no<|.go 1<|.en<|.st 3<|.rg<|.go 1<|.vl (.int .i64 ((i+1:Nat):Int))<|.go 1<|.en<|.st 1<|.ls (lN g N cap a b<|i+1) (mR l c) 272 .no) .no)<|ay ((j:Int)>(a:Int)) (fun _=>(And.intro (show(0:Int)<=((j:Nat):Int) by omega)<|And.intro (show((j:Nat):Int)<((N:Nat):Int) by omega)<|And.intro (fP (l:=l) (k:=j))<|And.intro (wN ((j:Int) - 1)<|j - 1)<|And.intro (show(0:Int)<=((j - 1:Nat):Int) by omega)<|And.intro (show((j - 1:Nat):Int)<((N:Nat):Int) by omega)<|And.intro (fP (l:=l) (k:=j - 1))<|cm (L:=[bx,bz]) hC (x:=I l j) (y:=I l<|j - 1) (dJ hr<|by omega) (dJ hr<|by omega)<|ay (cv (I l j) (I l<|j - 1)<0) (fun h=>show False by exact hc h) fun _=>(And.intro (wN ((i:Int)+1)<|i+1) (show bX (lN g N cap a b<|i+1) (mR l c) (iC g N cap a b<|i+1) (J (mR l c) 272) from b8)))) (fun h=>show False by omega)
theorem iS(mc:Mt [bx,bz] B)(hC:Cm [bx,bz] g c n cv)(hr:Rg l n)(hl:N<=1000000)(hN:l.length=N)(hi:i<N)(hj:j<=i)(h:a<j)(hc:cv (I l j) (I l<|j - 1)<0)(H:aR B Tryz.f36 l' c (fc g N cap a b i<|j - 1)<|J (mR (swp l j<|j - 1) c) 272):aR B Tryz.f36 l' c (fc g N cap a b i j)<|J (mR l c) 272:=rC mc H (.st 2<|.rg<|.go 2<|.fk (.go 4<|.ix<|.ld [.int .i64<|I (l)<|j]<|.go 2<|.vl (.int .i64 ((j - 1:Nat):Int))<|.ix<|.ld [.int .i64<|I (l)<|j - 1]<|.cg (.int .i64<|cv (I l j)<|I l<|j - 1) cG (cQ c)<|.fk (.go 1<|.en<|.st 4<|.rg<|.go 4<|.vl (.int .i64 ((j - 1:Nat):Int))<|.go 2<|.vl (.int .i64 ((j - 1:Nat):Int))<|.ix<|.ld [.int .i64<|I (l)<|j - 1]<|.go 2<|.ix<|.ld [.int .i64<|I (l)<|j]<|.ix<|.lL (aD aw<|(l).set (j)<|I (l)<|j - 1)<|.ix<|.lL (aD aw<|swp (l) (j)<|j - 1)<|.en<|.st 1<|.rg<|.go 1<|.vl (.int .i64 ((j - 1:Nat):Int))<|.go 1<|.en<|.st 1<|.ls (jf g N cap a b i<|j - 1) (mR (swp l j<|j - 1) c) 272 .no) .no) .no)<|ay ((j:Int)>(a:Int)) (fun _=>(And.intro (show(0:Int)<=((j:Nat):Int) by omega)<|And.intro (show((j:Nat):Int)<((N:Nat):Int) by omega)<|And.intro (fP (l:=l) (k:=j))<|And.intro (wN ((j:Int) - 1)<|j - 1)<|And.intro (show(0:Int)<=((j - 1:Nat):Int) by omega)<|And.intro (show((j - 1:Nat):Int)<((N:Nat):Int) by omega)<|And.intro (fP (l:=l) (k:=j - 1))<|cm (L:=[bx,bz]) hC (x:=I l j) (y:=I l<|j - 1) (dJ hr<|by omega) (dJ hr<|by omega)<|ay (cv (I l j) (I l<|j - 1)<0) (fun _=>(And.intro (wN ((j:Int) - 1)<|j - 1)<|And.intro (wN ((j:Int) - 1)<|j - 1)<|And.intro (show(0:Int)<=((j - 1:Nat):Int) by omega)<|And.intro (show((j - 1:Nat):Int)<((N:Nat):Int) by omega)<|And.intro (fP (l:=l) (k:=j - 1))<|And.intro (show(0:Int)<=((j:Nat):Int) by omega)<|And.intro (show((j:Nat):Int)<((N:Nat):Int) by omega)<|And.intro (fP (l:=l) (k:=j))<|And.intro (show(0:Int)<=((j:Nat):Int) by omega)<|And.intro (show((j:Nat):Int)<((N:Nat):Int) by omega)<|And.intro (show gA (some<|aD aw<|l) (((j:Nat):Int).toNat*1) [.int .i64<|I (l)<|j - 1]=some (aD aw<|(l).set (j)<|I (l)<|j - 1) from zf)<|And.intro (show(0:Int)<=((j - 1:Nat):Int) by omega)<|And.intro (show((j - 1:Nat):Int)<((N:Nat):Int) by omega)<|And.intro (show gA (some<|aD aw<|(l).set (j)<|I (l)<|j - 1) (((j - 1:Nat):Int).toNat*1) [.int .i64<|I (l)<|j]=some (aD aw<|swp (l) (j)<|j - 1) from Br)<|And.intro (wN ((j:Int) - 1)<|j - 1) (show bX (jf g N cap a b i<|j - 1) (mR (swp l j<|j - 1) c) (fc g N cap a b i<|j - 1) (J (mR (swp l j<|j - 1) c) 272) from b8))) (fun h=>show False by exact h hc))) (fun h=>show False by omega)
end
section
variable {B:aH} {g:FuncId} {c:AV} {n:Int->Prop} {cv:Int->Int->Int} {N a b:Nat} {cap:aZ} {l':List Int}
theorem Kb(mc:Mt [bx,bz] B)(hC:Cm [bx,bz] g c n cv)(hl:N<=1000000){i:Nat}{l0:List Int}(fS:Rg l0 n)(hN:l0.length=N)(hi:i<N)(UD:a<=i)(s:cq cv l0 a i)(H:∀l,bI cv l0 a (i+1) l->aR B Tryz.f36 l' c (iC g N cap a b<|i+1) (J (mR l c) 272)):
 ∀(r j:Nat) (l:List Int),j - a=r->a<=j->j<=i->bZ l0 j i (i+1) l->(∀h,j<=h->h<i->Lq cv (I l0 i) (I l0 h))->aR B Tryz.f36 l' c (fc g N cap a b i j) (J (mR l c) 272)
 |0,j,l,hj,h1,h2,h,h3=>by
  obtain rfl:j=a:=by omega
  exact iA mc (by omega) rfl<|H l<|Aw hC.ord fS (by omega) (Nat.le_refl _) h2 s (fun h a1 a2=>by omega) h3 h
 |r+1,j,l,hj,h1,h2,h,h3=>by
  have hlen:=h.len;have e1:I l j=I l0 i:=by rw[h.is,if_pos<|by omega];exact jC (by omega)
  have e2:I l (j - 1)=I l0 (j - 1):=by rw[h.is,if_neg (by omega),if_neg<|by omega]
  by_cases q:cv (I l j) (I l<|j - 1)<0
  ·refine iS mc hC (fS.perm h.pm) hl (by omega) hi h2 (by omega) q ?_;have hd:=bZ.down (l:=l0) (l':=l) (k:=j - 1) (m:=i) (by rw[show j - 1+1=j by omega];exact h) (by omega) (by omega);rw[show j - 1+1=j by omega] at hd;refine Kb mc hC hl fS hN hi UD s H r (j - 1) _ (by omega) (by omega) (by omega) hd fun k a1 a2=>?_;by_cases q2:k=j - 1
   ·subst q2;rw[←e2, ←e1];exact Lq.of hC.ord (by rw[e1];exact dJ fS<|by omega) (by rw[e2];exact dJ fS<|by omega) q
   ·exact h3 k (by omega) a2
  ·refine iX mc hC (fS.perm h.pm) hl (by omega) hi h2 (by omega) q<|H l<|Aw hC.ord fS (by omega) h1 h2 s (fun k a1 a2=>?_) h3 h;rw[e1,e2] at q;exact Lq.oJ hC.ord fS (by omega) (by omega) (by omega) (cq.le hC.ord fS s (by omega) a1 (show k<=j - 1 by omega)<|by omega) q
theorem JF(mc:Mt [bx,bz] B)(hC:Cm [bx,bz] g c n cv)(hl:N<=1000000){l0:List Int}(fS:Rg l0 n)(hN:l0.length=N)(hb:b<=N)(h':bI cv l0 a b l'):
 ∀(r i:Nat) (l:List Int),b - i=r->a<=i->i<=b->bI cv l0 a i l->aR B Tryz.f36 l' c (iC g N cap a b i) (J (mR l c) 272)
 |0,i,l,hr,h1,h2,h=>by
  obtain rfl:i=b:=by omega
  rw[h'.bc hC.ord fS h1 (by omega) h];exact oE mc<|Nat.le_refl _
 |r+1,i,l,hr,h1,h2,h=>by have e:=h.len;refine oI mc (by omega) (Kb mc hC hl (fS.perm h.pm) (by omega) (by omega) h1 h.lM (fun l2 h2=>?_) _ i l rfl h1 (Nat.le_refl _) (bZ.Ep l i<|i+1) fun k a1 a2=>by omega);exact JF mc hC hl fS hN hb h' r (i+1) l2 (by omega) (by omega) (by omega) ⟨h2.pm.trans h.pm,fun k hk=>by rw[h2.out k hk,h.out k<|by omega],h2.lM⟩
end
def kK:LR:=fun args ax y c=>∃(N:Nat) (cap:aZ) (a b:Nat) (g:FuncId) (cc:AV) (n:Int->Prop) (cv:Int->Int->Int) (l l':List Int),args=jw N cap [(a:Int),(b:Int)] g/\ax=[b7 l,[cc]]/\y= .tuple []/\c=some (b7 l')/\CI g cc n cv/\Rg l n/\l.length=N/\N<=1000000/\a<=b/\b<=N/\bI cv l a b l'
theorem kK.bc:jD kK:=fun args ax y y' c c' h h'=>by
 obtain⟨N,cap,a,b,g,cc,n,cv,l,l',rfl,rfl,rfl,rfl,hc,hr,hN,_,h1,h2,h⟩:=h;obtain⟨N2,im,a2,b2,g2,zk,n2,FP,l2,zm,e1,e2,rfl,rfl,j9,_,_,_,_,_,h'⟩:=h';obtain⟨_,_,e3,rfl⟩:=uB e1;obtain⟨rfl,rfl⟩:=uT e2;obtain⟨rfl,rfl⟩:=hc.bc j9;simp only[List.cons.injEq,_root_.and_true] at e3;obtain⟨q1,q2⟩:=e3;obtain rfl:a=a2:=by omega
 obtain rfl:b=b2:=by omega
 rw[h.bc hc.ord hr h1 (by omega) h'];exact⟨rfl,rfl⟩
theorem QY{B:aH}{g:FuncId}{cc:AV}{n:Int->Prop}{cv:Int->Int->Int}{N a b:Nat}{cap:aZ}{l l':List Int}(mc:Mt [bx,bz] B)(hc:CI g cc n cv)(hr:Rg l n)(hN:l.length=N)(hl:N<=1000000)(h1:a<=b)(h2:b<=N)(h:bI cv l a b l'):
 aR B Tryz.f36 l' cc ⟨36,bG [.slice (some (270,0)) N cap,.int .i64 (a:Int),.int .i64 (b:Int),dK g],(max Tryz.f36.ntmps 4),[.code<|aI Tryz.prog 36 []],[],none⟩ (J (mR l cc) 272):=by
 have hC:Cm [bx,bz] g cc n cv:=hc.cm (by as_aux_lemma=>kernel_rfl) (by as_aux_lemma=>kernel_rfl);refine w0 mc (by omega) ?_;by_cases q:a<b
 ·exact JF mc hC hl hr hN h2 h _ (a+1) l rfl (by omega) q (bI.refl fun i j k1 k2 k3=>by omega)
 ·obtain rfl:a=b:=by omega
  rw[h.bc hC.ord hr (Nat.le_refl _) (by omega)<|bI.refl fun i j k1 k2 k3=>by omega];exact oE mc (by omega)
end Bt
end
section
open Go Go.Rn Go.RowKit Go.Proofs
namespace tz
open dx dG ep eV jX vU
def tA(k:Nat):LR:=fun args ax y c=>∃(N:Nat) (cap:aZ) (a m b:Nat) (g:FuncId) (cc:AV) (n:Int->Prop) (cv:Int->Int->Int) (l l':List Int),args=jw N cap [(a:Int),(m:Int),(b:Int)] g/\ax=[b7 l,[cc]]/\y= .tuple []/\c=some (b7 l')/\CI g cc n cv/\Rg l n/\l.length=N/\N<=1000000/\a<m/\m<b/\b<=N/\b - a<k/\cq cv l a m/\cq cv l m b/\bI cv l a b l'
theorem tA.bc(k:Nat):jD<|tA k:=fun args ax y y' c c' h h'=>by
 obtain⟨N,cap,a,m,b,g,cc,n,cv,l,l',rfl,rfl,rfl,rfl,hc,hr,hN,_,h1,h2,h3,_,_,_,h⟩:=h;obtain⟨N2,im,a2,m2,b2,g2,zk,n2,FP,l2,zm,e1,e2,rfl,rfl,j9,_,_,_,_,_,_,_,_,_,h'⟩:=h';obtain⟨_,_,e3,rfl⟩:=uB e1;obtain⟨rfl,rfl⟩:=uT e2;obtain⟨rfl,rfl⟩:=hc.bc j9;simp only[List.cons.injEq,_root_.and_true] at e3;obtain⟨q1,q2,q3⟩:=e3;obtain rfl:a=a2:=by omega
 obtain rfl:b=b2:=by omega
 rw[h.bc hc.ord hr (by omega) (by omega) h'];exact⟨rfl,rfl⟩
noncomputable def bA(k:Nat):FuncId×KE:=(37,.raw<|eH<|vL<|tA k)
noncomputable def jL(g:FuncId)(N:Nat)(cap:aZ)(a i j:Nat):List<|Nat×AV:=[(0,.slice (some (270,0)) N cap),(1,.int .i64 (a:Int)),(4,dK g),(10,.int .i64 (i:Int)),(11,.int .i64 (j:Int))]
noncomputable def KA:List Item:=[.code<|aI Tryz.prog 37 [0,1,0,1,1,0,0,0],.inLoop<|aI Tryz.prog 37 [0,1,0,1,1,0,0,0],.inBlock 0,.code<|aI Tryz.prog 37 [0,1,0,1,1,1],.code<|aI Tryz.prog 37 [1]]
noncomputable def gw(g:FuncId)(N:Nat)(cap:aZ)(a i j:Nat):AF:=⟨37,cj<|jL g N cap a i j,(max Tryz.f37.ntmps 5),KA,[],none⟩
noncomputable def gf(g:FuncId)(N:Nat)(cap:aZ)(i q:Nat):List<|Nat×AV:=[(0,.slice (some (270,0)) N cap),(10,.int .i64 (i:Int)),(13,.int .i64 (q:Int))]
noncomputable def KU:List Item:=[.code<|aI Tryz.prog 37 [0,1,0,1,1,1,0,1,0,0],.inLoop<|aI Tryz.prog 37 [0,1,0,1,1,1,0,1,0,0],.inBlock 2,.code<|aI Tryz.prog 37 [0,1,0,1,1,1,1],.code<|aI Tryz.prog 37 [1]]
noncomputable def gg(g:FuncId)(N:Nat)(cap:aZ)(i q:Nat):AF:=⟨37,cj<|gf g N cap i q,(max Tryz.f37.ntmps 5),KU,[],none⟩
noncomputable def kg(g:FuncId)(N:Nat)(cap:aZ)(m i j:Nat):List<|Nat×AV:=[(0,.slice (some (270,0)) N cap),(2,.int .i64 (m:Int)),(4,dK g),(14,.int .i64 (i:Int)),(15,.int .i64 (j:Int))]
noncomputable def KB:List Item:=[.code<|aI Tryz.prog 37 [1,0,1,0,1,1,0,0,0],.inLoop<|aI Tryz.prog 37 [1,0,1,0,1,1,0,0,0],.inBlock 4,.code<|aI Tryz.prog 37 [1,0,1,0,1,1,1],.code<|aI Tryz.prog 37 [1,1]]
noncomputable def gJ(g:FuncId)(N:Nat)(cap:aZ)(m i j:Nat):AF:=⟨37,cj<|kg g N cap m i j,(max Tryz.f37.ntmps 5),KB,[],none⟩
noncomputable def kh(g:FuncId)(N:Nat)(cap:aZ)(i q:Nat):List<|Nat×AV:=[(0,.slice (some (270,0)) N cap),(14,.int .i64 (i:Int)),(17,.int .i64 (q:Int))]
noncomputable def KD:List Item:=[.code<|aI Tryz.prog 37 [1,0,1,0,1,1,1,0,1,0,0],.inLoop<|aI Tryz.prog 37 [1,0,1,0,1,1,1,0,1,0,0],.inBlock 6,.code<|aI Tryz.prog 37 [1,0,1,0,1,1,1,1],.code<|aI Tryz.prog 37 [1,1]]
noncomputable def g9(g:FuncId)(N:Nat)(cap:aZ)(i q:Nat):AF:=⟨37,cj<|kh g N cap i q,(max Tryz.f37.ntmps 5),KD,[],none⟩
noncomputable def gK(g:FuncId)(N:Nat)(cap:aZ)(a m b md st r:Nat):List<|Nat×AV:=[(0,.slice (some (270,0)) N cap),(1,.int .i64 (a:Int)),(2,.int .i64 (m:Int)),(3,.int .i64 (b:Int)),(4,dK g),(18,.int .i64 (md:Int)),(19,.int .i64 ((md+m:Nat):Int)),(20,.int .i64 (st:Int)),(21,.int .i64 (r:Int)),(22,.int .i64 ((md+m - 1:Nat):Int))]
noncomputable def KC:List Item:=[.code<|aI Tryz.prog 37 [1,1,1,1,1,1,1,0,0,0],.inLoop<|aI Tryz.prog 37 [1,1,1,1,1,1,1,0,0,0],.inBlock 8,.code<|aI Tryz.prog 37 [1,1,1,1,1,1,1,1]]
noncomputable def hI(g:FuncId)(N:Nat)(cap:aZ)(a m b md st r:Nat):AF:=⟨37,cj<|gK g N cap a m b md st r,(max Tryz.f37.ntmps 5),KC,[],none⟩
noncomputable def FR(g:FuncId)(N:Nat)(cap:aZ)(a m b md st:Nat):List<|Nat×AV:=[(0,.slice (some (270,0)) N cap),(1,.int .i64 (a:Int)),(2,.int .i64 (m:Int)),(3,.int .i64 (b:Int)),(4,dK g),(18,.int .i64 (md:Int)),(19,.int .i64 ((md+m:Nat):Int)),(20,.int .i64 (st:Int))]
noncomputable def KP:List Item:=[.code<|aI Tryz.prog 37 [1,1,1,1,1,1,1,1]]
noncomputable def wx(g:FuncId)(N:Nat)(cap:aZ)(a m b md st:Nat):AF:=⟨37,cj<|FR g N cap a m b md st,(max Tryz.f37.ntmps 5),KP,[],none⟩
noncomputable def uf(g:FuncId)(N:Nat)(cap:aZ)(a b md st e:Nat):List<|Nat×AV:=[(0,.slice (some (270,0)) N cap),(1,.int .i64 (a:Int)),(3,.int .i64 (b:Int)),(4,dK g),(18,.int .i64 (md:Int)),(20,.int .i64 (st:Int)),(24,.int .i64 (e:Int))]
noncomputable def KQ:List Item:=[.code<|aI Tryz.prog 37 [1,1,1,1,1,1,1,1,1,1]]
noncomputable def oN(g:FuncId)(N:Nat)(cap:aZ)(a b md st e:Nat):AF:=⟨37,cj<|uf g N cap a b md st e,(max Tryz.f37.ntmps 5),KQ,[],none⟩
noncomputable def jh(g:FuncId)(N:Nat)(cap:aZ)(b md e:Nat):List<|Nat×AV:=[(0,.slice (some (270,0)) N cap),(3,.int .i64 (b:Int)),(4,dK g),(18,.int .i64 (md:Int)),(24,.int .i64 (e:Int))]
noncomputable def KR:List Item:=[.code<|aI Tryz.prog 37 [1,1,1,1,1,1,1,1,1,1,1]]
noncomputable def hJ(g:FuncId)(N:Nat)(cap:aZ)(b md e:Nat):AF:=⟨37,cj<|jh g N cap b md e,(max Tryz.f37.ntmps 5),KR,[],none⟩
section
variable {B:aH} {g:FuncId} {c:AV} {n:Int->Prop} {cv:Int->Int->Int} {k N a m b i j q md st r e:Nat} {cap:aZ} {l l' l1:List Int}
theorem wA(mc:Mt [bA k,cb,bx,bz] B)(ha:a<m)(hb:m<b)(hn:b<=1000000)(h:m=a+1)(H:aR B Tryz.f37 l' c (gw g N cap a (m)<|b)<|J (mR l c) 272):aR B Tryz.f37 l' c ⟨37,bG [.slice (some (270,0)) N cap,.int .i64 (a:Int),.int .i64 (m:Int),.int .i64 (b:Int),dK g],(max Tryz.f37.ntmps 5),[.code<|aI Tryz.prog 37 []],[],none⟩<|J (mR l c) 272:=rC mc H (.st 2<|.rg<|.go 2<|.vl (.int .i64 ((m - a:Nat):Int))<|.fk (.en<|.st 8<|.ls (jL g N cap a (m)<|b) (mR l c) 272 .no) .no)<|And.intro (wN ((m:Int) - (a:Int))<|m - a)<|ay (((m - a:Nat):Int)=1) (fun _=>(show bX (jL g N cap a (m)<|b) (mR l c) (gw g N cap a (m)<|b) (J (mR l c) 272) from b8)) (fun h=>show False by omega)
theorem wB(mc:Mt [bA k,cb,bx,bz] B)(ha:a<m)(hb:m<b)(hn:b<=1000000)(h0:m≠a+1)(h:b=m+1)(H:aR B Tryz.f37 l' c (gJ g N cap m (a)<|m)<|J (mR l c) 272):aR B Tryz.f37 l' c ⟨37,bG [.slice (some (270,0)) N cap,.int .i64 (a:Int),.int .i64 (m:Int),.int .i64 (b:Int),dK g],(max Tryz.f37.ntmps 5),[.code<|aI Tryz.prog 37 []],[],none⟩<|J (mR l c) 272:=rC mc H (.st 2<|.rg<|.go 2<|.vl (.int .i64 ((m - a:Nat):Int))<|.fk .no<|.en<|.st 4<|.rg<|.go 2<|.vl (.int .i64 ((b - m:Nat):Int))<|.fk (.en<|.st 8<|.ls (kg g N cap m (a)<|m) (mR l c) 272 .no) .no)<|And.intro (wN ((m:Int) - (a:Int))<|m - a)<|ay (((m - a:Nat):Int)=1) (fun h=>show False by omega) fun _=>(And.intro (wN ((b:Int) - (m:Int))<|b - m)<|ay (((b - m:Nat):Int)=1) (fun _=>(show bX (kg g N cap m (a)<|m) (mR l c) (gJ g N cap m (a)<|m) (J (mR l c) 272) from b8)) (fun h=>show False by omega))
theorem UE(mc:Mt [bA k,cb,bx,bz] B)(ha:a<m)(hb:m<b)(hn:b<=1000000)(h0:m≠a+1)(h1:b≠m+1)(h:m>(a+b) / 2)(H:aR B Tryz.f37 l' c (hI g N cap a m b ((a+b) / 2) ((a+b) / 2+m - b)<|(a+b) / 2)<|J (mR l c) 272):aR B Tryz.f37 l' c ⟨37,bG [.slice (some (270,0)) N cap,.int .i64 (a:Int),.int .i64 (m:Int),.int .i64 (b:Int),dK g],(max Tryz.f37.ntmps 5),[.code<|aI Tryz.prog 37 []],[],none⟩<|J (mR l c) 272:=rC mc H (.st 2<|.rg<|.go 2<|.vl (.int .i64 ((m - a:Nat):Int))<|.fk .no<|.en<|.st 4<|.rg<|.go 2<|.vl (.int .i64 ((b - m:Nat):Int))<|.fk .no<|.en<|.st 3<|.rg<|.go 2<|.vl (.int .i64 ((a+b:Nat):Int))<|.vl (.int .u64 ((a+b:Nat):Int))<|.sh<|.vl (.int .i64 (((a+b) / 2:Nat):Int))<|.go 1<|.en<|.st 1<|.rg<|.go 2<|.vl (.int .i64 (((a+b) / 2+m:Nat):Int))<|.go 1<|.en<|.st 4<|.rg<|.go 2<|.fk (.en<|.st 2<|.rg<|.go 2<|.vl (.int .i64 (((a+b) / 2+m - b:Nat):Int))<|.go 1<|.en<|.st 2<|.rg<|.go 1<|.vl (.int .i64 (((a+b) / 2+m - 1:Nat):Int))<|.go 1<|.en<|.st 3<|.ls (gK g N cap a m b ((a+b) / 2) ((a+b) / 2+m - b)<|(a+b) / 2) (mR l c) 272 .no) .no)<|And.intro (wN ((m:Int) - (a:Int))<|m - a)<|ay (((m - a:Nat):Int)=1) (fun h=>show False by omega) fun _=>(And.intro (wN ((b:Int) - (m:Int))<|b - m)<|ay (((b - m:Nat):Int)=1) (fun h=>show False by omega) fun _=>(And.intro (wN ((a:Int)+(b:Int))<|a+b)<|And.intro (hU<|a+b)<|And.intro (show(0:Int)<=1 by decide)<|And.intro (hS<|a+b)<|And.intro (wN ((((a+b) / 2:Nat):Int)+(m:Int))<|(a+b) / 2+m)<|ay ((m:Int)>(((a+b) / 2:Nat):Int)) (fun _=>(And.intro (wN ((((a+b) / 2+m:Nat):Int) - (b:Int))<|(a+b) / 2+m - b)<|And.intro (wN ((((a+b) / 2+m:Nat):Int) - 1)<|(a+b) / 2+m - 1) (show bX (gK g N cap a m b ((a+b) / 2) ((a+b) / 2+m - b)<|(a+b) / 2) (mR l c) (hI g N cap a m b ((a+b) / 2) ((a+b) / 2+m - b)<|(a+b) / 2) (J (mR l c) 272) from b8))) (fun h=>show False by omega)))
theorem UF(mc:Mt [bA k,cb,bx,bz] B)(ha:a<m)(hb:m<b)(hn:b<=1000000)(h0:m≠a+1)(h1:b≠m+1)(h:¬m>(a+b) / 2)(H:aR B Tryz.f37 l' c (hI g N cap a m b ((a+b) / 2) (a)<|m)<|J (mR l c) 272):aR B Tryz.f37 l' c ⟨37,bG [.slice (some (270,0)) N cap,.int .i64 (a:Int),.int .i64 (m:Int),.int .i64 (b:Int),dK g],(max Tryz.f37.ntmps 5),[.code<|aI Tryz.prog 37 []],[],none⟩<|J (mR l c) 272:=rC mc H (.st 2<|.rg<|.go 2<|.vl (.int .i64 ((m - a:Nat):Int))<|.fk .no<|.en<|.st 4<|.rg<|.go 2<|.vl (.int .i64 ((b - m:Nat):Int))<|.fk .no<|.en<|.st 3<|.rg<|.go 2<|.vl (.int .i64 ((a+b:Nat):Int))<|.vl (.int .u64 ((a+b:Nat):Int))<|.sh<|.vl (.int .i64 (((a+b) / 2:Nat):Int))<|.go 1<|.en<|.st 1<|.rg<|.go 2<|.vl (.int .i64 (((a+b) / 2+m:Nat):Int))<|.go 1<|.en<|.st 4<|.rg<|.go 2<|.fk .no<|.en<|.st 5<|.rg<|.go 1<|.vl (.int .i64 (((a+b) / 2+m - 1:Nat):Int))<|.go 1<|.en<|.st 3<|.ls (gK g N cap a m b ((a+b) / 2) (a)<|m) (mR l c) 272 .no)<|And.intro (wN ((m:Int) - (a:Int))<|m - a)<|ay (((m - a:Nat):Int)=1) (fun h=>show False by omega) fun _=>(And.intro (wN ((b:Int) - (m:Int))<|b - m)<|ay (((b - m:Nat):Int)=1) (fun h=>show False by omega) fun _=>(And.intro (wN ((a:Int)+(b:Int))<|a+b)<|And.intro (hU<|a+b)<|And.intro (show(0:Int)<=1 by decide)<|And.intro (hS<|a+b)<|And.intro (wN ((((a+b) / 2:Nat):Int)+(m:Int))<|(a+b) / 2+m)<|ay ((m:Int)>(((a+b) / 2:Nat):Int)) (fun h=>show False by omega) fun _=>(And.intro (wN ((((a+b) / 2+m:Nat):Int) - 1)<|(a+b) / 2+m - 1) (show bX (gK g N cap a m b ((a+b) / 2) (a)<|m) (mR l c) (hI g N cap a m b ((a+b) / 2) (a)<|m) (J (mR l c) 272) from b8))))
theorem aT(mc:Mt [bA k,cb,bx,bz] B)(hC:Cm [bA k,cb,bx,bz] g c n cv)(hr:Rg l n)(hl:N<=1000000)(hN:l.length=N)(ha:a<N)(dp:i<j)(hj:j<=N)(hc:cv (I l<|(i+j) / 2) (I l<|a)<0)(H:aR B Tryz.f37 l' c (gw g N cap a ((i+j) / 2+1) j)<|J (mR l c) 272):aR B Tryz.f37 l' c (gw g N cap a i j)<|J (mR l c) 272:=rC mc H (.st 2<|.rg<|.go 2<|.fk (.en<|.st 4<|.rg<|.go 2<|.vl (.int .i64 ((i+j:Nat):Int))<|.vl (.int .u64 ((i+j:Nat):Int))<|.sh<|.vl (.int .i64 (((i+j) / 2:Nat):Int))<|.go 1<|.en<|.st 1<|.rg<|.go 3<|.ix<|.ld [.int .i64<|I (l)<|(i+j) / 2]<|.go 2<|.ix<|.ld [.int .i64<|I (l)<|a]<|.cg (.int .i64<|cv (I l<|(i+j) / 2)<|I l<|a) cG (cQ c)<|.fk (.en<|.st 1<|.rg<|.go 1<|.vl (.int .i64 (((i+j) / 2+1:Nat):Int))<|.go 1<|.en<|.st 2<|.ls (jL g N cap a ((i+j) / 2+1) j) (mR l c) 272 .no) .no) .no)<|ay ((i:Int)<(j:Int)) (fun _=>(And.intro (wN ((i:Int)+(j:Int))<|i+j)<|And.intro (hU<|i+j)<|And.intro (show(0:Int)<=1 by decide)<|And.intro (hS<|i+j)<|And.intro (show(0:Int)<=(((i+j) / 2:Nat):Int) by omega)<|And.intro (show(((i+j) / 2:Nat):Int)<((N:Nat):Int) by omega)<|And.intro (fP (l:=l) (k:=(i+j) / 2))<|And.intro (show(0:Int)<=((a:Nat):Int) by omega)<|And.intro (show((a:Nat):Int)<((N:Nat):Int) by omega)<|And.intro (fP (l:=l) (k:=a))<|cm (L:=[bA k,cb,bx,bz]) hC (x:=I l<|(i+j) / 2) (y:=I l<|a) (dJ hr<|by omega) (dJ hr<|by omega)<|ay (cv (I l<|(i+j) / 2) (I l<|a)<0) (fun _=>(And.intro (wN ((((i+j) / 2:Nat):Int)+1)<|(i+j) / 2+1) (show bX (jL g N cap a ((i+j) / 2+1) j) (mR l c) (gw g N cap a ((i+j) / 2+1) j) (J (mR l c) 272) from b8))) (fun h=>show False by exact h hc))) (fun h=>show False by omega)
theorem aF(mc:Mt [bA k,cb,bx,bz] B)(hC:Cm [bA k,cb,bx,bz] g c n cv)(hr:Rg l n)(hl:N<=1000000)(hN:l.length=N)(ha:a<N)(dp:i<j)(hj:j<=N)(hc:¬cv (I l<|(i+j) / 2) (I l<|a)<0)(H:aR B Tryz.f37 l' c (gw g N cap a i<|(i+j) / 2)<|J (mR l c) 272):aR B Tryz.f37 l' c (gw g N cap a i j)<|J (mR l c) 272:=rC mc H (.st 2<|.rg<|.go 2<|.fk (.en<|.st 4<|.rg<|.go 2<|.vl (.int .i64 ((i+j:Nat):Int))<|.vl (.int .u64 ((i+j:Nat):Int))<|.sh<|.vl (.int .i64 (((i+j) / 2:Nat):Int))<|.go 1<|.en<|.st 1<|.rg<|.go 3<|.ix<|.ld [.int .i64<|I (l)<|(i+j) / 2]<|.go 2<|.ix<|.ld [.int .i64<|I (l)<|a]<|.cg (.int .i64<|cv (I l<|(i+j) / 2)<|I l<|a) cG (cQ c)<|.fk .no<|.en<|.st 4<|.ls (jL g N cap a i<|(i+j) / 2) (mR l c) 272 .no) .no)<|ay ((i:Int)<(j:Int)) (fun _=>(And.intro (wN ((i:Int)+(j:Int))<|i+j)<|And.intro (hU<|i+j)<|And.intro (show(0:Int)<=1 by decide)<|And.intro (hS<|i+j)<|And.intro (show(0:Int)<=(((i+j) / 2:Nat):Int) by omega)<|And.intro (show(((i+j) / 2:Nat):Int)<((N:Nat):Int) by omega)<|And.intro (fP (l:=l) (k:=(i+j) / 2))<|And.intro (show(0:Int)<=((a:Nat):Int) by omega)<|And.intro (show((a:Nat):Int)<((N:Nat):Int) by omega)<|And.intro (fP (l:=l) (k:=a))<|cm (L:=[bA k,cb,bx,bz]) hC (x:=I l<|(i+j) / 2) (y:=I l<|a) (dJ hr<|by omega) (dJ hr<|by omega)<|ay (cv (I l<|(i+j) / 2) (I l<|a)<0) (fun h=>show False by exact hc h) fun _=>(show bX (jL g N cap a i<|(i+j) / 2) (mR l c) (gw g N cap a i<|(i+j) / 2) (J (mR l c) 272) from b8))) (fun h=>show False by omega)
theorem aE(mc:Mt [bA k,cb,bx,bz] B)(h:j<=i)(H:aR B Tryz.f37 l' c (gg g N cap i<|a)<|J (mR l c) 272):aR B Tryz.f37 l' c (gw g N cap a i j)<|J (mR l c) 272:=rC mc H (.st 2<|.rg<|.go 2<|.fk .no<|.en<|.st 7<|.ls (gf g N cap i<|a) (mR l c) 272 .no)<|ay ((i:Int)<(j:Int)) (fun h=>show False by omega) fun _=>(show bX (gf g N cap i<|a) (mR l c) (gg g N cap i<|a) (J (mR l c) 272) from b8)
theorem uE(mc:Mt [bA k,cb,bx,bz] B)(h:i<=q+1)(h1:1<=i)(hi:i<=1000000):aR B Tryz.f37 l c (gg g N cap i q)<|J (mR l c) 272:=rS mc (.st 2<|.rg<|.go 2<|.vl (.int .i64 ((i - 1:Nat):Int))<|.fk .no<|.en<|.rt 4<|.no)<|And.intro (wN ((i:Int) - 1)<|i - 1)<|ay ((q:Int)<((i - 1:Nat):Int)) (fun h=>show False by omega) fun _=>(show nK l c from oK)
theorem uS(mc:Mt [bA k,cb,bx,bz] B)(hl:N<=1000000)(hN:l.length=N)(h:q+1<i)(hi:i<=N)(H:aR B Tryz.f37 l' c (gg g N cap i<|q+1)<|J (mR (swp l q<|q+1) c) 272):aR B Tryz.f37 l' c (gg g N cap i q)<|J (mR l c) 272:=rC mc H (.st 2<|.rg<|.go 2<|.vl (.int .i64 ((i - 1:Nat):Int))<|.fk (.en<|.st 4<|.rg<|.go 4<|.vl (.int .i64 ((q+1:Nat):Int))<|.go 2<|.vl (.int .i64 ((q+1:Nat):Int))<|.ix<|.ld [.int .i64<|I (l)<|q+1]<|.go 2<|.ix<|.ld [.int .i64<|I (l)<|q]<|.ix<|.lL (aD aw<|(l).set (q)<|I (l)<|q+1)<|.ix<|.lL (aD aw<|swp (l) (q)<|q+1)<|.en<|.st 1<|.rg<|.go 1<|.vl (.int .i64 ((q+1:Nat):Int))<|.go 1<|.en<|.st 1<|.ls (gf g N cap i<|q+1) (mR (swp l q<|q+1) c) 272 .no) .no)<|And.intro (wN ((i:Int) - 1)<|i - 1)<|ay ((q:Int)<((i - 1:Nat):Int)) (fun _=>(And.intro (wN ((q:Int)+1)<|q+1)<|And.intro (wN ((q:Int)+1)<|q+1)<|And.intro (show(0:Int)<=((q+1:Nat):Int) by omega)<|And.intro (show((q+1:Nat):Int)<((N:Nat):Int) by omega)<|And.intro (fP (l:=l) (k:=q+1))<|And.intro (show(0:Int)<=((q:Nat):Int) by omega)<|And.intro (show((q:Nat):Int)<((N:Nat):Int) by omega)<|And.intro (fP (l:=l) (k:=q))<|And.intro (show(0:Int)<=((q:Nat):Int) by omega)<|And.intro (show((q:Nat):Int)<((N:Nat):Int) by omega)<|And.intro (show gA (some<|aD aw<|l) (((q:Nat):Int).toNat*1) [.int .i64<|I (l)<|q+1]=some (aD aw<|(l).set (q)<|I (l)<|q+1) from zf)<|And.intro (show(0:Int)<=((q+1:Nat):Int) by omega)<|And.intro (show((q+1:Nat):Int)<((N:Nat):Int) by omega)<|And.intro (show gA (some<|aD aw<|(l).set (q)<|I (l)<|q+1) (((q+1:Nat):Int).toNat*1) [.int .i64<|I (l)<|q]=some (aD aw<|swp (l) (q)<|q+1) from Br)<|And.intro (wN ((q:Int)+1)<|q+1) (show bX (gf g N cap i<|q+1) (mR (swp l q<|q+1) c) (gg g N cap i<|q+1) (J (mR (swp l q<|q+1) c) 272) from b8))) (fun h=>show False by omega)
theorem bT(mc:Mt [bA k,cb,bx,bz] B)(hC:Cm [bA k,cb,bx,bz] g c n cv)(hr:Rg l n)(hl:N<=1000000)(hN:l.length=N)(hm:m<N)(dp:i<j)(hj:j<=N)(hc:cv (I l<|m) (I l<|(i+j) / 2)<0)(H:aR B Tryz.f37 l' c (gJ g N cap m i<|(i+j) / 2)<|J (mR l c) 272):aR B Tryz.f37 l' c (gJ g N cap m i j)<|J (mR l c) 272:=rC mc H (.st 2<|.rg<|.go 2<|.fk (.en<|.st 4<|.rg<|.go 2<|.vl (.int .i64 ((i+j:Nat):Int))<|.vl (.int .u64 ((i+j:Nat):Int))<|.sh<|.vl (.int .i64 (((i+j) / 2:Nat):Int))<|.go 1<|.en<|.st 1<|.rg<|.go 3<|.ix<|.ld [.int .i64<|I (l)<|m]<|.go 2<|.ix<|.ld [.int .i64<|I (l)<|(i+j) / 2]<|.cg (.int .i64<|cv (I l<|m)<|I l<|(i+j) / 2) cG (cQ c)<|.fk (.go 1<|.en<|.st 4<|.ls (kg g N cap m i<|(i+j) / 2) (mR l c) 272 .no) .no) .no)<|ay ((i:Int)<(j:Int)) (fun _=>(And.intro (wN ((i:Int)+(j:Int))<|i+j)<|And.intro (hU<|i+j)<|And.intro (show(0:Int)<=1 by decide)<|And.intro (hS<|i+j)<|And.intro (show(0:Int)<=((m:Nat):Int) by omega)<|And.intro (show((m:Nat):Int)<((N:Nat):Int) by omega)<|And.intro (fP (l:=l) (k:=m))<|And.intro (show(0:Int)<=(((i+j) / 2:Nat):Int) by omega)<|And.intro (show(((i+j) / 2:Nat):Int)<((N:Nat):Int) by omega)<|And.intro (fP (l:=l) (k:=(i+j) / 2))<|cm (L:=[bA k,cb,bx,bz]) hC (x:=I l<|m) (y:=I l<|(i+j) / 2) (dJ hr<|by omega) (dJ hr<|by omega)<|ay (cv (I l<|m) (I l<|(i+j) / 2)<0) (fun _=>(show bX (kg g N cap m i<|(i+j) / 2) (mR l c) (gJ g N cap m i<|(i+j) / 2) (J (mR l c) 272) from b8)) (fun h=>show False by exact h hc))) (fun h=>show False by omega)
theorem bF(mc:Mt [bA k,cb,bx,bz] B)(hC:Cm [bA k,cb,bx,bz] g c n cv)(hr:Rg l n)(hl:N<=1000000)(hN:l.length=N)(hm:m<N)(dp:i<j)(hj:j<=N)(hc:¬cv (I l<|m) (I l<|(i+j) / 2)<0)(H:aR B Tryz.f37 l' c (gJ g N cap m ((i+j) / 2+1) j)<|J (mR l c) 272):aR B Tryz.f37 l' c (gJ g N cap m i j)<|J (mR l c) 272:=rC mc H (.st 2<|.rg<|.go 2<|.fk (.en<|.st 4<|.rg<|.go 2<|.vl (.int .i64 ((i+j:Nat):Int))<|.vl (.int .u64 ((i+j:Nat):Int))<|.sh<|.vl (.int .i64 (((i+j) / 2:Nat):Int))<|.go 1<|.en<|.st 1<|.rg<|.go 3<|.ix<|.ld [.int .i64<|I (l)<|m]<|.go 2<|.ix<|.ld [.int .i64<|I (l)<|(i+j) / 2]<|.cg (.int .i64<|cv (I l<|m)<|I l<|(i+j) / 2) cG (cQ c)<|.fk .no<|.go 1<|.en<|.st 1<|.rg<|.go 1<|.vl (.int .i64 (((i+j) / 2+1:Nat):Int))<|.go 1<|.en<|.st 2<|.ls (kg g N cap m ((i+j) / 2+1) j) (mR l c) 272 .no) .no)<|ay ((i:Int)<(j:Int)) (fun _=>(And.intro (wN ((i:Int)+(j:Int))<|i+j)<|And.intro (hU<|i+j)<|And.intro (show(0:Int)<=1 by decide)<|And.intro (hS<|i+j)<|And.intro (show(0:Int)<=((m:Nat):Int) by omega)<|And.intro (show((m:Nat):Int)<((N:Nat):Int) by omega)<|And.intro (fP (l:=l) (k:=m))<|And.intro (show(0:Int)<=(((i+j) / 2:Nat):Int) by omega)<|And.intro (show(((i+j) / 2:Nat):Int)<((N:Nat):Int) by omega)<|And.intro (fP (l:=l) (k:=(i+j) / 2))<|cm (L:=[bA k,cb,bx,bz]) hC (x:=I l<|m) (y:=I l<|(i+j) / 2) (dJ hr<|by omega) (dJ hr<|by omega)<|ay (cv (I l<|m) (I l<|(i+j) / 2)<0) (fun h=>show False by exact hc h) fun _=>(And.intro (wN ((((i+j) / 2:Nat):Int)+1)<|(i+j) / 2+1) (show bX (kg g N cap m ((i+j) / 2+1) j) (mR l c) (gJ g N cap m ((i+j) / 2+1) j) (J (mR l c) 272) from b8)))) (fun h=>show False by omega)
theorem bE(mc:Mt [bA k,cb,bx,bz] B)(h:j<=i)(H:aR B Tryz.f37 l' c (g9 g N cap i<|m)<|J (mR l c) 272):aR B Tryz.f37 l' c (gJ g N cap m i j)<|J (mR l c) 272:=rC mc H (.st 2<|.rg<|.go 2<|.fk .no<|.en<|.st 7<|.ls (kh g N cap i<|m) (mR l c) 272 .no)<|ay ((i:Int)<(j:Int)) (fun h=>show False by omega) fun _=>(show bX (kh g N cap i<|m) (mR l c) (g9 g N cap i<|m) (J (mR l c) 272) from b8)
theorem dE(mc:Mt [bA k,cb,bx,bz] B)(h:q<=i):aR B Tryz.f37 l c (g9 g N cap i q)<|J (mR l c) 272:=rS mc (.st 2<|.rg<|.go 2<|.fk .no<|.en<|.rt 4<|.no)<|ay ((q:Int)>(i:Int)) (fun h=>show False by omega) fun _=>(show nK l c from oK)
theorem dS(mc:Mt [bA k,cb,bx,bz] B)(hl:N<=1000000)(hN:l.length=N)(h:i<q)(hi:q<N)(H:aR B Tryz.f37 l' c (g9 g N cap i<|q - 1)<|J (mR (swp l q<|q - 1) c) 272):aR B Tryz.f37 l' c (g9 g N cap i q)<|J (mR l c) 272:=rC mc H (.st 2<|.rg<|.go 2<|.fk (.en<|.st 4<|.rg<|.go 4<|.vl (.int .i64 ((q - 1:Nat):Int))<|.go 2<|.vl (.int .i64 ((q - 1:Nat):Int))<|.ix<|.ld [.int .i64<|I (l)<|q - 1]<|.go 2<|.ix<|.ld [.int .i64<|I (l)<|q]<|.ix<|.lL (aD aw<|(l).set (q)<|I (l)<|q - 1)<|.ix<|.lL (aD aw<|swp (l) (q)<|q - 1)<|.en<|.st 1<|.rg<|.go 1<|.vl (.int .i64 ((q - 1:Nat):Int))<|.go 1<|.en<|.st 1<|.ls (kh g N cap i<|q - 1) (mR (swp l q<|q - 1) c) 272 .no) .no)<|ay ((q:Int)>(i:Int)) (fun _=>(And.intro (wN ((q:Int) - 1)<|q - 1)<|And.intro (wN ((q:Int) - 1)<|q - 1)<|And.intro (show(0:Int)<=((q - 1:Nat):Int) by omega)<|And.intro (show((q - 1:Nat):Int)<((N:Nat):Int) by omega)<|And.intro (fP (l:=l) (k:=q - 1))<|And.intro (show(0:Int)<=((q:Nat):Int) by omega)<|And.intro (show((q:Nat):Int)<((N:Nat):Int) by omega)<|And.intro (fP (l:=l) (k:=q))<|And.intro (show(0:Int)<=((q:Nat):Int) by omega)<|And.intro (show((q:Nat):Int)<((N:Nat):Int) by omega)<|And.intro (show gA (some<|aD aw<|l) (((q:Nat):Int).toNat*1) [.int .i64<|I (l)<|q - 1]=some (aD aw<|(l).set (q)<|I (l)<|q - 1) from zf)<|And.intro (show(0:Int)<=((q - 1:Nat):Int) by omega)<|And.intro (show((q - 1:Nat):Int)<((N:Nat):Int) by omega)<|And.intro (show gA (some<|aD aw<|(l).set (q)<|I (l)<|q - 1) (((q - 1:Nat):Int).toNat*1) [.int .i64<|I (l)<|q]=some (aD aw<|swp (l) (q)<|q - 1) from Br)<|And.intro (wN ((q:Int) - 1)<|q - 1) (show bX (kh g N cap i<|q - 1) (mR (swp l q<|q - 1) c) (g9 g N cap i<|q - 1) (J (mR (swp l q<|q - 1) c) 272) from b8))) (fun h=>show False by omega)
theorem cT(mc:Mt [bA k,cb,bx,bz] B)(hC:Cm [bA k,cb,bx,bz] g c n cv)(hr:Rg l n)(hl:N<=1000000)(hN:l.length=N)(UG:st<r)(h1:r<=N)(h2:(st+r) / 2<=md+m - 1)(h3:md+m - 1 - ((st+r) / 2)<N)(hc:cv (I l<|md+m - 1 - ((st+r) / 2)) (I l<|(st+r) / 2)<0)(H:aR B Tryz.f37 l' c (hI g N cap a m b md st<|(st+r) / 2)<|J (mR l c) 272):aR B Tryz.f37 l' c (hI g N cap a m b md st r)<|J (mR l c) 272:=rC mc H (.st 2<|.rg<|.go 2<|.fk (.en<|.st 4<|.rg<|.go 2<|.vl (.int .i64 ((st+r:Nat):Int))<|.vl (.int .u64 ((st+r:Nat):Int))<|.sh<|.vl (.int .i64 (((st+r) / 2:Nat):Int))<|.go 1<|.en<|.st 1<|.rg<|.go 4<|.vl (.int .i64 ((md+m - 1 - ((st+r) / 2):Nat):Int))<|.ix<|.ld [.int .i64<|I (l)<|md+m - 1 - ((st+r) / 2)]<|.go 2<|.ix<|.ld [.int .i64<|I (l)<|(st+r) / 2]<|.cg (.int .i64<|cv (I l<|md+m - 1 - ((st+r) / 2))<|I l<|(st+r) / 2) cG (cQ c)<|.fk (.go 1<|.en<|.st 4<|.ls (gK g N cap a m b md st<|(st+r) / 2) (mR l c) 272 .no) .no) .no)<|ay ((st:Int)<(r:Int)) (fun _=>(And.intro (wN ((st:Int)+(r:Int))<|st+r)<|And.intro (hU<|st+r)<|And.intro (show(0:Int)<=1 by decide)<|And.intro (hS<|st+r)<|And.intro (wN (((md+m - 1:Nat):Int) - (((st+r) / 2:Nat):Int))<|md+m - 1 - ((st+r) / 2))<|And.intro (show(0:Int)<=((md+m - 1 - ((st+r) / 2):Nat):Int) by omega)<|And.intro (show((md+m - 1 - ((st+r) / 2):Nat):Int)<((N:Nat):Int) by omega)<|And.intro (fP (l:=l) (k:=md+m - 1 - ((st+r) / 2)))<|And.intro (show(0:Int)<=(((st+r) / 2:Nat):Int) by omega)<|And.intro (show(((st+r) / 2:Nat):Int)<((N:Nat):Int) by omega)<|And.intro (fP (l:=l) (k:=(st+r) / 2))<|cm (L:=[bA k,cb,bx,bz]) hC (x:=I l<|md+m - 1 - ((st+r) / 2)) (y:=I l<|(st+r) / 2) (dJ hr<|by omega) (dJ hr<|by omega)<|ay (cv (I l<|md+m - 1 - ((st+r) / 2)) (I l<|(st+r) / 2)<0) (fun _=>(show bX (gK g N cap a m b md st<|(st+r) / 2) (mR l c) (hI g N cap a m b md st<|(st+r) / 2) (J (mR l c) 272) from b8)) (fun h=>show False by exact h hc))) (fun h=>show False by omega)
theorem cF(mc:Mt [bA k,cb,bx,bz] B)(hC:Cm [bA k,cb,bx,bz] g c n cv)(hr:Rg l n)(hl:N<=1000000)(hN:l.length=N)(UG:st<r)(h1:r<=N)(h2:(st+r) / 2<=md+m - 1)(h3:md+m - 1 - ((st+r) / 2)<N)(hc:¬cv (I l<|md+m - 1 - ((st+r) / 2)) (I l<|(st+r) / 2)<0)(H:aR B Tryz.f37 l' c (hI g N cap a m b md ((st+r) / 2+1) r)<|J (mR l c) 272):aR B Tryz.f37 l' c (hI g N cap a m b md st r)<|J (mR l c) 272:=rC mc H (.st 2<|.rg<|.go 2<|.fk (.en<|.st 4<|.rg<|.go 2<|.vl (.int .i64 ((st+r:Nat):Int))<|.vl (.int .u64 ((st+r:Nat):Int))<|.sh<|.vl (.int .i64 (((st+r) / 2:Nat):Int))<|.go 1<|.en<|.st 1<|.rg<|.go 4<|.vl (.int .i64 ((md+m - 1 - ((st+r) / 2):Nat):Int))<|.ix<|.ld [.int .i64<|I (l)<|md+m - 1 - ((st+r) / 2)]<|.go 2<|.ix<|.ld [.int .i64<|I (l)<|(st+r) / 2]<|.cg (.int .i64<|cv (I l<|md+m - 1 - ((st+r) / 2))<|I l<|(st+r) / 2) cG (cQ c)<|.fk .no<|.go 1<|.en<|.st 1<|.rg<|.go 1<|.vl (.int .i64 (((st+r) / 2+1:Nat):Int))<|.go 1<|.en<|.st 2<|.ls (gK g N cap a m b md ((st+r) / 2+1) r) (mR l c) 272 .no) .no)<|ay ((st:Int)<(r:Int)) (fun _=>(And.intro (wN ((st:Int)+(r:Int))<|st+r)<|And.intro (hU<|st+r)<|And.intro (show(0:Int)<=1 by decide)<|And.intro (hS<|st+r)<|And.intro (wN (((md+m - 1:Nat):Int) - (((st+r) / 2:Nat):Int))<|md+m - 1 - ((st+r) / 2))<|And.intro (show(0:Int)<=((md+m - 1 - ((st+r) / 2):Nat):Int) by omega)<|And.intro (show((md+m - 1 - ((st+r) / 2):Nat):Int)<((N:Nat):Int) by omega)<|And.intro (fP (l:=l) (k:=md+m - 1 - ((st+r) / 2)))<|And.intro (show(0:Int)<=(((st+r) / 2:Nat):Int) by omega)<|And.intro (show(((st+r) / 2:Nat):Int)<((N:Nat):Int) by omega)<|And.intro (fP (l:=l) (k:=(st+r) / 2))<|cm (L:=[bA k,cb,bx,bz]) hC (x:=I l<|md+m - 1 - ((st+r) / 2)) (y:=I l<|(st+r) / 2) (dJ hr<|by omega) (dJ hr<|by omega)<|ay (cv (I l<|md+m - 1 - ((st+r) / 2)) (I l<|(st+r) / 2)<0) (fun h=>show False by exact hc h) fun _=>(And.intro (wN ((((st+r) / 2:Nat):Int)+1)<|(st+r) / 2+1) (show bX (gK g N cap a m b md ((st+r) / 2+1) r) (mR l c) (hI g N cap a m b md ((st+r) / 2+1) r) (J (mR l c) 272) from b8)))) (fun h=>show False by omega)
theorem cE(mc:Mt [bA k,cb,bx,bz] B)(h:r<=st)(H:aR B Tryz.f37 l' c (wx g N cap a m b md st)<|J (mR l c) 272):aR B Tryz.f37 l' c (hI g N cap a m b md st r)<|J (mR l c) 272:=rC mc H (.st 2<|.rg<|.go 2<|.fk .no<|.en<|.st 2<|.ls (FR g N cap a m b md st) (mR l c) 272 .no)<|ay ((st:Int)<(r:Int)) (fun h=>show False by omega) fun _=>(show bX (FR g N cap a m b md st) (mR l c) (wx g N cap a m b md st) (J (mR l c) 272) from b8)
theorem p1(mc:Mt [bA k,cb,bx,bz] B)(h0:st<=md+m)(hn:md+m<=2000000)(h:¬st<m)(H:aR B Tryz.f37 l' c (oN g N cap a b md st<|md+m - st)<|J (mR l c) 272):aR B Tryz.f37 l' c (wx g N cap a m b md st)<|J (mR l c) 272:=rC mc H (.st 1<|.rg<|.go 2<|.vl (.int .i64 ((md+m - st:Nat):Int))<|.go 1<|.en<|.st 2<|.rg<|.go 2<|.fk .no<|.go 5<|.en<|.st 2<|.ls (uf g N cap a b md st<|md+m - st) (mR l c) 272 .no)<|And.intro (wN (((md+m:Nat):Int) - (st:Int))<|md+m - st)<|ay ((st:Int)<(m:Int)) (fun h=>show False by omega) fun _=>(show bX (uf g N cap a b md st<|md+m - st) (mR l c) (oN g N cap a b md st<|md+m - st) (J (mR l c) 272) from b8)
theorem p2(mc:Mt [bA k,cb,bx,bz] B)(h0:st<=md+m)(hn:md+m<=2000000)(h1:st<m)(h:¬m<md+m - st)(H:aR B Tryz.f37 l' c (oN g N cap a b md st<|md+m - st)<|J (mR l c) 272):aR B Tryz.f37 l' c (wx g N cap a m b md st)<|J (mR l c) 272:=rC mc H (.st 1<|.rg<|.go 2<|.vl (.int .i64 ((md+m - st:Nat):Int))<|.go 1<|.en<|.st 2<|.rg<|.go 2<|.fk (.go 3<|.fk .no<|.go 1<|.en<|.st 2<|.ls (uf g N cap a b md st<|md+m - st) (mR l c) 272 .no) .no)<|And.intro (wN (((md+m:Nat):Int) - (st:Int))<|md+m - st)<|ay ((st:Int)<(m:Int)) (fun _=>(ay ((m:Int)<((md+m - st:Nat):Int)) (fun h=>show False by omega) fun _=>(show bX (uf g N cap a b md st<|md+m - st) (mR l c) (oN g N cap a b md st<|md+m - st) (J (mR l c) 272) from b8))) (fun h=>show False by omega)
theorem p3(mc:Mt [bA k,cb,bx,bz] B)(h0:st<=md+m)(hn:md+m<=2000000)(hc:c.bO=true)(hl:N<=1000000)(hN:l.length=N)(hb:md+m - st<=N)(h1:st<m)(h2:m<md+m - st)(h:bZ l st m (md+m - st) l1)(H:aR B Tryz.f37 l' c (oN g N cap a b md st<|md+m - st)<|J (mR l1 c) 272):aR B Tryz.f37 l' c (wx g N cap a m b md st)<|J (mR l c) 272:=rC mc H (.st 1<|.rg<|.go 2<|.vl (.int .i64 ((md+m - st:Nat):Int))<|.go 1<|.en<|.st 2<|.rg<|.go 2<|.fk (.go 3<|.fk (.go 1<|.en<|.st 1<|.rg<|.go 5<|.cg (.tuple []) (lG<|l1) (lQ (l) c)<|.en<|.ls (uf g N cap a b md st<|md+m - st) (mR l1 c) 272 .no) .no) .no)<|And.intro (wN (((md+m:Nat):Int) - (st:Int))<|md+m - st)<|ay ((st:Int)<(m:Int)) (fun _=>(ay ((m:Int)<((md+m - st:Nat):Int)) (fun _=>(mQ (L:=[bA k,cb,bx,bz]) (f:=53) (by as_aux_lemma=>kernel_rfl) Bs.bc (N:=N) (cap:=cap) (is:=[((st:Nat):Int),((m:Nat):Int),((md+m - st:Nat):Int)]) (g:=g) hc ⟨N,cap,st,m,md+m - st,g,c,l,l1,rfl,rfl,rfl,rfl,hc,hN,hl,h1,h2,by omega,h⟩ (by omega) h.len (show bX (uf g N cap a b md st<|md+m - st) (mR l1 c) (oN g N cap a b md st<|md+m - st) (J (mR l1 c) 272) from b8))) (fun h=>show False by omega))) (fun h=>show False by omega)
theorem q1(mc:Mt [bA k,cb,bx,bz] B)(h:¬a<st)(H:aR B Tryz.f37 l' c (hJ g N cap b md e)<|J (mR l c) 272):aR B Tryz.f37 l' c (oN g N cap a b md st e)<|J (mR l c) 272:=rC mc H (.st 2<|.rg<|.go 2<|.fk .no<|.go 5<|.en<|.st 2<|.ls (jh g N cap b md e) (mR l c) 272 .no)<|ay ((a:Int)<(st:Int)) (fun h=>show False by omega) fun _=>(show bX (jh g N cap b md e) (mR l c) (hJ g N cap b md e) (J (mR l c) 272) from b8)
theorem q2(mc:Mt [bA k,cb,bx,bz] B)(h1:a<st)(h:¬st<md)(H:aR B Tryz.f37 l' c (hJ g N cap b md e)<|J (mR l c) 272):aR B Tryz.f37 l' c (oN g N cap a b md st e)<|J (mR l c) 272:=rC mc H (.st 2<|.rg<|.go 2<|.fk (.go 3<|.fk .no<|.go 1<|.en<|.st 2<|.ls (jh g N cap b md e) (mR l c) 272 .no) .no)<|ay ((a:Int)<(st:Int)) (fun _=>(ay ((st:Int)<(md:Int)) (fun h=>show False by omega) fun _=>(show bX (jh g N cap b md e) (mR l c) (hJ g N cap b md e) (J (mR l c) 272) from b8))) (fun h=>show False by omega)
theorem q3(mc:Mt [bA k,cb,bx,bz] B)(cN:CI g c n cv)(hr:Rg l n)(hl:N<=1000000)(hN:l.length=N)(h1:a<st)(h2:st<md)(hb:md<=N)(hk:md - a<k)(s1:cq cv l a st)(s2:cq cv l st md)(h:bI cv l a md l1)(H:aR B Tryz.f37 l' c (hJ g N cap b md e)<|J (mR l1 c) 272):aR B Tryz.f37 l' c (oN g N cap a b md st e)<|J (mR l c) 272:=rC mc H (.st 2<|.rg<|.go 2<|.fk (.go 3<|.fk (.go 1<|.en<|.st 1<|.rg<|.go 5<|.cg (.tuple []) (lG<|l1) (lQ (l) c)<|.en<|.ls (jh g N cap b md e) (mR l1 c) 272 .no) .no) .no)<|ay ((a:Int)<(st:Int)) (fun _=>(ay ((st:Int)<(md:Int)) (fun _=>(mQ (L:=[bA k,cb,bx,bz]) (f:=37) (by as_aux_lemma=>kernel_rfl) (tA.bc k) (N:=N) (cap:=cap) (is:=[((a:Nat):Int),((st:Nat):Int),((md:Nat):Int)]) (g:=g) cN.hi ⟨N,cap,a,st,md,g,c,n,cv,l,l1,rfl,rfl,rfl,rfl,cN,hr,hN,hl,h1,h2,hb,hk,s1,s2,h⟩ (by omega) h.len (show bX (jh g N cap b md e) (mR l1 c) (hJ g N cap b md e) (J (mR l1 c) 272) from b8))) (fun h=>show False by omega))) (fun h=>show False by omega)
theorem r1(mc:Mt [bA k,cb,bx,bz] B)(h:¬md<e):aR B Tryz.f37 l c (hJ g N cap b md e)<|J (mR l c) 272:=rS mc (.st 1<|.rg<|.go 2<|.fk .no<|.go 5<|.en<|.rt 4<|.no)<|ay ((md:Int)<(e:Int)) (fun h=>show False by omega) fun _=>(show nK l c from oK)
theorem r2(mc:Mt [bA k,cb,bx,bz] B)(h1:md<e)(h:¬e<b):aR B Tryz.f37 l c (hJ g N cap b md e)<|J (mR l c) 272:=rS mc (.st 1<|.rg<|.go 2<|.fk (.go 3<|.fk .no<|.go 1<|.en<|.rt 4<|.no) .no)<|ay ((md:Int)<(e:Int)) (fun _=>(ay ((e:Int)<(b:Int)) (fun h=>show False by omega) fun _=>(show nK l c from oK))) (fun h=>show False by omega)
theorem r3(mc:Mt [bA k,cb,bx,bz] B)(cN:CI g c n cv)(hr:Rg l n)(hl:N<=1000000)(hN:l.length=N)(h1:md<e)(h2:e<b)(hb:b<=N)(hk:b - md<k)(s1:cq cv l md e)(s2:cq cv l e b)(h:bI cv l md b l1):aR B Tryz.f37 l1 c (hJ g N cap b md e)<|J (mR l c) 272:=rS mc (.st 1<|.rg<|.go 2<|.fk (.go 3<|.fk (.go 1<|.en<|.st 1<|.rg<|.go 5<|.cg (.tuple []) (lG<|l1) (lQ (l) c)<|.en<|.rt 2<|.no) .no) .no)<|ay ((md:Int)<(e:Int)) (fun _=>(ay ((e:Int)<(b:Int)) (fun _=>(mQ (L:=[bA k,cb,bx,bz]) (f:=37) (by as_aux_lemma=>kernel_rfl) (tA.bc k) (N:=N) (cap:=cap) (is:=[((md:Nat):Int),((e:Nat):Int),((b:Nat):Int)]) (g:=g) cN.hi ⟨N,cap,md,e,b,g,c,n,cv,l,l1,rfl,rfl,rfl,rfl,cN,hr,hN,hl,h1,h2,hb,hk,s1,s2,h⟩ (by omega) h.len (show nK l1 c from oK))) (fun h=>show False by omega))) (fun h=>show False by omega)
end
end tz
end
section
open Go Go.Rn Go.RowKit Go.Proofs
namespace xS
open dx dG ep eV jX vU tz
section
variable {B:aH} {g:FuncId} {c:AV} {n:Int->Prop} {cv:Int->Int->Int} {k N a m b:Nat} {cap:aZ} {l0 l':List Int}
theorem Kc(mc:Mt [bA k,cb,bx,bz] B)(hl:N<=1000000)(hN:l0.length=N){i:Nat}(hi:i<=N)(h':bZ l0 a (a+1) i l'):∀(r q:Nat) (l:List Int),i - (q+1)=r->a<=q->q+1<=i->bZ l0 a (a+1) (q+1) l->aR B Tryz.f37 l' c (gg g N cap i q) (J (mR l c) 272)
 |0,q,l,h,h1,h2,h3=>by
  obtain rfl:i=q+1:=by omega
  rw[h'.bc h3];exact uE mc (by omega) (by omega) (by omega)
 |r+1,q,l,h,h1,h2,h3=>by have e:=h3.len;exact uS mc hl (by omega) (by omega) hi (Kc mc hl hN hi h' r (q+1) _ (by omega) (by omega) (by omega)<|h3.up h1<|by omega)
theorem Ja(mc:Mt [bA k,cb,bx,bz] B)(hl:N<=1000000)(hN:l0.length=N)(hm:m<N){i:Nat}(h':bZ l0 i m (m+1) l'):∀(r q:Nat) (l:List Int),q - i=r->i<=q->q<=m->bZ l0 q m (m+1) l->aR B Tryz.f37 l' c (g9 g N cap i q) (J (mR l c) 272)
 |0,q,l,h,h1,h2,h3=>by
  obtain rfl:i=q:=by omega
  rw[h'.bc h3];exact dE mc (by omega)
 |r+1,q,l,h,h1,h2,h3=>by have e:=h3.len;have hd:=bZ.down (l:=l0) (l':=l) (k:=q - 1) (m:=m) (by rw[show q - 1+1=q by omega];exact h3) (by omega) (by omega);rw[show q - 1+1=q by omega] at hd;exact dS mc hl (by omega) (by omega) (by omega)<|Ja mc hl hN hm h' r (q - 1) _ (by omega) (by omega) (by omega) hd
def pA(cv:Int->Int->Int)(l:List Int)(a h:Nat):Bool:=decide<|cv (I l h) (I l a)<0
def pB(cv:Int->Int->Int)(l:List Int)(m h:Nat):Bool:= !decide (cv (I l m) (I l h)<0)
theorem tB(mc:Mt [bA k,cb,bx,bz] B)(hC:Cm [bA k,cb,bx,bz] g c n cv){l:List Int}(hr:Rg l n)(hl:N<=1000000)(hN:l.length=N)(ha:a<N):∀(f i j:Nat),j - i<=f->j<=N->aR B Tryz.f37 l' c (gg g N cap (iL (pA cv l a) f i j) a) (J (mR l c) 272)->aR B Tryz.f37 l' c (gw g N cap a i j) (J (mR l c) 272)
 |0,i,j,h,hj,H=>aE mc (by omega) H
 |f+1,i,j,h,hj,H=>by
  unfold iL at H;by_cases q:i<j
  ·rw[if_pos q] at H;by_cases q2:cv (I l<|(i+j) / 2) (I l a)<0
   ·rw[show pA cv l a ((i+j) / 2)=true from decide_eq_true q2,if_pos rfl] at H;exact aT mc hC hr hl hN ha q hj q2<|tB mc hC hr hl hN ha f _ j (by omega) hj H
   ·rw[show pA cv l a ((i+j) / 2)=false from decide_eq_false q2,if_neg (by intro h;cases h)] at H;exact aF mc hC hr hl hN ha q hj q2<|tB mc hC hr hl hN ha f i _ (by omega) (by omega) H
  ·rw[if_neg q] at H;exact aE mc (by omega) H
theorem vW(mc:Mt [bA k,cb,bx,bz] B)(hC:Cm [bA k,cb,bx,bz] g c n cv){l:List Int}(hr:Rg l n)(hl:N<=1000000)(hN:l.length=N)(hm:m<N):∀(f i j:Nat),j - i<=f->j<=N->aR B Tryz.f37 l' c (g9 g N cap (iL (pB cv l m) f i j) m) (J (mR l c) 272)->aR B Tryz.f37 l' c (gJ g N cap m i j) (J (mR l c) 272)
 |0,i,j,h,hj,H=>bE mc (by omega) H
 |f+1,i,j,h,hj,H=>by
  unfold iL at H;by_cases q:i<j
  ·rw[if_pos q] at H;by_cases q2:cv (I l m) (I l<|(i+j) / 2)<0
   ·rw[show pB cv l m ((i+j) / 2)=false by unfold pB;rw[decide_eq_true q2];rfl,if_neg (by intro h;cases h)] at H;exact bT mc hC hr hl hN hm q hj q2<|vW mc hC hr hl hN hm f i _ (by omega) (by omega) H
   ·rw[show pB cv l m ((i+j) / 2)=true by unfold pB;rw[decide_eq_false q2];rfl,if_pos rfl] at H;exact bF mc hC hr hl hN hm q hj q2<|vW mc hC hr hl hN hm f _ j (by omega) hj H
  ·rw[if_neg q] at H;exact bE mc (by omega) H
theorem ET(mc:Mt [bA k,cb,bx,bz] B)(hC:Cm [bA k,cb,bx,bz] g c n cv){l:List Int}{md:Nat}(hr:Rg l n)(hl:N<=1000000)(hN:l.length=N):∀(f i j:Nat),j - i<=f->j<=N->(∀h,i<=h->h<j->h<=md+m - 1/\md+m - 1 - h<N)->aR B Tryz.f37 l' c (wx g N cap a m b md<|iL (lC cv l<|md+m - 1) f i j) (J (mR l c) 272)->aR B Tryz.f37 l' c (hI g N cap a m b md i j) (J (mR l c) 272)
 |0,i,j,h,hj,hh,H=>cE mc (by omega) H
 |f+1,i,j,h,hj,hh,H=>by
  unfold iL at H;by_cases q:i<j
  ·rw[if_pos q] at H;obtain⟨k1,k2⟩:=hh ((i+j) / 2) (by omega) (by omega);by_cases q2:cv (I l<|md+m - 1 - (i+j) / 2) (I l<|(i+j) / 2)<0
   ·rw[show lC cv l (md+m - 1) ((i+j) / 2)=false by unfold lC;rw[decide_eq_true q2];rfl,if_neg (by intro h;cases h)] at H;exact cT mc hC hr hl hN q hj k1 k2 q2<|ET mc hC hr hl hN f i _ (by omega) (by omega) (fun h a1 a2=>hh h a1<|by omega) H
   ·rw[show lC cv l (md+m - 1) ((i+j) / 2)=true by unfold lC;rw[decide_eq_false q2];rfl,if_pos rfl] at H;exact cF mc hC hr hl hN q hj k1 k2 q2<|ET mc hC hr hl hN f _ j (by omega) hj (fun h a1 a2=>hh h (by omega) a2) H
  ·rw[if_neg q] at H;exact cE mc (by omega) H
end
section
variable {B:aH} {g:FuncId} {c:AV} {n:Int->Prop} {cv:Int->Int->Int} {k N a m b:Nat} {cap:aZ} {l l':List Int}
theorem bI.ex(o:Ord cv n)(hr:Rg l n):∀{b:Nat},a<=b->b<=l.length->∃l',bI cv l a b l'
 |0,h1,h2=>⟨l,bI.refl fun i j k1 k2 k3=>by omega⟩
 |b+1,h1,h2=>by
  by_cases q:a=b+1
  ·exact⟨l,bI.refl fun i j k1 k2 k3=>by omega⟩
  obtain⟨l1,h⟩:=bI.ex o hr (b:=b) (by omega) (by omega);have e:=h.len;have j8:=hr.perm h.pm;have mono:∀x y,a<=x->x<y->y<b->pB cv l1 b y=true->pB cv l1 b x=true:=fun x y k1 k2 k3 k4=>by
   have k4:Lq cv (I l1 y)<|I l1 b:=by simpa[pB] using k4
   have:=Lq.oJ o j8 (by omega) (by omega) (by omega) (h.lM x y k1 k2 k3) k4;simpa[pB] using this
  obtain⟨r1,r2,r3,r4⟩:=uK mono (b - a) a b (Nat.le_refl _) (by omega) (Nat.le_refl _) (Nat.le_refl _) (fun k h1 h2=>by omega) (fun k h1 h2=>by omega);obtain⟨l2,kP⟩:=bZ.ex (l:=l1) (a:=iL (pB cv l1 b) (b - a) a b) (m:=b) (b:=b+1) (by omega) (by omega) (by omega);have:=Aw o j8 (by omega) r1 r2 h.lM (fun k k1 k2=>by have:=r3 k k1 k2;simpa[pB] using this) (fun k k1 k2=>by have:=r4 k k1 k2;exact Lq.of o (dJ j8<|by omega) (dJ j8<|by omega)<|by simpa[pB] using this) kP;exact⟨l2,this.pm.trans h.pm,fun i hi=>by rw[this.out i hi,h.out i<|by omega],this.lM⟩
theorem QZ(mc:Mt [bA k,cb,bx,bz] B)(cN:CI g c n cv)(hr:Rg l n)(hl:N<=1000000)(hN:l.length=N)(ha:a<m)(hb:m<b)(LC:b<=N)(hk:b - a<k+1)(sA:cq cv l a m)(sB:cq cv l m b)(h':bI cv l a b l'):
    aR B Tryz.f37 l' c ⟨37,bG [.slice (some (270,0)) N cap,.int .i64 (a:Int),.int .i64 (m:Int),.int .i64 (b:Int),dK g],(max Tryz.f37.ntmps 5),[.code<|aI Tryz.prog 37 []],[],none⟩ (J (mR l c) 272):=by
  have o:=cN.ord
  have hC:Cm [bA k,cb,bx,bz] g c n cv:=cN.cm (by as_aux_lemma=>kernel_rfl) (by as_aux_lemma=>kernel_rfl)
  have fin:∀l2,bI cv l a b l2->l'=l2:=fun l2 h=>h'.bc o hr (by omega) (by omega) h
  by_cases qa:m=a+1
  · 
    subst qa
    have mono:∀x y,a+1<=x->x<y->y<b->pA cv l a y=true->pA cv l a x=true:=fun x y k1 k2 k3 k4=>by
      have k4:cv (I l y) (I l a)<0:=by simpa[pA] using k4
      have k5:cv (I l x) (I l a)<0:=Classical.byContradiction fun q=>by
        have:=Lq.oJ o hr (i:=a) (j:=x) (k:=y) (by omega) (by omega) (by omega) q<|sB x y k1 k2 k3
        exact this k4
      simpa[pA] using k5
    obtain⟨r1,r2,r3,r4⟩:=uK mono (b - (a+1)) (a+1) b (Nat.le_refl _) (by omega) (Nat.le_refl _) (Nat.le_refl _) (fun k h1 h2=>by omega) (fun k h1 h2=>by omega)
    obtain⟨l2,h2⟩:=bZ.ex (l:=l) (a:=a) (m:=a+1) (b:=iL (pA cv l a) (b - (a+1)) (a+1) b) (by omega) r1 (by omega)
    have h3:=P1 o hr (by omega) r1 r2 sB (fun k k1 k2=>Lq.of o (dJ hr<|by omega) (dJ hr<|by omega) (by have:=r3 k k1 k2;simpa[pA] using this)) (fun k k1 k2=>by have:=r4 k k1 k2;simpa[pA] using this) h2
    rw[fin l2 h3]
    exact wA mc ha hb (by omega) rfl<|tB mc hC hr hl hN (by omega) (b - (a+1)) (a+1) b (Nat.le_refl _) LC<|Kc mc hl hN (by omega) h2 _ a l rfl (Nat.le_refl _) r1<|bZ.J7 l a<|a+1
  by_cases qb:b=m+1
  · subst qb
    have mono:∀x y,a<=x->x<y->y<m->pB cv l m y=true->pB cv l m x=true:=fun x y k1 k2 k3 k4=>by
      have k4:Lq cv (I l y)<|I l m:=by simpa[pB] using k4
      have:=Lq.oJ o hr (by omega) (by omega) (by omega) (sA x y k1 k2 k3) k4
      simpa[pB] using this
    obtain⟨r1,r2,r3,r4⟩:=uK mono (m - a) a m (Nat.le_refl _) (by omega) (Nat.le_refl _) (Nat.le_refl _) (fun k h1 h2=>by omega) (fun k h1 h2=>by omega)
    obtain⟨l2,h2⟩:=bZ.ex (l:=l) (a:=iL (pB cv l m) (m - a) a m) (m:=m) (b:=m+1) r2 (by omega) (by omega)
    have h3:=Aw o hr (by omega) r1 r2 sA (fun k k1 k2=>by have:=r3 k k1 k2;simpa[pB] using this) (fun k k1 k2=>by
      have:=r4 k k1 k2
      exact Lq.of o (dJ hr<|by omega) (dJ hr<|by omega)<|by simpa[pB] using this) h2
    rw[fin l2 h3]
    exact wB mc ha hb (by omega) qa rfl<|vW mc hC hr hl hN (by omega) (m - a) a m (Nat.le_refl _) (by omega)<|Ja mc hl hN (by omega) h2 _ m l rfl r2 (Nat.le_refl _)<|bZ.Ep l m<|m+1
  have key:∀lo hi:Nat,lo=(if m>(a+b) / 2 then(a+b) / 2+m - b else a)->hi=(if m>(a+b) / 2 then(a+b) / 2 else m)->aR B Tryz.f37 l' c (hI g N cap a m b ((a+b) / 2) lo hi) (J (mR l c) 272):=by
    intro lo hi cx gv
    have C:=QT (md:=(a+b) / 2) (lo:=lo) (hi:=hi) (f:=hi - lo) o hr ha hb (by omega) sA sB rfl cx gv (Nat.le_refl _) rfl
    have UH:=C
    obtain⟨c1,c2,c3,c4,c5,_,_⟩:=UH
    have pR:lo<=hi/\hi<=N/\∀h,lo<=h->h<hi->h<=(a+b) / 2+m - 1/\(a+b) / 2+m - 1 - h<N:=by
      by_cases q:m>(a+b) / 2
      · rw[if_pos q] at cx gv;exact⟨by omega,by omega,fun h k1 k2=>⟨by omega,by omega⟩⟩
      · rw[if_neg q] at cx gv;exact⟨by omega,by omega,fun h k1 k2=>⟨by omega,by omega⟩⟩
    refine ET mc hC hr hl hN (hi - lo) lo hi (Nat.le_refl _) pR.2.1 pR.2.2 ?_
    generalize jG:iL (lC cv l<|(a+b) / 2+m - 1) (hi - lo) lo hi=st at*
    generalize Ud:(a+b) / 2=md at*
    have hq :∀l1,bZ l st m (md+m - st) l1->aR B Tryz.f37 l' c (oN g N cap a b md st<|md+m - st) (J (mR l1 c) 272):=by
      intro l1 h1
      have e1:=h1.len
      have j8:=hr.perm h1.pm
      obtain⟨t1,t2,t3,t4,t5,t6⟩:=P2 o hr (by omega) (by omega) sA sB C h1
      have FT:∀l2,bI cv l1 a md l2->aR B Tryz.f37 l' c (hJ g N cap b md<|md+m - st) (J (mR l2 c) 272):=by
        intro l2 h2
        have e2:=h2.len
        have yP:=j8.perm h2.pm
        have u3:=cq.other t3 h2<|.inr<|Nat.le_refl _
        have u4:=cq.other t4 h2 (.inr<|by omega)
        have done:∀l3,bI cv l2 md b l3->l'=l3:=fun l3 h3=>fin l3<|P3 (by omega) (by omega) (by omega) h1.pm t6 t5 h2 h3
        by_cases q1:md<md+m - st
        · by_cases q2:md+m - st<b
          · obtain⟨l3,h3⟩:=bI.ex (a:=md) (b:=b) cN.ord yP (by omega) (by omega)
            rw[done l3 h3]
            exact r3 mc cN yP hl (by omega) q1 q2 LC (by omega) u3 u4 h3
          · rw[done l2<|bI.refl fun i j k1 k2 k3=>u3 i j k1 k2<|by omega]
            exact r2 mc q1 q2
        · rw[done l2<|bI.refl fun i j k1 k2 k3=>u4 i j (by omega) k2 k3]
          exact r1 mc q1
      by_cases q1:a<st
      · by_cases q2:st<md
        · obtain⟨l2,h2⟩:=bI.ex (a:=a) (b:=md) cN.ord j8 (by omega) (by omega)
          exact q3 mc cN j8 hl (by omega) q1 q2 (by omega) (by omega) t1 t2 h2<|FT l2 h2
        · exact tz.q2 mc q1 q2 (FT l1<|bI.refl fun i j k1 k2 k3=>t1 i j k1 k2<|by omega)
      · exact tz.q1 mc q1<|FT l1<|bI.refl fun i j k1 k2 k3=>t2 i j (by omega) k2 k3
    by_cases q1:st<m
    · by_cases q2:m<md+m - st
      · obtain⟨l1,h1⟩:=bZ.ex (l:=l) (a:=st) (m:=m) (b:=md+m - st) (by omega) (by omega) (by omega)
        exact p3 mc (by omega) (by omega) cN.hi hl hN (by omega) q1 q2 h1<|hq l1 h1
      · refine p2 mc (by omega) (by omega) q1 q2 (hq l ?_)
        rw[show md+m - st=m by omega];exact bZ.J7 l st m
    · refine p1 mc (by omega) (by omega) q1 (hq l ?_)
      rw[show st=m by omega];exact bZ.Ep l m _
  by_cases q:m>(a+b) / 2
  · exact UE mc ha hb (by omega) qa qb q (key _ _ (by rw[if_pos q])<|by rw[if_pos q])
  · exact UF mc ha hb (by omega) qa qb q (key _ _ (by rw[if_neg q])<|by rw[if_neg q])
end
theorem Jb(hP:du Tryz.prog):∀(k:Nat) {L:bY} (h:cJ L),cJ (bA k::L)
 |0,L,h=>by refine mf hP h gO Tryz.func37 fun args ax y c e=>?_;obtain⟨N,cap,a,m,b,g,cc,n,cv,l,l',_,_,_,_,_,_,_,_,_,_,_,hk,_⟩:=e;omega
 |k+1,L,h=>by refine mf hP h (Jb hP k<|P8 hP<|JD hP<|JE hP gO) Tryz.func37 fun args ax y c e=>?_;obtain⟨N,cap,a,m,b,g,cc,n,cv,l,l',rfl,rfl,rfl,rfl,hc,hr,hN,hl,h1,h2,h3,hk,sA,sB,h⟩:=e;exact⟨aK.1 (by kernel_rfl),fun B mc=>tc<|QZ mc hc hr hl hN h1 h2 h3 hk sA sB h⟩
end xS
end
section
open Go Go.Rn Go.RowKit Go.Proofs
namespace tC
open dx dG ep eV jX vU Bt tz xS
noncomputable abbrev ny(g:FuncId):AV:=.func (.func g) [] [.ptr<|some (270,0)]
noncomputable abbrev vD(is:List Int)(g:FuncId):List AV:=.slice none 0 (.known 0)::(is.map (AV.int .i64)++[ny g])
def hQ(R:LR)(is:List Int):LR:=fun args ax y c=>R args ax y c\/∃(g:FuncId) (cc:AV),cc.bO=true/\args=vD is g/\ax=[[cc]]/\y= .tuple []/\c=none
theorem hQ.bc{R:LR}{is:List Int}(hd:jD R)(h2:∀args ax y c,R args ax y c->ax.length=2):jD<|hQ R is:=fun args ax y y' c c' h h'=>by
 rcases h with h|⟨g,cc,_,_,rfl,rfl,rfl⟩
 ·rcases h' with h'|⟨g,cc,_,_,rfl,rfl,rfl⟩
  ·exact hd _ _ _ _ _ _ h h'
  ·have:=h2 _ _ _ _ h;cases this
 ·rcases h' with h'|⟨g,cc,_,_,_,rfl,rfl⟩
  ·have:=h2 _ _ _ _ h';cases this
  ·exact⟨rfl,rfl⟩
theorem Po(g:FuncId)(is:List Int):cY (vD is g)=[270]:=by
 have h:∀is:List Int,cY (is.map (AV.int .i64)++[ny g])=[270]:=fun is=>by
  induction is with
  |nil=>rfl
  |cons x is ih=>exact ih
 exact h is
theorem Pp(g:FuncId)(is:List Int):(vD is g).all gb=true:=by
 have h:∀is:List Int,(is.map (AV.int .i64)++[ny g]).all gb=true:=fun is=>by
  induction is with
  |nil=>show(gb (ny g)&&true)=true;kernel_rfl
  |cons x is ih=>rw[List.map_cons,List.cons_append,List.all_cons,ih];rfl
 show(gb (.slice none 0<|.known 0)&&(is.map (AV.int .i64)++[ny g]).all gb)=true;rw[h];kernel_rfl
theorem Pq(g:FuncId)(is:List Int):(vD is g).map (je fun n=>270+jB [270] n)=vD is g:=by
 have h:∀is:List Int,(is.map (AV.int .i64)++[ny g]).map (je fun n=>270+jB [270] n)=is.map (AV.int .i64)++[ny g]:=fun is=>by
  induction is with
  |nil=>rfl
  |cons x is ih=>rw[List.map_cons,List.cons_append,List.map_cons,ih];rfl
 show je _ (.slice none 0<|.known 0)::(is.map (AV.int .i64)++[ny g]).map _=_;rw[h];rfl
noncomputable abbrev nQ(c:AV):AS->Prop:=qK 270 dy ed [270] [[c]]
noncomputable abbrev nG:AS->AS:=xQ 270 dy ed [270]
abbrev NQ(c:AV):Prop:=true=true/\(true=true/\some (ak [c])=some (ak [c]))/\True
theorem xf{L:bY}{f:FuncId}{R:LR}{is:List Int}(hs:sp L f=some (eH (vL<|hQ R is) 270 ed dy))(hd:jD<|hQ R is){g:FuncId}{c:AV}{T:Prop}(hc:c.bO=true)(t:T):
 (∀z,nQ c z->br Tryz.prog (sp L) FU 6 (.fn f) (vD is g) z= .ok (.tuple []) (nG z))/\NQ c/\T:=by
 refine⟨?_,⟨rfl,⟨rfl,rfl⟩,trivial⟩,t⟩;refine xA (n:=5) (N:=[270]) hs (Po g is) ?_ (by decide) rfl (by kernel_rfl) ?_ ?_ rfl
 ·rw[Pp];rfl
 ·show(((c.bO&&true)&&Nat.ble 1 top)&&true)=true;rw[hc,aK.2 (show 1<=top by unfold top;omega)];rfl
 ·rw[Pq];exact td hd<|.inr ⟨g,c,hc,rfl,rfl,rfl,rfl⟩
abbrev FV(c:AV):Prop:=AV.tuple []=AV.tuple []/\some (ak [c])=some (ak [c])
abbrev RN(c:AV)(v:AV)(s:AS):Prop:=v= .tuple []/\s.h.get 270=some (ak [c])
theorem kK.two(args:List AV)(ax:List<|List AV)(y:AV)(c:Option<|List AV)(h:kK args ax y c):ax.length=2:=by obtain⟨N,cap,a,b,g,cc,n,cv,l,l',_,rfl,_⟩:=h;rfl
noncomputable def ib:FuncId×KE:=(36,.raw<|eH<|vL<|hQ kK [0,0])
theorem UI{B:aH}{g:FuncId}{c:AV}(mc:Mt [bx,bz] B):bw Tryz.prog B 271 (Fin Tryz.prog Tryz.f36.results.toList<|RN c) ⟨36,bG [.slice none 0<|.known 0,.int .i64 0,.int .i64 0,ny g],(max Tryz.f36.ntmps 4),[.code<|aI Tryz.prog 36 []],[],none⟩<|J (mB c) 271:=oH mc (L:=[bx,bz]) (R:=RN c) (.rt 11<|.no) (show FV c from⟨rfl,rfl⟩)
theorem Ps(hP:du Tryz.prog){L:bY}(h:cJ L):cJ<|ib::L:=by
 refine mf hP h (JD hP<|JE hP gO) Tryz.func36 fun args ax y c e=>?_;rcases e with e|⟨g,cc,hc,rfl,rfl,rfl,rfl⟩
 ·obtain⟨N,cap,a,b,g,cc,n,cv,l,l',rfl,rfl,rfl,rfl,hc,hr,hN,hl,h1,h2,h⟩:=e;exact⟨aK.1 (by kernel_rfl),fun B mc=>tc<|QY mc hc hr hN hl h1 h2 h⟩
 ·exact⟨aK.1 (by kernel_rfl),fun B mc=>tb<|UI mc⟩
theorem UJ{B:aH}{g:FuncId}{c:AV}(mc:Mt [bA 1000001,ib] B)(hc:c.bO=true):bw Tryz.prog B 271 (Fin Tryz.prog Tryz.f28.results.toList<|RN c) ⟨28,bG [.slice none 0<|.known 0,.int .i64 0,ny g],(max Tryz.f28.ntmps 3),[.code<|aI Tryz.prog 28 []],[],none⟩<|J (mB c) 271:=oH mc (L:=[bA 1000001,ib]) (R:=RN c) (.st 13<|.rg<|.go 4<|.cg (.tuple []) nG (nQ c)<|.en<|.rt 9<|.no)<|xf (L:=[bA 1000001,ib]) (f:=36) (R:=kK) (is:=[0,0]) (by as_aux_lemma=>kernel_rfl) (hQ.bc kK.bc kK.two) (g:=g) hc (show FV c from⟨rfl,rfl⟩)
noncomputable def gZ(g:FuncId)(N:Nat)(cap:aZ)(p bs a b:Nat):List<|Nat×AV:=[(0,.slice (some (270,0)) N cap),(1,.int .i64 (p:Int)),(2,dK g),(6,.int .i64 (bs:Int)),(7,.int .i64 (a:Int)),(8,.int .i64 (b:Int))]
noncomputable def KS:List Item:=[.code<|aI Tryz.prog 28 [1,1,0,0,0],.inLoop<|aI Tryz.prog 28 [1,1,0,0,0],.inBlock 0,.code<|aI Tryz.prog 28 [1,1,1]]
noncomputable def eC(g:FuncId)(N:Nat)(cap:aZ)(p bs a b:Nat):AF:=⟨28,cj<|gZ g N cap p bs a b,(max Tryz.f28.ntmps 3),KS,[],none⟩
noncomputable def gd(g:FuncId)(N:Nat)(cap:aZ)(p bs:Nat):List<|Nat×AV:=[(0,.slice (some (270,0)) N cap),(1,.int .i64 (p:Int)),(2,dK g),(6,.int .i64 (bs:Int))]
noncomputable def KT:List Item:=[.code<|aI Tryz.prog 28 [1,1,1,1,0,0],.inLoop<|aI Tryz.prog 28 [1,1,1,1,0,0],.inBlock 2]
noncomputable def dV(g:FuncId)(N:Nat)(cap:aZ)(p bs:Nat):AF:=⟨28,cj<|gd g N cap p bs,(max Tryz.f28.ntmps 3),KT,[],none⟩
noncomputable def zo(g:FuncId)(N:Nat)(cap:aZ)(p bs a b:Nat):List<|Nat×AV:=[(0,.slice (some (270,0)) N cap),(1,.int .i64 (p:Int)),(2,dK g),(6,.int .i64 (bs:Int)),(7,.int .i64 (a:Int)),(8,.int .i64 (b:Int))]
noncomputable def KV:List Item:=[.code<|aI Tryz.prog 28 [1,1,1,1,0,0,1,0,1,0,0,0],.inLoop<|aI Tryz.prog 28 [1,1,1,1,0,0,1,0,1,0,0,0],.inBlock 4,.code<|aI Tryz.prog 28 [1,1,1,1,0,0,1,0,1,1],.inBlock 3,.inLoop<|aI Tryz.prog 28 [1,1,1,1,0,0],.inBlock 2]
noncomputable def rz(g:FuncId)(N:Nat)(cap:aZ)(p bs a b:Nat):AF:=⟨28,cj<|zo g N cap p bs a b,(max Tryz.f28.ntmps 3),KV,[],none⟩
section
variable {B:aH} {g:FuncId} {c:AV} {n:Int->Prop} {cv:Int->Int->Int} {N p bs a b:Nat} {cap:aZ} {l l' l1:List Int}
theorem w0(mc:Mt [bA 1000001,ib] B)(H:aR B Tryz.f28 l' c (eC g N cap p (20) (0)<|20)<|J (mR l c) 272):aR B Tryz.f28 l' c ⟨28,bG [.slice (some (270,0)) N cap,.int .i64 (p:Int),dK g],(max Tryz.f28.ntmps 3),[.code<|aI Tryz.prog 28 []],[],none⟩<|J (mR l c) 272:=rC mc H (.st 7<|.ls (gZ g N cap p (20) (0)<|20) (mR l c) 272 .no) (show bX (gZ g N cap p (20) (0)<|20) (mR l c) (eC g N cap p (20) (0)<|20) (J (mR l c) 272) from b8)
theorem s1(mc:Mt [bA 1000001,ib] B)(cN:CI g c n cv)(hr:Rg l n)(hl:N<=1000000)(hN:l.length=N)(hb:b<=p)(hp:p<=N)(pX:bs<=2000000)(h1:a<=b)(h2:b<=N)(h:bI cv l a b l1)(H:aR B Tryz.f28 l' c (eC g N cap p bs (b)<|b+bs)<|J (mR l1 c) 272):aR B Tryz.f28 l' c (eC g N cap p bs a b)<|J (mR l c) 272:=rC mc H (.st 2<|.rg<|.go 2<|.fk (.en<|.st 4<|.rg<|.go 4<|.cg (.tuple []) (lG<|l1) (lQ (l) c)<|.en<|.st 2<|.rg<|.go 2<|.vl (.int .i64 ((b+bs:Nat):Int))<|.go 1<|.en<|.st 2<|.ls (gZ g N cap p bs (b)<|b+bs) (mR l1 c) 272 .no) .no)<|ay ((b:Int)<=(p:Int)) (fun _=>(mQ (L:=[bA 1000001,ib]) (f:=36) (R:=hQ kK [0,0]) (by as_aux_lemma=>kernel_rfl) (hQ.bc kK.bc kK.two) (N:=N) (cap:=cap) (is:=[((a:Nat):Int),((b:Nat):Int)]) (g:=g) cN.hi (.inl ⟨N,cap,a,b,g,c,n,cv,l,l1,rfl,rfl,rfl,rfl,cN,hr,hN,hl,h1,h2,h⟩) (by omega) h.len<|And.intro (wN ((b:Int)+(bs:Int))<|b+bs) (show bX (gZ g N cap p bs (b)<|b+bs) (mR l1 c) (eC g N cap p bs (b)<|b+bs) (J (mR l1 c) 272) from b8))) (fun h=>show False by omega)
theorem s2(mc:Mt [bA 1000001,ib] B)(cN:CI g c n cv)(hr:Rg l n)(hl:N<=1000000)(hN:l.length=N)(hb:p<b)(hp:p<=N)(h1:a<=p)(h2:p<=N)(h:bI cv l a p l1)(H:aR B Tryz.f28 l' c (dV g N cap p bs)<|J (mR l1 c) 272):aR B Tryz.f28 l' c (eC g N cap p bs a b)<|J (mR l c) 272:=rC mc H (.st 2<|.rg<|.go 2<|.fk .no<|.en<|.st 3<|.rg<|.go 4<|.cg (.tuple []) (lG<|l1) (lQ (l) c)<|.en<|.st 2<|.ls (gd g N cap p bs) (mR l1 c) 272 .no)<|ay ((b:Int)<=(p:Int)) (fun h=>show False by omega) fun _=>(mQ (L:=[bA 1000001,ib]) (f:=36) (R:=hQ kK [0,0]) (by as_aux_lemma=>kernel_rfl) (hQ.bc kK.bc kK.two) (N:=N) (cap:=cap) (is:=[((a:Nat):Int),((p:Nat):Int)]) (g:=g) cN.hi (.inl ⟨N,cap,a,p,g,c,n,cv,l,l1,rfl,rfl,rfl,rfl,cN,hr,hN,hl,h1,h2,h⟩) (by omega) h.len (show bX (gd g N cap p bs) (mR l1 c) (dV g N cap p bs) (J (mR l1 c) 272) from b8))
theorem t1(mc:Mt [bA 1000001,ib] B)(h:p<=bs):aR B Tryz.f28 l c (dV g N cap p bs)<|J (mR l c) 272:=rS mc (.st 2<|.rg<|.go 2<|.fk .no<|.en<|.rt 4<|.no)<|ay ((bs:Int)<(p:Int)) (fun h=>show False by omega) fun _=>(show nK l c from oK)
theorem t2(mc:Mt [bA 1000001,ib] B)(h:bs<p)(hp:p<=1000000)(H:aR B Tryz.f28 l' c (rz g N cap p bs (0)<|2*bs)<|J (mR l c) 272):aR B Tryz.f28 l' c (dV g N cap p bs)<|J (mR l c) 272:=rC mc H (.st 2<|.rg<|.go 2<|.fk (.en<|.st 4<|.rg<|.go 1<|.vl (.int .i64 ((2*bs:Nat):Int))<|.go 2<|.en<|.st 3<|.ls (zo g N cap p bs (0)<|2*bs) (mR l c) 272 .no) .no)<|ay ((bs:Int)<(p:Int)) (fun _=>(And.intro (wN (2*(bs:Int))<|2*bs) (show bX (zo g N cap p bs (0)<|2*bs) (mR l c) (rz g N cap p bs (0)<|2*bs) (J (mR l c) 272) from b8))) (fun h=>show False by omega)
theorem v1(mc:Mt [bA 1000001,ib] B)(cN:CI g c n cv)(hr:Rg l n)(hl:N<=1000000)(hN:l.length=N)(hb:b<=p)(hp:p<=N)(h0:0<bs)(pX:bs<p)(h1:b=a+2*bs)(s1:cq cv l a<|a+bs)(s2:cq cv l (a+bs) b)(h:bI cv l a b l1)(H:aR B Tryz.f28 l' c (rz g N cap p bs (b)<|b+2*bs)<|J (mR l1 c) 272):aR B Tryz.f28 l' c (rz g N cap p bs a b)<|J (mR l c) 272:=rC mc H (.st 2<|.rg<|.go 2<|.fk (.en<|.st 4<|.rg<|.go 4<|.vl (.int .i64 ((a+bs:Nat):Int))<|.go 2<|.cg (.tuple []) (lG<|l1) (lQ (l) c)<|.en<|.st 2<|.rg<|.go 2<|.vl (.int .i64 ((2*bs:Nat):Int))<|.vl (.int .i64 ((b+2*bs:Nat):Int))<|.go 1<|.en<|.st 2<|.ls (zo g N cap p bs (b)<|b+2*bs) (mR l1 c) 272 .no) .no)<|ay ((b:Int)<=(p:Int)) (fun _=>(And.intro (wN ((a:Int)+(bs:Int))<|a+bs)<|mQ (L:=[bA 1000001,ib]) (f:=37) (by as_aux_lemma=>kernel_rfl) (tA.bc 1000001) (N:=N) (cap:=cap) (is:=[((a:Nat):Int),((a+bs:Nat):Int),((b:Nat):Int)]) (g:=g) cN.hi ⟨N,cap,a,a+bs,b,g,c,n,cv,l,l1,rfl,rfl,rfl,rfl,cN,hr,hN,hl,by omega,by omega,by omega,by omega,s1,s2,h⟩ (by omega) h.len<|And.intro (wN (2*(bs:Int))<|2*bs)<|And.intro (wN ((b:Int)+((2*bs:Nat):Int))<|b+2*bs) (show bX (zo g N cap p bs (b)<|b+2*bs) (mR l1 c) (rz g N cap p bs (b)<|b+2*bs) (J (mR l1 c) 272) from b8))) (fun h=>show False by omega)
theorem v2(mc:Mt [bA 1000001,ib] B)(hl:N<=1000000)(hb:p<b)(hp:p<=N)(h0:0<bs)(pX:bs<p)(ha:a<=p)(h1:¬a+bs<p)(H:aR B Tryz.f28 l' c (dV g N cap p<|bs*2)<|J (mR l c) 272):aR B Tryz.f28 l' c (rz g N cap p bs a b)<|J (mR l c) 272:=rC mc H (.st 2<|.rg<|.go 2<|.fk .no<|.en<|.st 4<|.rg<|.go 2<|.vl (.int .i64 ((a+bs:Nat):Int))<|.go 1<|.en<|.st 1<|.rg<|.go 2<|.fk .no<|.en<|.st 2<|.rg<|.go 1<|.vl (.int .i64 ((bs*2:Nat):Int))<|.go 1<|.en<|.st 2<|.ls (gd g N cap p<|bs*2) (mR l c) 272 .no)<|ay ((b:Int)<=(p:Int)) (fun h=>show False by omega) fun _=>(And.intro (wN ((a:Int)+(bs:Int))<|a+bs)<|ay (((a+bs:Nat):Int)<(p:Int)) (fun h=>show False by omega) fun _=>(And.intro (wN ((bs:Int)*2)<|bs*2) (show bX (gd g N cap p<|bs*2) (mR l c) (dV g N cap p<|bs*2) (J (mR l c) 272) from b8)))
theorem v3(mc:Mt [bA 1000001,ib] B)(cN:CI g c n cv)(hr:Rg l n)(hl:N<=1000000)(hN:l.length=N)(hb:p<b)(hp:p<=N)(h0:0<bs)(pX:bs<p)(ha:a<=p)(h1:a+bs<p)(s1:cq cv l a<|a+bs)(s2:cq cv l (a+bs) p)(h:bI cv l a p l1)(H:aR B Tryz.f28 l' c (dV g N cap p<|bs*2)<|J (mR l1 c) 272):aR B Tryz.f28 l' c (rz g N cap p bs a b)<|J (mR l c) 272:=rC mc H (.st 2<|.rg<|.go 2<|.fk .no<|.en<|.st 4<|.rg<|.go 2<|.vl (.int .i64 ((a+bs:Nat):Int))<|.go 1<|.en<|.st 1<|.rg<|.go 2<|.fk (.en<|.st 1<|.rg<|.go 5<|.cg (.tuple []) (lG<|l1) (lQ (l) c)<|.en<|.rg<|.go 1<|.vl (.int .i64 ((bs*2:Nat):Int))<|.go 1<|.en<|.st 2<|.ls (gd g N cap p<|bs*2) (mR l1 c) 272 .no) .no)<|ay ((b:Int)<=(p:Int)) (fun h=>show False by omega) fun _=>(And.intro (wN ((a:Int)+(bs:Int))<|a+bs)<|ay (((a+bs:Nat):Int)<(p:Int)) (fun _=>(mQ (L:=[bA 1000001,ib]) (f:=37) (by as_aux_lemma=>kernel_rfl) (tA.bc 1000001) (N:=N) (cap:=cap) (is:=[((a:Nat):Int),((a+bs:Nat):Int),((p:Nat):Int)]) (g:=g) cN.hi ⟨N,cap,a,a+bs,p,g,c,n,cv,l,l1,rfl,rfl,rfl,rfl,cN,hr,hN,hl,by omega,by omega,by omega,by omega,s1,s2,h⟩ (by omega) h.len<|And.intro (wN ((bs:Int)*2)<|bs*2) (show bX (gd g N cap p<|bs*2) (mR l1 c) (dV g N cap p<|bs*2) (J (mR l1 c) 272) from b8))) (fun h=>show False by omega))
end
end tC
end
section
open Go Go.Rn Go.RowKit Go.Proofs
namespace Kd
open dx dG ep eV jX vU Bt tz xS tC
abbrev Bl(cv:Int->Int->Int)(l:List Int)(bs N:Nat):Prop:=∀z,cq cv l (z*bs)<|min (z*bs+bs) N
theorem AJ{z x k:Nat}(h:z<x):z*k+k<=x*k:=by have:=Nat.mul_le_mul_right k (show z+1<=x from h);rwa[Nat.succ_mul] at this
section
variable {B:aH} {g:FuncId} {c:AV} {n:Int->Prop} {cv:Int->Int->Int} {N bs:Nat} {cap:aZ} {l0 l':List Int}
theorem SZ(mc:Mt [bA 1000001,ib] B)(cN:CI g c n cv)(fS:Rg l0 n)(hl:N<=1000000)(hN:l0.length=N)(h0:0<bs)(pX:bs<N)(H:∀l,l.Perm l0->Bl cv l (bs*2) N->aR B Tryz.f28 l' c (dV g N cap N<|bs*2) (J (mR l c) 272)):
 ∀(r x:Nat) (l:List Int),N - x*(2*bs)<=r->x*(2*bs)<=N->l.Perm l0->(∀z,z<x->cq cv l (z*(2*bs)) (z*(2*bs)+2*bs))->(∀z,2*x<=z->cq cv l (z*bs) (min (z*bs+bs) N))->aR B Tryz.f28 l' c (rz g N cap N bs (x*(2*bs))<|x*(2*bs)+2*bs) (J (mR l c) 272):=by
 intro r;induction r with
 |zero=>
  intro x l h h1 hp hd ht;refine v2 mc hl (by omega) (Nat.le_refl _) h0 pX h1 (by omega)<|H l hp fun z=>?_;rw[show bs*2=2*bs from Nat.mul_comm _ _];by_cases q:z<x
  ·have:=AJ (k:=2*bs) q;rw[Nat.min_eq_left<|by omega];exact hd z q
  ·have:=Nat.mul_le_mul_right (2*bs) (show x<=z by omega);exact fun i j k1 k2 k3=>by omega
 |succ r ih=>
  intro x l h h1 hp hd ht;have e0:l.length=N:=by rw[hp.length_eq,hN]
  have hr:=fS.perm hp;have e1:(2*x)*bs=x*(2*bs):=by rw[Nat.mul_comm 2 x,Nat.mul_assoc]
  have e2:(2*x+1)*bs=x*(2*bs)+bs:=by rw[Nat.succ_mul,e1]
  have e3:(2*x+2)*bs=x*(2*bs)+2*bs:=by rw[Nat.succ_mul,e2];omega
  have e4:(x+1)*(2*bs)=x*(2*bs)+2*bs:=Nat.succ_mul _ _;have b1:=ht (2*x)<|Nat.le_refl _;have b2:=ht (2*x+1) (by omega);rw[e1] at b1;rw[e2] at b2;by_cases q:x*(2*bs)+2*bs<=N
  ·rw[Nat.min_eq_left<|by omega] at b1 b2;have b2:cq cv l (x*(2*bs)+bs)<|x*(2*bs)+2*bs:=by rw[show x*(2*bs)+2*bs=x*(2*bs)+bs+bs by omega];exact b2
   obtain⟨l1,h2⟩:=bI.ex (l:=l) (a:=x*(2*bs)) (b:=x*(2*bs)+2*bs) cN.ord hr (by omega) (by omega);refine v1 mc cN hr hl e0 q (Nat.le_refl _) h0 pX rfl b1 b2 h2 ?_;have:=ih (x+1) l1 (by rw[e4];omega) (by rw[e4];omega) (h2.pm.trans hp) (fun z hz=>?_) fun z hz=>?_
   ·rw[e4] at this;exact this
   ·by_cases q2:z=x
    ·subst q2;exact h2.lM
    ·have:=AJ (k:=2*bs) (show z<x by omega);exact cq.other (hd z<|by omega) h2 (.inl<|by omega)
   ·have:=Nat.mul_le_mul_right bs (show 2*x+2<=z by omega);exact cq.other (ht z<|by omega) h2 (.inr<|by omega)
  ·have vI:∀l1,bI cv l (x*(2*bs)) N l1->l1.Perm l0/\Bl cv l1 (bs*2) N:=fun l1 h2=>by
    refine⟨h2.pm.trans hp,fun z=>?_⟩;rw[show bs*2=2*bs from Nat.mul_comm _ _];by_cases q2:z<x
    ·have:=AJ (k:=2*bs) q2;rw[Nat.min_eq_left<|by omega];exact cq.other (hd z q2) h2 (.inl<|by omega)
    ·by_cases q3:z=x
     ·subst q3;rw[Nat.min_eq_right<|by omega];exact h2.lM
     ·have:=AJ (k:=2*bs) (show x<z by omega);exact fun i j k1 k2 k3=>by omega
   by_cases q2:x*(2*bs)+bs<N
   ·rw[Nat.min_eq_left<|by omega] at b1;rw[Nat.min_eq_right<|by omega] at b2;obtain⟨l1,h2⟩:=bI.ex (l:=l) (a:=x*(2*bs)) (b:=N) cN.ord hr h1 (by omega);obtain⟨p1,p2⟩:=vI l1 h2;exact v3 mc cN hr hl e0 (by omega) (Nat.le_refl _) h0 pX h1 q2 b1 b2 h2<|H l1 p1 p2
   ·rw[Nat.min_eq_right<|by omega] at b1;obtain⟨p1,p2⟩:=vI l<|bI.refl b1;exact v2 mc hl (by omega) (Nat.le_refl _) h0 pX h1 q2<|H l p1 p2
theorem Bu(mc:Mt [bA 1000001,ib] B)(cN:CI g c n cv)(fS:Rg l0 n)(hl:N<=1000000)(hN:l0.length=N)(h':bI cv l0 0 N l'):∀(r bs:Nat) (l:List Int),N - bs<=r->0<bs->l.Perm l0->Bl cv l bs N->aR B Tryz.f28 l' c (dV g N cap N bs) (J (mR l c) 272):=by
 have fin:∀(bs:Nat) (l:List Int),N<=bs->l.Perm l0->Bl cv l bs N->aR B Tryz.f28 l' c (dV g N cap N bs) (J (mR l c) 272):=fun bs l h hp hb=>by have:=hb 0;rw[Nat.zero_mul,Nat.zero_add,Nat.min_eq_right h] at this;have e:=hp.length_eq;rw[h'.bc cN.ord fS (Nat.zero_le _) (by omega) ⟨hp,fun i hi=>by rw[I5 (by omega),I5<|by omega],this⟩];exact t1 mc h
 intro r;induction r with
 |zero=>exact fun bs l h h0 hp hb=>fin bs l (by omega) hp hb
 |succ r ih=>
  intro bs l h h0 hp hb;by_cases q:N<=bs
  ·exact fin bs l q hp hb
  ·have:=SZ (cap:=cap) (l':=l') mc cN fS hl hN h0 (by omega) (fun l2 dF pR=>ih (bs*2) l2 (by omega) (by omega) dF pR) N 0 l (by omega) (by omega) hp (fun z hz=>by omega) fun z _=>hb z;rw[Nat.zero_mul,Nat.zero_add] at this;exact t2 mc (by omega) hl this
theorem Bv(mc:Mt [bA 1000001,ib] B)(cN:CI g c n cv)(fS:Rg l0 n)(hl:N<=1000000)(hN:l0.length=N)(h':bI cv l0 0 N l'):∀(r x:Nat) (l:List Int),N - x*20<=r->x*20<=N->l.Perm l0->(∀z,z<x->cq cv l (z*20) (z*20+20))->aR B Tryz.f28 l' c (eC g N cap N 20 (x*20)<|x*20+20) (J (mR l c) 272):=by
 have fin:∀(x:Nat) (l:List Int),x*20<=N->N<x*20+20->l.Perm l0->(∀z,z<x->cq cv l (z*20) (z*20+20))->aR B Tryz.f28 l' c (eC g N cap N 20 (x*20)<|x*20+20) (J (mR l c) 272):=fun x l h1 h2 hp hd=>by
  have e:=hp.length_eq;obtain⟨l1,h3⟩:=bI.ex (l:=l) (a:=x*20) (b:=N) cN.ord (fS.perm hp) h1 (by omega);refine s2 mc cN (fS.perm hp) hl (by omega) h2 (Nat.le_refl _) h1 (Nat.le_refl _) h3<|Bu mc cN fS hl hN h' N 20 l1 (by omega) (by omega) (h3.pm.trans hp) fun z=>?_;by_cases q:z<x
  ·rw[Nat.min_eq_left<|by omega];exact cq.other (hd z q) h3 (.inl<|by omega)
  ·by_cases q2:z=x
   ·subst q2;rw[Nat.min_eq_right<|by omega];exact h3.lM
   ·exact fun i j k1 k2 k3=>by omega
 intro r;induction r with
 |zero=>exact fun x l h h1 hp hd=>fin x l h1 (by omega) hp hd
 |succ r ih=>
  intro x l h h1 hp hd;by_cases q:x*20+20<=N
  ·have e:=hp.length_eq;obtain⟨l1,h3⟩:=bI.ex (l:=l) (a:=x*20) (b:=x*20+20) cN.ord (fS.perm hp) (by omega) (by omega);have:=ih (x+1) l1 (by omega) (by omega) (h3.pm.trans hp) (fun z hz=>by
    by_cases q2:z=x
    ·subst q2;exact h3.lM
    ·exact cq.other (hd z<|by omega) h3<|.inl<|by omega)
   rw[show(x+1)*20=x*20+20 by omega] at this;exact s1 mc cN (fS.perm hp) hl (by omega) q (Nat.le_refl _) (by omega) (by omega) q h3 this
  ·exact fin x l h1 (by omega) hp hd
end
def nz:LR:=fun args ax y c=>∃(N:Nat) (cap:aZ) (g:FuncId) (cc:AV) (n:Int->Prop) (cv:Int->Int->Int) (l l':List Int),args=jw N cap [(N:Int)] g/\ax=[b7 l,[cc]]/\y= .tuple []/\c=some (b7 l')/\CI g cc n cv/\Rg l n/\l.length=N/\N<=1000000/\bI cv l 0 N l'
theorem nz.bc:jD nz:=fun args ax y y' c c' h h'=>by obtain⟨N,cap,g,cc,n,cv,l,l',rfl,rfl,rfl,rfl,hc,hr,hN,_,h⟩:=h;obtain⟨N2,im,g2,zk,n2,FP,l2,zm,e1,e2,rfl,rfl,j9,_,_,_,h'⟩:=h';obtain⟨rfl,_,_,rfl⟩:=uB e1;obtain⟨rfl,rfl⟩:=uT e2;obtain⟨rfl,rfl⟩:=hc.bc j9;rw[h.bc hc.ord hr (Nat.zero_le _) (by omega) h'];exact⟨rfl,rfl⟩
theorem nz.two(args:List AV)(ax:List<|List AV)(y:AV)(c:Option<|List AV)(h:nz args ax y c):ax.length=2:=by obtain⟨N,cap,g,cc,n,cv,l,l',_,rfl,_⟩:=h;rfl
theorem CI.bR{g:FuncId}{cc:AV}(h:cc.bO=true):cc.bO=true:=h
noncomputable def vX:FuncId×KE:=(28,.raw<|eH<|vL<|hQ nz [0])
end Kd
end
section
open Go Go.Rn Go.RowKit Go.Proofs
namespace yu
open dx dG ep eV jX vU Bt tz xS tC Kd
theorem P9(hP:du Tryz.prog){L:bY}(h:cJ L):cJ<|vX::L:=by
 refine mf hP h (Jb hP 1000001<|Ps hP gO) Tryz.func28 fun args ax y c e=>?_;rcases e with e|⟨g,cc,hc,rfl,rfl,rfl,rfl⟩
 ·obtain⟨N,cap,g,cc,n,cv,l,l',rfl,rfl,rfl,rfl,hc,hr,hN,hl,h⟩:=e;refine⟨aK.1 (by kernel_rfl),fun B mc=>tc ?_⟩;have:=Bv (cap:=cap) (l':=l') mc hc hr hl hN h N 0 l (by omega) (by omega) (.refl _) (fun z hz=>by omega);exact w0 mc this
 ·exact⟨aK.1 (by kernel_rfl),fun B mc=>tb<|UJ mc hc⟩
def iJ:LR:=fun args ax y c=>∃(N:Nat) (cap:aZ) (g:FuncId) (cc:AV) (n:Int->Prop) (cv:Int->Int->Int) (l l':List Int),args=jw N cap [] g/\ax=[b7 l,[cc]]/\y= .tuple []/\c=some (b7 l')/\CI g cc n cv/\Rg l n/\l.length=N/\N<=1000000/\bI cv l 0 N l'
theorem iJ.bc:jD iJ:=fun args ax y y' c c' h h'=>by obtain⟨N,cap,g,cc,n,cv,l,l',rfl,rfl,rfl,rfl,hc,hr,hN,_,h⟩:=h;obtain⟨N2,im,g2,zk,n2,FP,l2,zm,e1,e2,rfl,rfl,j9,_,_,_,h'⟩:=h';obtain⟨rfl,_,_,rfl⟩:=uB e1;obtain⟨rfl,rfl⟩:=uT e2;obtain⟨rfl,rfl⟩:=hc.bc j9;rw[h.bc hc.ord hr (Nat.zero_le _) (by omega) h'];exact⟨rfl,rfl⟩
theorem iJ.two(args:List AV)(ax:List<|List AV)(y:AV)(c:Option<|List AV)(h:iJ args ax y c):ax.length=2:=by obtain⟨N,cap,g,cc,n,cv,l,l',_,rfl,_⟩:=h;rfl
noncomputable def cS:FuncId×KE:=(19,.raw<|eH<|vL<|hQ iJ [])
theorem UK{B:aH}{g:FuncId}{c:AV}(mc:Mt [vX] B)(hc:c.bO=true):bw Tryz.prog B 271 (Fin Tryz.prog Tryz.f19.results.toList<|RN c) ⟨19,bG [.slice none 0<|.known 0,ny g],(max Tryz.f19.ntmps 2),[.code<|aI Tryz.prog 19 []],[],none⟩<|J (mB c) 271:=oH mc (L:=[vX]) (R:=RN c) (.rg<|.go 4<|.cg (.tuple []) nG (nQ c)<|.en<|.rt 2<|.no)<|xf (L:=[vX]) (f:=28) (R:=nz) (is:=[0]) (by as_aux_lemma=>kernel_rfl) (hQ.bc nz.bc nz.two) (g:=g) hc (show FV c from⟨rfl,rfl⟩)
section
variable {B:aH} {g:FuncId} {c:AV} {n:Int->Prop} {cv:Int->Int->Int} {N:Nat} {cap:aZ} {l l1:List Int}
theorem UL(mc:Mt [vX] B)(cN:CI g c n cv)(hr:Rg l n)(hN:l.length=N)(hl:N<=1000000)(h:bI cv l 0 N l1):aR B Tryz.f19 l1 c ⟨19,bG [.slice (some (270,0)) N cap,dK g],(max Tryz.f19.ntmps 2),[.code<|aI Tryz.prog 19 []],[],none⟩<|J (mR l c) 272:=rS mc (.rg<|.go 4<|.cg (.tuple []) (lG<|l1) (lQ (l) c)<|.en<|.rt 2<|.no)<|mQ (L:=[vX]) (f:=28) (R:=hQ nz [0]) (by as_aux_lemma=>kernel_rfl) (hQ.bc nz.bc nz.two) (N:=N) (cap:=cap) (is:=[((N:Nat):Int)]) (g:=g) cN.hi (.inl ⟨N,cap,g,c,n,cv,l,l1,rfl,rfl,rfl,rfl,cN,hr,hN,hl,h⟩) (by omega) h.len (show nK l1 c from oK)
end
theorem Jc(hP:du Tryz.prog){L:bY}(h:cJ L):cJ<|cS::L:=by
 refine mf hP h (P9 hP gO) Tryz.func19 fun args ax y c e=>?_;rcases e with e|⟨g,cc,hc,rfl,rfl,rfl,rfl⟩
 ·obtain⟨N,cap,g,cc,n,cv,l,l',rfl,rfl,rfl,rfl,hc,hr,hN,hl,h⟩:=e;exact⟨aK.1 (by kernel_rfl),fun B mc=>tc<|UL mc hc hr hN hl h⟩
 ·exact⟨aK.1 (by kernel_rfl),fun B mc=>tb<|UK mc hc⟩
end yu
end
section
open Go Go.Rn Go.RowKit Go.Proofs
namespace ou
open dx dG ep eV gq jX jb lD vS te tC yu mw
noncomputable def zp(l:List At)(i:Nat):List<|Nat×AV:=[(1,.ptr<|some (270,0)),(6,aq ah l),(7,.int .i64 (l.length:Int)),(8,.int .i64 (i:Int)),(3,.slice none 0<|.known 0)]
noncomputable def KN:List Item:=[.code<|aI Tryz.prog 16 [1,1,0,1,0,0],.inLoop<|aI Tryz.prog 16 [1,1,0,1,0,0],.inBlock 0,.code<|aI Tryz.prog 16 [1,1,1]]
noncomputable def pY(l:List At)(i:Nat):AF:=⟨16,cj<|zp l i,(max Tryz.f16.ntmps 1),KN,[],none⟩
noncomputable def gZ(l:List At)(i:Nat)(r:List Int):List<|Nat×AV:=[(1,.ptr<|some (270,0)),(6,aq ah l),(7,.int .i64 (l.length:Int)),(8,.int .i64 (i:Int)),(3,.slice (some (271,0)) r.length<|.aU r.length 1)]
noncomputable def KS:List Item:=[.code<|aI Tryz.prog 16 [1,1,0,1,0,0],.inLoop<|aI Tryz.prog 16 [1,1,0,1,0,0],.inBlock 0,.code<|aI Tryz.prog 16 [1,1,1]]
noncomputable def eC(l:List At)(i:Nat)(r:List Int):AF:=⟨16,cj<|gZ l i r,(max Tryz.f16.ntmps 1),KS,[],none⟩
def jh(r:List Int):List<|Nat×AV:=[(2,aq aw r)]
noncomputable def KR:List Item:=[.code<|aI Tryz.prog 16 [1,1,1,1,1]]
noncomputable def hJ(r:List Int):AF:=⟨16,cj<|jh r,(max Tryz.f16.ntmps 1),KR,[],none⟩
abbrev hX(B:aH)(r:List Int)(fr:AF)(s:AS):Prop:=Sm B Tryz.f16 (aq aw r) fr s
abbrev fT(lo aP nx:Nat)(l0:List<|Nat×AV)(o0:List<|Nat×Option U)(l1:List<|Nat×AV)(o1:List<|Nat×Option U)(fr:AF)(s:AS):Prop:=(l0.map (fun q=>some q.2)=l0.map (fun q=>some q.2))/\(o0.map (fun q=>q.2)=o0.map (fun q=>q.2))/\gE FU lo aP l0 o0 l1 o1 nx/\(fr=fr/\s=s)
theorem gh{lo aP nx:Nat}{l0 l1:List<|Nat×AV}{o0 o1:List<|Nat×Option U}{fr:AF}{s:AS}(h:gE FU lo aP l0 o0 l1 o1 nx):fT lo aP nx l0 o0 l1 o1 fr s:=⟨rfl,rfl,h,rfl,rfl⟩
theorem UM{j aP:Nat}(hj:j<100)(h1:270<=aP)(h2:aP<top):gE FU 270 aP [(j,.slice none 0<|.known 0)] au [(j,aq aw [])] au 270:=
 A1 (fz:=[]) (by omega) h1 h2 (fun r hr ht p hp=>by
  rw[List.mem_singleton] at hp;subst hp;exact⟨by show j<top;unfold top;omega,_,mi 0,I3⟩) (fun r hr ht p hp=>by
  obtain⟨a,b⟩:=A2 (fz:=[]) hr p hp;refine⟨a,fun y hy=>?_⟩;obtain⟨c,d⟩:=b y hy;exact⟨c,y,by rw[←hy];exact hp,ff.refl _,d⟩) (fun p hp=>by cases hp)
theorem LD{j n aP:Nat}{r:List Int}{k:Nat}(hj:j<100)(hk:k=r.length)(hl:r.length<=1000000)(hn:270<=n)(h1:n<aP)(h2:aP<top):gE FU 270 aP [(j,.slice (some (n,0)) k<|.aU k 1)] (au++[(n,some<|aD aw r)]) [(j,aq aw r)] au 270:=by
 subst hk;exact A1 (fz:=[(n,nm (r.map aw).flatten,(r.map aw).flatten)]) (by omega) (by omega) h2 (fun f hr ht p hp=>by
  rw[List.mem_singleton] at hp;subst hp;exact⟨by show j<top;unfold top;omega,_,mi 0,PX (List.mem_singleton.2 rfl) ht rfl⟩) (fun f hr ht p hp=>by
  obtain⟨a,b⟩:=A2 (fz:=[(n,nm (r.map aw).flatten,(r.map aw).flatten)]) hr p hp;refine⟨a,fun y hy=>?_⟩;obtain⟨c,d⟩:=b y hy;exact⟨c,y,List.mem_append_left _ (by rw[←hy];exact hp),ff.refl _,d⟩) (fun p hp=>by
  rw[List.mem_singleton] at hp;subst hp;exact⟨hn,PY eI (by unfold top;omega) n (by omega)<|List.mem_append_right _ List.mem_cons_self⟩)
theorem LF{l:List At}{i:Nat}{r':List Int}{n aP:Nat}{x0:AV}(hx:x0= .slice (some (n,0)) r'.length (.aU r'.length 1))(hn:271<=n)(jZ:n<aP)(hs:aP<1000)(hl:r'.length<=1000000)(h1:272<=aP):
 gE FU 270 aP [(1,.ptr<|some (270,0)),(6,aq ah l),(7,.int .i64 (l.length:Int)),(8,.int .i64 (i:Int)),(3,x0)] (au++[(270,some<|ak [aq ah l]),(n,some<|aD aw r')]) (gZ l i r') (au++[(270,some<|ak [aq ah l]),(271,some<|aD aw r')]) 272:=by
 subst hx;have UN:aP<top:=by unfold top;omega
 have e0:∀r,r=kf [(270,270),(271,n)] 270 aP->r 270=270/\r 271=n:=fun r h=>by subst h;exact⟨rfl,rfl⟩
 refine RZ (ps:=[(270,270),(271,n)]) (Nat.le_refl _) ?_ ?_ (fun r hr ht=>?_) fun r hr ht=>?_
 ·show(((Nat.ble 270 270&&(Nat.blt 270 272&&(Nat.ble 270 270&&Nat.blt 270 top)))&&((Nat.ble 270 271&&(Nat.blt 271 272&&(Nat.ble 270 n&&Nat.blt n top)))&&true))&&(Nat.ble 270 272&&(Nat.ble 272 top&&(Nat.blt aP top&&([270,271].all fun m=>Nat.blt m 270||[(270,270),(271,n)].any fun p=>Nat.beq p.1 m)))))=true;rw[aK.2 (show 270<=n by omega),(blt_eq n top).mpr (by omega),(blt_eq aP top).mpr UN,(blt_eq 270 top).mpr (by unfold top;omega),aK.2 (show 272<=top by unfold top;omega)];rfl
 ·show(((!(Nat.beq 270 270)||Nat.beq 270 270)&&((!(Nat.beq 270 n)||Nat.beq 270 271)&&true))&&(((!(Nat.beq n 270)||Nat.beq 271 270)&&((!(Nat.beq n n)||Nat.beq 271 271)&&true))&&true))=true;rw[show Nat.beq 270 n=false by cases h:Nat.beq 270 n with|false=>rfl|true=>have:=Nat.eq_of_beq_eq_true h;omega,show Nat.beq n 270=false by cases h:Nat.beq n 270 with|false=>rfl|true=>have:=Nat.eq_of_beq_eq_true h;omega];simp
 ·obtain⟨e1,e2⟩:=e0 r hr;exact⟨⟨by show 1<top;unfold top;omega,_,mi 0,(bf.ptr e1).z⟩,⟨by show 6<top;unfold top;omega,_,mi 1,dZ ht⟩,⟨by show 7<top;unfold top;omega,_,mi 2,vi⟩,⟨by show 8<top;unfold top;omega,_,mi 3,vi⟩,⟨by show 3<top;unfold top;omega,_,mi 4,(bf.slice e2).z⟩,trivial⟩
 ·obtain⟨e1,e2⟩:=e0 r hr;exact⟨FM (mi 0) e1 gP<|QX (l:=[aq ah l]) (m:=[aq ah l]) ⟨dZ ht,trivial⟩,FM (mi 1) e2 gP (gm.aD (fun x=>⟨rfl,rfl⟩) (by rw[lf];unfold top;omega)).z,trivial⟩
noncomputable abbrev sQ(m b:Nat)(r:List Int)(c:AV):AS->Prop:=qK 270 dy ed [m,b] [b7 r,[c]]
noncomputable abbrev sG(m b:Nat)(r:List Int):AS->AS:=En 270 dy ed m [b]<|b7 r
abbrev SQ(r:List Int)(c:AV):Prop:=true=true/\(true=true/\some (aD aw r)=some (ak<|b7 r))/\(true=true/\some (ak [c])=some (ak [c]))/\True
theorem Dc{L:bY}(hs:sp L 19=some (eH (vL<|hQ iJ []) 270 ed dy)){m b:Nat}{g:FuncId}{k:Nat}{cap:aZ}{r r':List Int}{c:AV}{T:Prop}(hm:cY [.slice (some (m,0)) k cap,.func (.func g) [] [.ptr<|some (b,0)]]=[m,b])(ho:([.slice (some (m,0)) k cap,.func (.func g) [] [.ptr<|some (b,0)]].all gb&&Nat.ble [m,b].length 2)=true)(hd:[m,b].Nodup)(ht:([m,b].all fun n=>Nat.blt n top)=true)(UO:[AV.slice (some (m,0)) k cap,.func (.func g) [] [.ptr<|some (b,0)]].map (je fun n=>270+jB [m,b] n)=jw k cap [] g)(hc:c.bO=true)(h:iJ (jw k cap [] g) [b7 r,[c]] (.tuple [])<|some<|b7 r')(hl:r.length<=1000000)(jH:r'.length=r.length)(t:T):
 (∀z,sQ m b r c z->br Tryz.prog (sp L) FU 6 (.fn 19) [.slice (some (m,0)) k cap,.func (.func g) [] [.ptr<|some (b,0)]] z= .ok (.tuple []) (sG m b r' z))/\SQ r c/\T:=by
 refine⟨?_,⟨rfl,⟨rfl,rfl⟩,⟨rfl,rfl⟩,trivial⟩,t⟩;have oD:r.length<=top:=by unfold top;omega
 refine Jx (n:=5) (N:=[b]) (m:=m) (c:=b7 r') hs hm ho hd rfl ht ?_ ?_ rfl ?_
 ·show(((b7 r).all AV.bO&&Nat.ble (b7 r).length top)&&(((c.bO&&true)&&Nat.ble 1 top)&&true))=true;rw[AI,lf,aK.2 oD,hc,aK.2 (show 1<=top by unfold top;omega)];rfl
 ·rw[UO];exact td (hQ.bc iJ.bc iJ.two)<|.inl h
 ·rw[AI,lf,jH,aK.2 oD];rfl
section
variable {B:aH} {l:List At} {i:Nat} {r r' q:List Int} {a:At}
theorem w0(mc:Mt [bK,cS] B)(H:hX B q (pY l<|0)<|J (mB<|aq ah l) 271):hX B q ⟨16,bG [aq ah l],(max Tryz.f16.ntmps 1),[.code<|aI Tryz.prog 16 []],[],none⟩<|J au 270:=vC mc H (.st 9<|.ls (zp l<|0) (mB<|aq ah l) 271 .no) (show bX (zp l<|0) (mB<|aq ah l) (pY l<|0) (J (mB<|aq ah l) 271) from b8)
theorem eR(mc:Mt [bK,cS] B):hX B r (hJ r)<|J au 270:=wS mc (L:=[bK,cS]) (R:=fun r0 _=>r0=aq aw r) (.rt 2<|.no) (show aq aw r=aq aw r from rfl)
theorem n1(mc:Mt [bK,cS] B)(hl:l.length<=1000000)(hi:i<l.length)(hx:fj FU (nm (l.map ah).flatten) (0+((i:Nat):Int).toNat*9) 9=some (ah a))(hc:decide (a.wv>0)=false)(H:hX B q (pY l<|i+1)<|J (mB<|aq ah l) 271):hX B q (pY l i)<|J (mB<|aq ah l) 271:=vC mc H (.st 1<|.rg<|.fk (.en<|.st 6<|.rg<|.go 1<|.bV<|.bW (ah a)<|.go 3<|.en<|.st 1<|.rg<|.go 1<|.kn (.bool false)<|.en<|.st 3<|.rg<|.vl (.int .i64 ((i+1:Nat):Int))<|.go 1<|.en<|.st 1<|.bk (zp l<|i+1) (mB<|aq ah l) 271 .no) .no)<|ay ((i:Int)<(l.length:Int)) (fun _=>(And.intro (show(0:Int)<=(i:Int) by omega)<|And.intro (show(i:Int)<((l.length:Nat):Int) by omega)<|And.intro (bj (l.map ah).flatten)<|And.intro (hx)<|And.intro (mr hc)<|And.intro (wN ((i:Int)+1)<|i+1) (show oM 271 (zp l<|i+1) (mB<|aq ah l) (pY l<|i+1) (J (mB<|aq ah l) 271) from pW<|pG (by omega) ⟨ub (by omega),ke,fb,fb,fun r _ _=>bf.Ab,trivial⟩ ⟨kT<|BT (by show 1<=top;unfold top;omega) (fun c hc=>by rw[List.mem_singleton] at hc;subst hc;exact ke) rfl,trivial⟩))) (fun h=>show False by omega)
theorem s1(mc:Mt [bK,cS] B)(hl:l.length<=1000000)(hi:i<l.length)(hx:fj FU (nm (l.map ah).flatten) (0+((i:Nat):Int).toNat*9) 9=some (ah a))(hr:r.length<=1000000)(hc:decide (a.wv>0)=false)(H:hX B q (eC l (i+1) r)<|J (au++[(270,some<|ak [aq ah l]),(271,some<|aD aw r)]) 272):hX B q (eC l i r)<|J (au++[(270,some<|ak [aq ah l]),(271,some<|aD aw r)]) 272:=vC mc H (.st 1<|.rg<|.fk (.en<|.st 6<|.rg<|.go 1<|.bV<|.bW (ah a)<|.go 3<|.en<|.st 1<|.rg<|.go 1<|.kn (.bool false)<|.en<|.st 3<|.rg<|.vl (.int .i64 ((i+1:Nat):Int))<|.go 1<|.en<|.st 1<|.bk (gZ l (i+1) r) (au++[(270,some<|ak [aq ah l]),(271,some<|aD aw r)]) 272 .no) .no)<|ay ((i:Int)<(l.length:Int)) (fun _=>(And.intro (show(0:Int)<=(i:Int) by omega)<|And.intro (show(i:Int)<((l.length:Nat):Int) by omega)<|And.intro (bj (l.map ah).flatten)<|And.intro (hx)<|And.intro (mr hc)<|And.intro (wN ((i:Int)+1)<|i+1) (show oM 272 (gZ l (i+1) r) (au++[(270,some<|ak [aq ah l]),(271,some<|aD aw r)]) (eC l (i+1) r) (J (au++[(270,some<|ak [aq ah l]),(271,some<|aD aw r)]) 272) from pW<|pG (by omega) ⟨ub (by omega),ke,fb,fb,FG (by omega),trivial⟩ ⟨kT<|BT (by show 1<=top;unfold top;omega) (fun c hc=>by rw[List.mem_singleton] at hc;subst hc;exact ke) rfl,kT (Uj<|by omega),trivial⟩))) (fun h=>show False by omega)
theorem n2(mc:Mt [bK,cS] B)(hl:l.length<=1000000)(hi:i<l.length)(hx:fj FU (nm (l.map ah).flatten) (0+((i:Nat):Int).toNat*9) 9=some (ah a))(hc:decide (a.wv>0)=true)(H:hX B q (eC l (i+1)<|[((i:Nat):Int)])<|J (au++[(270,some<|ak [aq ah l]),(271,some<|aD aw<|[((i:Nat):Int)])]) 272):hX B q (pY l i)<|J (mB<|aq ah l) 271:=vC mc H (.st 1<|.rg<|.fk (.en<|.st 6<|.rg<|.go 1<|.bV<|.bW (ah a)<|.go 3<|.en<|.st 1<|.rg<|.go 1<|.kn (.bool true)<|.en<|.st 3<|.rg<|.vl (.int .i64 ((i+1:Nat):Int))<|.go 1<|.en<|.st 1<|.rn [(1,.ptr<|some (270,0)),(6,aq ah l),(7,.int .i64 (l.length:Int)),(8,.int .i64 ((i+1:Nat):Int)),(3,.slice (some (273,0)) ([((i:Nat):Int)]).length<|.aU ([((i:Nat):Int)]).length 1)] (au++[(270,some<|ak [aq ah l]),(273,some<|aD aw<|[((i:Nat):Int)])]) (gZ l (i+1)<|[((i:Nat):Int)]) (au++[(270,some<|ak [aq ah l]),(271,some<|aD aw<|[((i:Nat):Int)])]) 274 272 .no) .no)<|ay ((i:Int)<(l.length:Int)) (fun _=>(And.intro (show(0:Int)<=(i:Int) by omega)<|And.intro (show(i:Int)<((l.length:Nat):Int) by omega)<|And.intro (bj (l.map ah).flatten)<|And.intro (hx)<|And.intro (mr hc)<|And.intro (wN ((i:Int)+1)<|i+1) (show fT 270 274 272 [(1,.ptr<|some (270,0)),(6,aq ah l),(7,.int .i64 (l.length:Int)),(8,.int .i64 ((i+1:Nat):Int)),(3,.slice (some (273,0)) ([((i:Nat):Int)]).length<|.aU ([((i:Nat):Int)]).length 1)] (au++[(270,some<|ak [aq ah l]),(273,some<|aD aw<|[((i:Nat):Int)])]) (gZ l (i+1)<|[((i:Nat):Int)]) (au++[(270,some<|ak [aq ah l]),(271,some<|aD aw<|[((i:Nat):Int)])]) (eC l (i+1)<|[((i:Nat):Int)]) (J (au++[(270,some<|ak [aq ah l]),(271,some<|aD aw<|[((i:Nat):Int)])]) 272) from gh<|LF rfl (by omega) (by omega) (by omega) (by simp only[List.length_append,List.length_cons,List.length_nil];omega)<|by omega))) (fun h=>show False by omega)
theorem s2(mc:Mt [bK,cS] B)(hl:l.length<=1000000)(hi:i<l.length)(hx:fj FU (nm (l.map ah).flatten) (0+((i:Nat):Int).toNat*9) 9=some (ah a))(hr:r.length<=100000)(hc:decide (a.wv>0)=true)(H:hX B q (eC l (i+1)<|r++[((i:Nat):Int)])<|J (au++[(270,some<|ak [aq ah l]),(271,some<|aD aw<|r++[((i:Nat):Int)])]) 272):hX B q (eC l i r)<|J (au++[(270,some<|ak [aq ah l]),(271,some<|aD aw r)]) 272:=vC mc H (.st 1<|.rg<|.fk (.en<|.st 6<|.rg<|.go 1<|.bV<|.bW (ah a)<|.go 3<|.en<|.st 1<|.rg<|.go 1<|.kn (.bool true)<|.en<|.st 1<|.rg<|.go 3<|.ap Int aw r ((i:Nat):Int)<|.go 1<|.en<|.st 1<|.rg<|.vl (.int .i64 ((i+1:Nat):Int))<|.go 1<|.en<|.st 1<|.rn [(1,.ptr<|some (270,0)),(6,aq ah l),(7,.int .i64 (l.length:Int)),(8,.int .i64 ((i+1:Nat):Int)),(3,.slice (some (274,0)) (r++[((i:Nat):Int)]).length<|.aU (r++[((i:Nat):Int)]).length 1)] (au++[(270,some<|ak [aq ah l]),(274,some<|aD aw<|r++[((i:Nat):Int)])]) (gZ l (i+1)<|r++[((i:Nat):Int)]) (au++[(270,some<|ak [aq ah l]),(271,some<|aD aw<|r++[((i:Nat):Int)])]) 275 272 .no) .no)<|ay ((i:Int)<(l.length:Int)) (fun _=>(And.intro (show(0:Int)<=(i:Int) by omega)<|And.intro (show(i:Int)<((l.length:Nat):Int) by omega)<|And.intro (bj (l.map ah).flatten)<|And.intro (hx)<|And.intro (mr hc)<|FO aw r ((i:Nat):Int) (K:=1) (ue:=8) (fun x=>⟨rfl,rfl⟩) (by unfold room;omega) (by unfold top;omega)<|And.intro (wN ((i:Int)+1)<|i+1) (show fT 270 275 272 [(1,.ptr<|some (270,0)),(6,aq ah l),(7,.int .i64 (l.length:Int)),(8,.int .i64 ((i+1:Nat):Int)),(3,.slice (some (274,0)) (r++[((i:Nat):Int)]).length<|.aU (r++[((i:Nat):Int)]).length 1)] (au++[(270,some<|ak [aq ah l]),(274,some<|aD aw<|r++[((i:Nat):Int)])]) (gZ l (i+1)<|r++[((i:Nat):Int)]) (au++[(270,some<|ak [aq ah l]),(271,some<|aD aw<|r++[((i:Nat):Int)])]) (eC l (i+1)<|r++[((i:Nat):Int)]) (J (au++[(270,some<|ak [aq ah l]),(271,some<|aD aw<|r++[((i:Nat):Int)])]) 272) from gh<|LF rfl (by omega) (by omega) (by omega) (by simp only[List.length_append,List.length_cons,List.length_nil];omega)<|by omega))) (fun h=>show False by omega)
theorem n3(mc:Mt [bK,cS] B)(hi:l.length<=i)(H:hX B q (hJ [])<|J au 270):hX B q (pY l i)<|J (mB<|aq ah l) 271:=vC mc H (.st 1<|.rg<|.fk .no<|.en<|.st 4<|.rg<|.go 2<|.cg (.tuple []) nG (nQ<|aq ah l)<|.en<|.st 2<|.rn [(2,.slice none 0<|.known 0)] au (jh []) au 271 270 .no)<|ay ((i:Int)<(l.length:Int)) (fun h=>show False by omega) fun _=>(xf (L:=[bK,cS]) (f:=19) (R:=iJ) (is:=[]) (by as_aux_lemma=>kernel_rfl) (hQ.bc iJ.bc iJ.two) (g:=27) (c:=aq ah l) (aK.2<|bj _) (show fT 270 271 270 [(2,.slice none 0<|.known 0)] au (jh []) au (hJ []) (J au 270) from gh<|UM (by omega) (by omega) (by unfold top;omega)))
theorem s3(mc:Mt [bK,cS] B)(hi:l.length<=i)(hr:r.length<=1000000)(ha:nb l)(hg:Rg r<|wq l)(h:bI (jJ At.wv l) r 0 r.length r')(H:hX B q (hJ r')<|J au 270):hX B q (eC l i r)<|J (au++[(270,some<|ak [aq ah l]),(271,some<|aD aw r)]) 272:=vC mc H (.st 1<|.rg<|.fk .no<|.en<|.st 4<|.rg<|.go 2<|.cg (.tuple []) (sG 271 270 r') (sQ 271 270 r<|aq ah l)<|.en<|.st 2<|.rn [(2,.slice (some (271,0)) r.length<|.aU r.length 1)] (au++[(271,some<|aD aw r')]) (jh r') au 272 270 .no)<|ay ((i:Int)<(l.length:Int)) (fun h=>show False by omega) fun _=>(Dc (L:=[bK,cS]) (by as_aux_lemma=>kernel_rfl) (m:=271) (b:=270) (g:=27) (k:=r.length) (cap:=.aU r.length 1) (r:=r) (r':=r') (c:=aq ah l) rfl (by as_aux_lemma=>kernel_rfl) (by decide) (by as_aux_lemma=>kernel_rfl) rfl (aK.2<|bj _) ⟨r.length,.aU r.length 1,27,aq ah l,wq l,jJ At.wv l,r,r',rfl,rfl,rfl,rfl,⟨l,rfl,.inl ⟨rfl,rfl,rfl,ha⟩⟩,hg,rfl,hr,h⟩ hr h.len (show fT 270 272 270 [(2,.slice (some (271,0)) r.length<|.aU r.length 1)] (au++[(271,some<|aD aw r')]) (jh r') au (hJ r') (J au 270) from gh<|LD (by omega) h.len.symm (by rw[h.len];exact hr) (by omega) (by omega) (by unfold top;omega)))
end
def eN(l:List At)(i:Nat):List Int:=((List.range i).filter fun(k:Nat)=>decide<|(aA l ((k:Nat):Int)).wv>0).map fun(k:Nat)=>((k:Nat):Int)
theorem IA(l:List At)(i:Nat):eN l (i+1)=if(aA l (i:Int)).wv>0 then eN l i++[((i:Nat):Int)] else eN l i:=by
 unfold eN;rw[List.range_succ,List.filter_append];by_cases h:(aA l ((i:Nat):Int)).wv>0
 ·rw[if_pos h,List.filter_cons_of_pos (by exact decide_eq_true h),List.map_append];rfl
 ·rw[if_neg h,List.filter_cons_of_neg (by rw[decide_eq_false h];intro h;cases h)];simp
theorem Dw(l:List At)(i:Nat):(eN l i).length<=i:=by unfold eN;rw[List.length_map];exact Nat.le_trans (List.length_filter_le _ _) (by rw[List.length_range];exact Nat.le_refl _)
theorem Jd{l:List At}{i:Nat}{x:Int}:x∈eN l i↔∃k:Nat,x=(k:Int)/\k<i/\(aA l (k:Int)).wv>0:=by
 unfold eN;rw[List.mem_map];constructor
 ·rintro ⟨k,h,rfl⟩;rw[List.mem_filter,List.mem_range] at h;exact⟨k,rfl,h.1,of_decide_eq_true h.2⟩
 ·rintro ⟨k,rfl,h1,h2⟩;exact⟨k,by rw[List.mem_filter,List.mem_range];exact⟨h1,decide_eq_true h2⟩,rfl⟩
theorem Oz(l:List At)(i:Nat):(eN l i).Nodup:=by unfold eN;refine List.Pairwise.map _ (fun a b h=>?_)<|List.Pairwise.filter _ List.nodup_range;show((a:Nat):Int)≠(b:Int);intro e;exact h (by omega)
theorem sS(l:List At):Rg (eN l l.length)<|wq l:=fun x hx=>by obtain⟨k,rfl,h,h2⟩:=Jd.1 hx;exact⟨⟨by omega,by omega⟩,h2⟩
theorem qp{l:List At}{k:Nat}(h:k<l.length):aA l (k:Int)=l[k]:=by unfold aA;rw[Int.toNat_natCast,List.getD_eq_getElem?_getD,List.getElem?_eq_getElem h];rfl
theorem tD{l:List At}{i:Nat}(h:i<l.length):fj FU (nm (l.map ah).flatten) (0+((i:Nat):Int).toNat*9) 9=some (ah<|aA l (i:Int)):=by have:=qy eA (l:=l) (i:=i) (a:=aA l (i:Int)) (by rw[qp h,List.getElem?_eq_getElem h]) 0 9 (by omega);rw[Nat.add_zero] at this;rw[Nat.zero_add,Int.toNat_natCast];exact this
section
variable {B:aH} {l:List At} {q:List Int}
theorem Bv(mc:Mt [bK,cS] B)(hl:l.length<=100000)(H:∀r,r=eN l l.length->hX B q (eC l l.length r) (J (au++[(270,some<|ak [aq ah l]),(271,some<|aD aw r)]) 272)):
 ∀(n i:Nat),l.length - i=n->i<=l.length->hX B q (eC l i<|eN l i) (J (au++[(270,some<|ak [aq ah l]),(271,some<|aD aw<|eN l i)]) 272)
 |0,i,h,hi=>by
  obtain rfl:i=l.length:=by omega
  exact H _ rfl
 |n+1,i,h,hi=>by
  have hk:i<l.length:=by omega
  have hr:=Dw l i;have:=Bv mc hl H n (i+1) (by omega) (by omega);rw[IA] at this;by_cases hc:(aA l (i:Int)).wv>0
  ·rw[if_pos hc] at this;exact s2 mc (by omega) hk (tD hk) (by omega) (decide_eq_true hc) this
  ·rw[if_neg hc] at this;exact s1 mc (by omega) hk (tD hk) (by omega) (decide_eq_false hc) this
theorem KZ(mc:Mt [bK,cS] B)(hl:l.length<=100000)(H:∀r,r=eN l l.length->hX B q (eC l l.length r) (J (au++[(270,some<|ak [aq ah l]),(271,some<|aD aw r)]) 272))(H0:eN l l.length=[]->hX B q (pY l l.length) (J (mB<|aq ah l) 271)):
 ∀(n i:Nat),l.length - i=n->i<=l.length->eN l i=[]->hX B q (pY l i) (J (mB<|aq ah l) 271)
 |0,i,h,hi,h0=>by
  obtain rfl:i=l.length:=by omega
  exact H0 h0
 |n+1,i,h,hi,h0=>by
  have hk:i<l.length:=by omega
  have e1:=IA l i;rw[h0] at e1;by_cases hc:(aA l (i:Int)).wv>0
  ·rw[if_pos hc] at e1;have:=Bv mc hl H n (i+1) (by omega) (by omega);rw[e1] at this;exact n2 mc (by omega) hk (tD hk) (decide_eq_true hc) this
  ·rw[if_neg hc] at e1;exact n1 mc (by omega) hk (tD hk) (decide_eq_false hc)<|KZ mc hl H H0 n (i+1) (by omega) (by omega) e1
end
def nA(l:List At)(w:List Int):Prop:=bI (jJ At.wv l) (eN l l.length) 0 (eN l l.length).length w
def wy(args:List AV)(v:AV):Prop:=∃(l:List At) (w:List Int),args=[aq ah l]/\l.length<=100000/\nb l/\nA l w/\v=aq aw w
theorem wy.bc(args:List AV)(v v':AV)(h:wy args v)(h':wy args v'):v=v':=by
 obtain⟨l,w,rfl,_,ha,h,rfl⟩:=h;obtain⟨l',w',e,_,_,h',rfl⟩:=h';injection e with e1 _
 obtain rfl:=rZ e1;rw[h.bc (xm ha) (sS l) (Nat.zero_le _) (Nat.le_refl _) h']
noncomputable def eD:FuncId×KE:=(16,.val<|gR wy)
theorem Q0(hP:du Tryz.prog){L:bY}(h:cJ L):cJ<|eD::L:=by
 refine tu hP h (JA hP<|Jc hP gO) Tryz.func16 fun args v e=>?_;obtain⟨l,w,rfl,hl,ha,h,rfl⟩:=qh e;refine⟨aK.1 (by kernel_rfl),fun B mc=>?_⟩;rw[←qz];have hlen:=Dw l l.length;refine w0 mc<|KZ mc hl (fun p hp=>?_) (fun h0=>?_) _ 0 rfl (Nat.zero_le _) rfl
 ·subst hp;exact s3 mc (Nat.le_refl _) (by omega) ha (sS l) h<|eR mc
 ·have e:w=[]:=by have:=h.len;rw[h0] at this;exact List.length_eq_zero_iff.1 this
  subst e;exact n3 mc (Nat.le_refl _)<|eR mc
end ou
end
section
open Go Go.Rn Go.RowKit Go.Proofs
namespace yw
open dx dG ep eV gq jX jb ou
noncomputable abbrev FW:AV:=.func (.func 18) [] [.ptr<|some (270,0),.ptr<|some (271,0)]
noncomputable abbrev mV(l:List At)(a:At):List<|Nat×Option U:=au++[(270,some<|ak [aq ah l]),(271,some<|ak<|ah a)]
abbrev RV(y:AV)(l:List At)(a:At)(r:AV)(s:AS):Prop:=r=y/\s.h.get 270=some (ak [aq ah l])/\s.h.get 271=some (ak<|ah a)
abbrev ug(B:aH)(y:AV)(l:List At)(a:At)(fr:AF)(s:AS):Prop:=bw Tryz.prog B 272 (Fin Tryz.prog Tryz.f17.results.toList<|RV y l a) fr s
abbrev LG(y:AV)(l:List At)(a:At):Prop:=y=y/\some (ak [aq ah l])=some (ak [aq ah l])/\some (ak<|ah a)=some (ak<|ah a)
def iv(l:List At)(rv:Int):List Int->Int->Int
 |[],_=> -1
 |x::w,i=>if(aA l x).wv>rv then i else iv l rv w (i+1)
theorem gF{r:List Int}{i:Nat}(h:i<r.length):fj FU (nm (r.map aw).flatten) (0+((i:Nat):Int).toNat*1) 1=some [i6<|I r i]:=by have:=qy eI (Av h) 0 1 (by omega);rw[Nat.add_zero] at this;rw[Nat.zero_add,Int.toNat_natCast];exact this
noncomputable def jf(w:List Int)(i:Nat):List<|Nat×AV:=[(0,aq aw w),(1,FW),(7,.int .i64 (w.length:Int)),(8,.int .i64 (i:Int))]
noncomputable def KI:List Item:=[.code<|aI Tryz.prog 17 [1,0,1,0,0],.inLoop<|aI Tryz.prog 17 [1,0,1,0,0],.inBlock 0,.code<|aI Tryz.prog 17 [1,1]]
noncomputable def fc(w:List Int)(i:Nat):AF:=⟨17,cj<|jf w i,(max Tryz.f17.ntmps 2),KI,[],none⟩
section
variable {B:aH} {y:AV} {l:List At} {a:At} {w:List Int} {i:Nat}
theorem i0(mc:Mt [] B)(H:ug B y l a (fc w 0)<|J (mV l a) 272):ug B y l a ⟨17,bG [aq aw w,FW],(max Tryz.f17.ntmps 2),[.code<|aI Tryz.prog 17 []],[],none⟩<|J (mV l a) 272:=rC mc H (.st 7<|.ls (jf w 0) (mV l a) 272 .no) (show bX (jf w 0) (mV l a) (fc w 0) (J (mV l a) 272) from b8)
theorem iE(mc:Mt [] B)(h0:w.length<=i):ug B (i6<|-1) l a (fc w i)<|J (mV l a) 272:=rS mc (R:=RV (i6<|-1) l a) (.st 1<|.rg<|.fk .no<|.en<|.rt 7<|.no)<|ay ((i:Int)<(w.length:Int)) (fun h=>show False by omega) fun _=>(show LG (i6<|-1) l a from⟨rfl,rfl,rfl⟩)
theorem iT(mc:Mt [] B)(hi:i<w.length)(h0:0<=(I w i))(h1:(I w i)<(l.length:Int))(h:(aA l<|I w i).wv>a.rv):ug B (i6 (i:Int)) l a (fc w i)<|J (mV l a) 272:=rS mc (R:=RV (i6 (i:Int)) l a) (.st 1<|.rg<|.fk (.en<|.st 8<|.rg<|.go 3<|.bV<|.bW ([i6<|I w i])<|.il<|.st 3<|.rg<|.go 2<|.bV<|.go 1<|.bW ([i6 (aA l<|I w i).wv])<|.go 2<|.fk (.go 1<|.en<|.rt 2<|.en<|.rt 5<|.no) .no) .no)<|ay ((i:Int)<(w.length:Int)) (fun _=>(And.intro (show(0:Int)<=(i:Int) by omega)<|And.intro (show(i:Int)<((w.length:Nat):Int) by omega)<|And.intro (bj (w.map aw).flatten)<|And.intro (gF (r:=w) (i:=i)<|by omega)<|And.intro (show(0:Int)<=(I w i) by omega)<|And.intro (show(I w i)<((l.length:Nat):Int) by omega)<|And.intro (bj (l.map ah).flatten)<|And.intro (kJ (l:=l) (x:=(I w i)) (by omega) (by omega) 5<|by omega)<|ay ((aA l<|I w i).wv>a.rv) (fun _=>(show LG (i6 (i:Int)) l a from⟨rfl,rfl,rfl⟩)) (fun h=>show False by omega))) (fun h=>show False by omega)
theorem iN(mc:Mt [] B)(hw:w.length<=1000000)(hi:i<w.length)(h0:0<=(I w i))(h1:(I w i)<(l.length:Int))(h:¬(aA l<|I w i).wv>a.rv)(H:ug B y l a (fc w<|i+1)<|J (mV l a) 272):ug B y l a (fc w i)<|J (mV l a) 272:=rC mc H (.st 1<|.rg<|.fk (.en<|.st 8<|.rg<|.go 3<|.bV<|.bW ([i6<|I w i])<|.il<|.st 3<|.rg<|.go 2<|.bV<|.go 1<|.bW ([i6 (aA l<|I w i).wv])<|.go 2<|.fk .no<|.go 1<|.en<|.rt 2<|.en<|.st 3<|.rg<|.vl (.int .i64 ((i+1:Nat):Int))<|.go 1<|.en<|.st 1<|.ls (jf w<|i+1) (mV l a) 272 .no) .no)<|ay ((i:Int)<(w.length:Int)) (fun _=>(And.intro (show(0:Int)<=(i:Int) by omega)<|And.intro (show(i:Int)<((w.length:Nat):Int) by omega)<|And.intro (bj (w.map aw).flatten)<|And.intro (gF (r:=w) (i:=i)<|by omega)<|And.intro (show(0:Int)<=(I w i) by omega)<|And.intro (show(I w i)<((l.length:Nat):Int) by omega)<|And.intro (bj (l.map ah).flatten)<|And.intro (kJ (l:=l) (x:=(I w i)) (by omega) (by omega) 5<|by omega)<|ay ((aA l<|I w i).wv>a.rv) (fun h=>show False by omega) fun _=>(And.intro (wN ((i:Int)+1)<|i+1) (show bX (jf w<|i+1) (mV l a) (fc w<|i+1) (J (mV l a) 272) from b8)))) (fun h=>show False by omega)
end
theorem Ke{B:aH}{l:List At}{a:At}{w:List Int}(mc:Mt [] B)(hw:w.length<=1000000)(hr:Rg w<|jK l):∀(r i:Nat),w.length - i=r->i<=w.length->ug B (i6<|iv l a.rv (w.drop i) i) l a (fc w i) (J (mV l a) 272)
 |0,i,h,hi=>by rw[List.drop_of_length_le<|by omega];exact iE mc (by omega)
 |r+1,i,h,hi=>by
  have hk:i<w.length:=by omega
  obtain⟨h0,h1⟩:=dJ hr hk;rw[List.drop_eq_getElem_cons hk, ←hZ hk,iv];by_cases q:(aA l<|I w i).wv>a.rv
  ·rw[if_pos q];exact iT mc hk h0 h1 q
  ·rw[if_neg q];exact iN mc hw hk h0 h1 q (Ke mc hw hr r (i+1) (by omega)<|by omega)
def zq:LR:=fun args ax y c=>∃(w:List Int) (l:List At) (a:At),args=[aq aw w,FW]/\ax=[[aq ah l],ah a]/\w.length<=1000000/\Rg w (jK l)/\y=i6 (iv l a.rv w 0)/\c=none
theorem zq.bc:jD zq:=fun args ax y y' c c' h h'=>by
 obtain⟨w,l,a,rfl,rfl,_,_,rfl,rfl⟩:=h;obtain⟨w2,l2,a2,e1,e2,_,_,rfl,rfl⟩:=h';injection e1 with e1 _
 injection e2 with e2 e3;injection e2 with e2 _
 injection e3 with e3 _
 have e4:fF aw 1 (aq aw w) w2:=by rw[e1];exact fF.aq eI w2
 rw[fF.inj C9 (fF.aq eI w) e4,rZ e2,Db _ _ e3];exact⟨rfl,rfl⟩
noncomputable def eE:FuncId×KE:=(17,.raw<|eH<|vL zq)
theorem Q1(hP:du Tryz.prog){L:bY}(h:cJ L):cJ<|eE::L:=by refine mf hP h gO Tryz.func17 fun args ax y c e=>?_;obtain⟨w,l,a,rfl,rfl,hw,hr,rfl,rfl⟩:=e;refine⟨aK.1 (by kernel_rfl),fun B mc=>tc ?_⟩;exact i0 mc<|Ke mc hw hr _ 0 rfl<|Nat.zero_le _
end yw
end
section
open Go Go.Rn Go.RowKit Go.Proofs
namespace EU
open dx dG ep eV mw
theorem Vb(l:List Int):aD aw l= .cells (b7 l).length (Tr.fill (b7 l) 0 .nil) []:=rfl
theorem S0:(match Tryz.prog.info? 3 with|some i=>Nat.beq i.size 1&&(Nat.beq i.bytes 8&&lT i)|none=>false)=true:=by kernel_rfl
theorem JG{m k:Nat}{L:List Int}{s:AS}(hm:Nat.blt m s.nx=true)(hg:s.h.get m=some (aD aw L))(hk:k=L.length)(h1:1<=k)(hl:L.length<=1000000):dH m 0 (k*1) s= .ok (b7 L) (aN m s):=by have a:=rB (n:=m) (off:=0) (k:=k*1) (l:=b7 L) (s:=s) hm hg (by rw[lf];unfold top;omega) (by omega) (by rw[lf];omega);rw[List.drop_zero,List.take_of_length_le (by rw[lf];omega)] at a;exact a
theorem HW{n:Nat}{A B:List Int}{s:AS}(h:n=A.length+B.length)(hl:A.length+B.length<=1000000)(hs:s.nx<top):grown 1 8 n (b7 A) (b7 B) s= .ok (.slice (some (s.nx,0)) n<|.aU n 1) (oo (aD aw<|A++B) s):=by
 have e:b7 A++b7 B=b7 (A++B):=by rw[qo,qo,qo,List.map_append]
 unfold grown;rw[show(and (Nat.ble (2*n*8+4096*8) room)<|not<|Nat.beq 8 0)=true from and_true.2 ⟨aK.2 (by unfold room;omega),rfl⟩,bD,e];have hlen:(b7<|A++B).length<=top:=by rw[lf,List.length_append];unfold top;omega
 have mh:(b7<|A++B).all AV.bu=true:=by rw[qo,List.all_map];exact List.all_eq_true.2 fun x _=>rfl
 refine(M.bg<|wW (s:=s) (l:=b7<|A++B) hlen mh hs).trans ?_;rfl
theorem DU{a b:AV}{base:Option<|Nat×Nat}{len n:Nat}{cap:aZ}{new:List AV}{s s1:AS}{r:R AV}(ha:a= .slice base len cap)(hn:lenOf b=some n)(hf:firstCells 1 n b s= .ok new s1)(hl:new.length=n)(h:ji 1 8 base len cap n new s1=r):gL Tryz.prog #[30,30] a b s=r:=by
 subst ha;have hi:=S0;have hu:Tryz.prog.underlying 30=some (.slice 3):=by kernel_rfl
 have BA:jO Tryz.prog (#[30,30]:Array TypeId)[1]? =true:=by kernel_rfl
 unfold gL;rw[show(#[30,30]:Array TypeId)[0]? =some 30 from rfl,aO];simp only[hu];cases e:Tryz.prog.info? 3 with
 |none=>rw[e] at hi;cases hi
 |some i=>rw[e] at hi;obtain⟨h1,h2⟩:=and_true.1 hi;obtain⟨h2,h3⟩:=and_true.1 h2;have h1:=Nat.eq_of_beq_eq_true h1;have h2:=Nat.eq_of_beq_eq_true h2;rw[aO,h3,BA,show and true true=true from rfl,bD,hn,aO,h1,h2];rw[M.bg hf,hl,Nat.mul_one,show Nat.beq n n=true from Nat.beq_refl n,bD];exact h
theorem Je{m k:Nat}{cap:aZ}{L:List Int}{s:AS}(hm:Nat.blt m s.nx=true)(hg:s.h.get m=some (aD aw L))(hk:k=L.length)(h1:1<=k)(hl:L.length<=1000000):firstCells 1 k (.slice (some (m,0)) k cap) s= .ok (b7 L) (aN m s):=by
 have:=JG hm hg hk h1 hl;cases k with
 |zero=>omega
 |succ k=>cases cap<;>exact this
abbrev LH(m nx:Nat)(L:List Int)(s:AS):Prop:=Nat.blt m s.nx=true/\s.h.get m=some (aD aw L)/\s.nx=nx
noncomputable abbrev LI(m:Nat)(L:List Int):AS->AS:=fun s=>oo (aD aw L)<|aN m s
theorem S1{m nx k:Nat}{cap:aZ}{L:List Int}(hk:k=L.length)(h1:1<=L.length)(hl:L.length<=1000000)(hx:nx<1000)(s:AS)(q:LH m nx L s):gL Tryz.prog #[30,30] (.slice none 0<|.known 0) (.slice (some (m,0)) k cap) s= .ok (.slice (some (nx,0)) L.length<|.aU L.length 1) (LI m L s):=by
 obtain⟨q1,q2,q3⟩:=q;subst hk;have e:(aN m s).nx=nx:=by rw[(fW m s).2.1,q3]
 refine DU rfl rfl (Je q1 q2 rfl h1 hl) (lf L) ?_;unfold ji;have hb:Nat.ble (0+L.length) 0=false:=by cases q:Nat.ble (0+L.length) 0 with|false=>rfl|true=>have:=aK.1 q;omega
 simp only[hb];have f0:firstCells 1 0 (.slice none 0<|.known 0) (aN m s)= .ok (b7 []) (aN m s):=rfl;rw[M.bg f0,Nat.zero_add];have g:=HW (n:=L.length) (A:=[]) (B:=L) (s:=aN m s) (by rw[List.length_nil];omega) (by rw[List.length_nil];omega) (by rw[e];unfold top;omega);rw[e,List.nil_append] at g;exact g
abbrev LJ(n m nx:Nat)(A L:List Int)(s:AS):Prop:=(Nat.blt n s.nx=true/\s.h.get n=some (aD aw A))/\Nat.blt m s.nx=true/\s.h.get m=some (aD aw L)/\s.nx=nx
noncomputable abbrev LK(n m:Nat)(A L:List Int):AS->AS:=fun s=>oo (aD aw<|A++L)<|eY n none<|aN n<|aN n<|aN m s
theorem S2{n m nx k:Nat}{cap:aZ}{A L:List Int}(hk:k=L.length)(h0:1<=A.length)(h1:1<=L.length)(hl:A.length+L.length<=1000000)(hx:nx<1000)(s:AS)(q:LJ n m nx A L s):gL Tryz.prog #[30,30] (.slice (some (n,0)) A.length<|.aU A.length 1) (.slice (some (m,0)) k cap) s= .ok (.slice (some (nx,0)) (A.length+L.length)<|.aU (A.length+L.length) 1) (LK n m A L s):=by
 obtain⟨⟨q1,q2⟩,q3,q4,q5⟩:=q;subst hk;have hm:=fW m s;refine DU rfl rfl (Je q3 q4 rfl h1<|by omega) (lf L) ?_;unfold ji;have hb:Nat.ble (A.length+L.length) A.length=false:=by cases q:Nat.ble (A.length+L.length) A.length with|false=>rfl|true=>have:=aK.1 q;omega
 simp only[hb];show(aB (Nat.beq 1 1) <| (dH n 0<|A.length*1).bind fun bJ=>(a9 n).bind fun o=>aB o.nV <| (ba n none).bind fun _=>grown 1 8 (A.length+L.length) bJ<|b7 L) (aN m s)=_;have r1:=JG (m:=n) (k:=A.length) (L:=A) (s:=aN m s) (by rw[hm.2.1];exact q1) (by rw[hm.1];exact q2) rfl h0 (by omega);rw[show Nat.beq 1 1=true from rfl,bD,M.bg r1];have h2:=fW n<|aN m s;have r2:a9 n (aN n<|aN m s)= .ok (aD aw A) (aN n<|aN n<|aN m s):=ko (by rw[h2.2.1,hm.2.1];exact q1) (by rw[h2.1,hm.1];exact q2);rw[M.bg r2,show U.nV (aD aw A)=true from rfl,bD];have h3:=fW n<|aN n<|aN m s;have hn:n<nx:=by rw[←q5];exact(blt_eq _ _).mp q1
 have r3:ba n none (aN n<|aN n<|aN m s)= .ok () (eY n none<|aN n<|aN n<|aN m s):=qj (by rw[h3.2.1,h2.2.1,hm.2.1];exact q1) (by rw[h3.1,h2.1,hm.1];exact q2) rfl<|(blt_eq _ _).mpr (by unfold top;omega);rw[M.bg r3];have e:(eY n none<|aN n<|aN n<|aN m s).nx=nx:=by rw[(RS n none _).1,h3.2.1,h2.2.1,hm.2.1,q5]
 rw[HW (A:=A) (B:=L) rfl hl (by rw[e];unfold top;omega),e]
theorem S3{n k:Nat}(s:AS)(_:True):gL Tryz.prog #[30,30] (.slice (some (n,0)) k<|.aU k 1) (.slice none 0<|.known 0) s= .ok (.slice (some (n,0)) k<|.aU k 1) (id s):=by refine DU (new:=[]) rfl rfl rfl rfl ?_;unfold ji;have hb:Nat.ble (k+0) k=true:=aK.2<|Nat.le_refl _;simp only[hb];rfl
end EU
end
section
open Go Go.Rn Go.RowKit Go.Proofs
namespace yx
open dx dG ep eV gq jb lD mw ou
def ro(rs:List<|List Int)(j:Nat):List Int:=rs.getD j []
noncomputable def cB(n:Nat)(r:List Int):AV:=match r with
 |[]=>.slice none 0<|.known 0
 |x::l=>.slice (some (n,0)) (x::l).length<|.aU (x::l).length 1
noncomputable def iu(r:List Int):Option U:=match r with
 |[]=>none
 |x::l=>some<|aD aw<|x::l
noncomputable def dC(rs:List<|List Int)(j:Nat):AV:=cB (300+j)<|ro rs j
noncomputable def iM(rs:List<|List Int)(j:Nat):Option U:=iu<|ro rs j
def bB{α:Type}(f:Nat->α)(g:Nat)(v:α)(j:Nat):α:=if j=g then v else f j
noncomputable def eO(f:Nat->Option U):List<|Nat×Option U:=(List.range 61).map fun j=>(300+j,f j)
noncomputable def iF(G:Nat)(f:Nat->AV):List AV:=(List.range G).map f
noncomputable abbrev fe(G:Nat)(f:Nat->AV):U:=ak<|iF G f
theorem xn{n:Nat}{r:List Int}(h:r≠[]):cB n r= .slice (some (n,0)) r.length (.aU r.length 1):=by
 cases r with
 |nil=>exact absurd rfl h
 |cons=>rfl
theorem Jf{r:List Int}(h:r≠[]):iu r=some (aD aw r):=by
 cases r with
 |nil=>exact absurd rfl h
 |cons=>rfl
theorem lP(G:Nat)(f:Nat->AV):(iF G f).length=G:=by unfold iF;rw[List.length_map,List.length_range]
theorem DV(cs:List AV):ak cs=aD qP cs:=by unfold ak aD;rw[RT]
theorem xT{G g:Nat}{f:Nat->AV}{v:AV}(hG:G<=1000)(h:g<G)(hv:f g=v):cellsOf (some<|fe G f) (((g:Nat):Int).toNat*1) 1=some [v]:=by rw[Int.toNat_natCast,Nat.mul_one];show cellsOf (some<|ak<|iF G f) g 1=_;rw[DV];refine P0 (by rw[lP];unfold top;omega) ?_;unfold iF;rw[List.getElem?_map,List.getElem?_range h, ←hv];rfl
theorem CU{G j:Nat}{f:Nat->AV}(h:j<G):(iF G f)[j]? =some (f j):=by unfold iF;rw[List.getElem?_map,List.getElem?_range h];rfl
theorem NI{G g:Nat}{f:Nat->AV}{v:AV}:(iF G f).set g v=iF G (bB f g v):=by
 refine List.ext_getElem? fun j=>?_;by_cases h:j<G
 ·rw[List.getElem?_set,CU h,CU h,lP];unfold bB;by_cases q:g=j
  ·rw[if_pos q,if_pos (by omega),if_pos q.symm]
  ·rw[if_neg q,if_neg fun e=>q e.symm]
 ·rw[List.getElem?_eq_none (by rw[List.length_set,lP];omega),List.getElem?_eq_none (by rw[lP];omega)]
theorem Kf{G g:Nat}{f:Nat->AV}{v:AV}(hG:G<=1000)(h:g<G)(h1:v.bu=true):gA (some<|fe G f) (((g:Nat):Int).toNat*1) [v]=some (fe G<|bB f g v):=by rw[Int.toNat_natCast,Nat.mul_one];show gA (some<|ak<|iF G f) g [v]=some (ak<|iF G<|bB f g v);rw[DV,DV, ←NI];refine I4 (c:=f g) (by rw[lP];unfold top;omega) ?_ h1;unfold iF;rw[List.getElem?_map,List.getElem?_range h];rfl
def rX(a b nx aP k:Nat):Nat:=if k=a then b else if k<nx\/top<=k then k else max k aP
theorem nY{f:Nat->Option U}{p:Nat×Option U}:p∈eO f↔∃j,j<61/\p=(300+j,f j):=by
 unfold eO;rw[List.mem_map];constructor
 ·rintro ⟨j,h,rfl⟩;exact⟨j,List.mem_range.1 h,rfl⟩
 ·rintro ⟨j,h,rfl⟩;exact⟨j,List.mem_range.2 h,rfl⟩
theorem uh{a b aP:Nat}{l0 l1:List<|Nat×AV}{x0 x1:List<|Nat×Option U}{f0 f1:Nat->Option U}(ha:270<=a/\a<400)(hb:270<=b/\b<1000)(hs:aP<1000)(pX:b<aP)(hl:∀r,r=rX a b 400 aP->(∀k,top<=k->r k=k)->∀p∈l1,p.1<top/\∃x,(p.1,x)∈l0/\gQ [] r x p.2)(hx:∀r,r=rX a b 400 aP->(∀k,top<=k->r k=k)->∀p∈x1,(270<=p.1/\p.1<300)/\∀y,p.2=some y->y.fJ=true/\∃x,(r p.1,some x)∈x0++eO f0/\ff x y/\fh [] r x y)(hf:∀r,r=rX a b 400 aP->(∀k,top<=k->r k=k)->∀j,j<61->∀y,f1 j=some y->y.fJ=true/\∃x,(r<|300+j,some x)∈x0++eO f0/\ff x y/\fh [] r x y)(nC:∀p∈x1,p.1=b->p.1≠a->p.2=none)(pR:∀j,j<61->300+j=b->300+j≠a->f1 j=none):
 gE FU 270 aP l0 (au++(x0++eO f0)) l1 (au++(x1++eO f1)) 400:=by
 have ht:1000<top:=by unfold top;omega
 let r:=rX a b 400 aP;have rl:∀k,k<270->r k=k:=fun k hk=>by show rX a b 400 aP k=k;unfold rX;rw[if_neg (by omega),if_pos<|.inl<|by omega]
 have rt:∀k,top<=k->r k=k:=fun k hk=>by show rX a b 400 aP k=k;unfold rX;rw[if_neg (by omega),if_pos<|.inr hk]
 have rn:∀k,400<=k->k<top->aP<=r k/\r k<top:=fun k h1 h2=>by show aP<=rX a b 400 aP k/\rX a b 400 aP k<top;unfold rX;rw[if_neg (by omega),if_neg<|by omega];omega
 have rm:∀k,k<400->r k=if k=a then b else k:=fun k hk=>by
  show rX a b 400 aP k=_;unfold rX;split
  ·rfl
  ·rw[if_pos<|.inl hk]
 have ud:∀p∈au,p.1<270:=fun p hp=>by obtain⟨k,hk,e⟩:=List.mem_map.1 hp;rw[←e];exact yq k hk
 have low:∀p∈x1++eO f1,270<=p.1/\p.1<400:=fun p hp=>by
  rcases List.mem_append.1 hp with hp|hp
  ·have:=(hx r rfl rt p hp).1;omega
  ·obtain⟨j,hj,rfl⟩:=nY.1 hp;show 270<=300+j/\300+j<400;omega
 have LM:∀p∈x1++eO f1,p.1=b->p.1≠a->p.2=none:=fun p hp e1 e2=>by
  rcases List.mem_append.1 hp with hp|hp
  ·exact nC p hp e1 e2
  ·obtain⟨j,hj,rfl⟩:=nY.1 hp;exact pR j hj e1 e2
 refine⟨[],r,rl,rn,rt,by omega,fun p hp=>hl r rfl rt p hp,fun p hp=>?_,fun p hp q hq n1 n2 e=>?_,fun p hp=>(by cases hp),fun p hp=>(by cases hp)⟩
 ·rcases List.mem_append.1 hp with hp|hp
  ·have aW:=ud p hp;refine⟨by omega,fun y hy=>?_⟩;rw[rl _<|by omega];refine⟨by omega,Iz p hp y hy,y,List.mem_append_left _ (by rw[←hy];exact hp),ff.refl _,(Ac (nx:=270) (fun k hk=>rl k<|by omega) (by as_aux_lemma=>kernel_rfl) p hp y hy).z⟩
  ·have cx:=low p hp;refine⟨by omega,fun y hy=>?_⟩;have hr:r p.1<top:=by rw[rm _<|by omega];split<;>omega
   rcases List.mem_append.1 hp with hp|hp
   ·obtain⟨c1,x,c2,c3,c4⟩:=(hx r rfl rt p hp).2 y hy;exact⟨hr,c1,x,List.mem_append_right _ c2,c3,c4⟩
   ·obtain⟨j,hj,rfl⟩:=nY.1 hp;obtain⟨c1,x,c2,c3,c4⟩:=hf r rfl rt j hj y hy;exact⟨hr,c1,x,List.mem_append_right _ c2,c3,c4⟩
 ·have key:∀p∈au++(x1++eO f1),(p.1<270/\r p.1=p.1)\/(p∈x1++eO f1/\(270<=p.1/\p.1<400)/\r p.1=if p.1=a then b else p.1):=fun p hp=>by
   rcases List.mem_append.1 hp with hp|hp
   ·exact .inl ⟨ud p hp,rl _<|ud p hp⟩
   ·exact .inr ⟨hp,low p hp,rm _ (low p hp).2⟩
  rcases key p hp with⟨a1,a2⟩|⟨a1,a2,a3⟩<;>rcases key q hq with⟨c1,c2⟩|⟨c1,c2,c3⟩
  ·rw[a2,c2] at e;exact e
  ·rw[a2,c3] at e;split at e<;>omega
  ·rw[a3,c2] at e;split at e<;>omega
  ·rw[a3,c3] at e;by_cases p1:p.1=a<;>by_cases q1:q.1=a
   ·rw[p1,q1]
   ·rw[if_pos p1,if_neg q1] at e;exact absurd (LM q c1 e.symm q1) n2
   ·rw[if_neg p1,if_pos q1] at e;exact absurd (LM p a1 e p1) n1
   ·rw[if_neg p1,if_neg q1] at e;exact e
theorem uU{r:Nat->Nat}{G:Nat}{f0 f1:Nat->AV}(h:∀j,j<G->gQ [] r (f0 j) (f1 j))(h1:∀j,j<G->(f1 j).bu=true)(hG:G<=1000):fh [] r (fe G f0)<|fe G f1:=by
 have go:∀L:List Nat,(∀j∈L,gQ [] r (f0 j)<|f1 j)->oa [] r (L.map f0) (L.map f1):=fun L=>by
  induction L with
  |nil=>intro _;trivial
  |cons c L ih=>intro h;exact⟨h c List.mem_cons_self,ih fun c hc=>h c<|List.mem_cons_of_mem _ hc⟩
 have hv:=go (List.range G) fun j hj=>h j<|List.mem_range.1 hj;have hl:(iF G f0).length=(iF G f1).length:=by rw[lP,lP]
 refine fh.cells (l:=iF G f0) (m:=iF G f1) (by rw[lP];unfold top;omega) hv ?_;unfold iF;rw[List.all_map];exact List.all_eq_true.2 fun j hj=>h1 j<|List.mem_range.1 hj
theorem ia{r:Nat->Nat}{n m:Nat}{l:List Int}(h:l≠[]->r m=n):gQ [] r (cB n l)<|cB m l:=by
 cases l with
 |nil=>exact(bf.Ab).z
 |cons x l=>exact(bf.slice<|h (by intro e;cases e)).z
theorem Aj(n:Nat)(l:List Int):(cB n l).bu=true:=by cases l<;>rfl
theorem Er{r:Nat->Nat}{l:List Int}(h:l.length<=1000000):fh [] r (aD aw l)<|aD aw l:=(gm.aD (fun x=>⟨rfl,rfl⟩) (by rw[lf];unfold top;omega)).z
theorem rk{r:Nat->Nat}{a b aP k:Nat}(hr:r=rX a b 400 aP)(h:k≠a:=by omega)(h2:k<400:=by omega):r k=k:=by rw[hr];unfold rX;rw[if_neg h,if_pos<|.inl h2]
theorem ra{r:Nat->Nat}{a b aP:Nat}(hr:r=rX a b 400 aP):r a=b:=by rw[hr];unfold rX;rw[if_pos rfl]
def VZ(r:Nat->Nat):List (Nat×AV)->List (Nat×AV)->Prop
 |[],[]=>True
 |p::l,q::m=>(p.1=q.1/\p.1<200/\gQ [] r p.2 q.2)/\VZ r l m
 |_,_=>False
theorem VZ.at{r:Nat->Nat}:∀{l m:List<|Nat×AV},VZ r l m->∀p∈m,p.1<top/\∃x,(p.1,x)∈l/\gQ [] r x p.2
 |p::l,q::m,h,z,hz=>by
  obtain⟨⟨h1,h2,h3⟩,h4⟩:=h;rcases List.mem_cons.1 hz with rfl|hz
  ·exact⟨by unfold top;omega,p.2,by rw[←h1];exact List.mem_cons_self,h3⟩
  ·obtain⟨k1,x,k2,k3⟩:=VZ.at h4 z hz;exact⟨k1,x,List.mem_cons_of_mem _ k2,k3⟩
 |[],_::_,h,_,_=>h.elim
theorem tf{r:Nat->Nat}{l:List At}(ht:∀k,top<=k->r k=k):fh [] r (ak [aq ah l])<|ak [aq ah l]:=fh.cells (l:=[aq ah l]) (m:=[aq ah l]) (by show 1<=top;unfold top;omega) ⟨dZ ht,trivial⟩ rfl
def XZ(r:Nat->Nat)(o0:List<|Nat×Option U):List (Nat×Option U)->Prop
 |[]=>True
 |p::l=>((270<=p.1/\p.1<300)/\∀y,p.2=some y->y.fJ=true/\∃x,(r p.1,some x)∈o0/\ff x y/\fh [] r x y)/\XZ r o0 l
theorem XZ.at{r:Nat->Nat}{o0:List<|Nat×Option U}:∀{l:List<|Nat×Option U},XZ r o0 l->∀p∈l,(270<=p.1/\p.1<300)/\∀y,p.2=some y->y.fJ=true/\∃x,(r p.1,some x)∈o0/\ff x y/\fh [] r x y
 |q::l,h,p,hp=>by
  rcases List.mem_cons.1 hp with rfl|hp
  ·exact h.1
  ·exact XZ.at h.2 p hp
theorem xz{r:Nat->Nat}{o0:List<|Nat×Option U}{m n:Nat}{x y:U}(hm:(n,some x)∈o0)(hr:r m=n)(kp:ff x y)(FN:fh [] r x y)(pl:y.fJ=true:=by rfl):∀z,some y=some z->z.fJ=true/\∃x,(r m,some x)∈o0/\ff x z/\fh [] r x z:=FM hm hr kp FN pl
theorem kL{r:Nat->Nat}{o0:List<|Nat×Option U}{m n:Nat}{l:List Int}(hl:l.length<=1000000)(hm:l≠[]->(n,iu l)∈o0)(hr:l≠[]->r m=n):∀z,iu l=some z->z.fJ=true/\∃x,(r m,some x)∈o0/\ff x z/\fh [] r x z:=fun z e=>by
 cases l with
 |nil=>cases e
 |cons x l=>exact xz (hm (by intro h;cases h)) (hr (by intro h;cases h)) gP (Er hl) rfl z e
end yx
end
section
open Go Go.Rn Go.RowKit Go.Proofs
namespace Bw
open dx dG ep eV gq jb lD mw ou yx
noncomputable abbrev xM(l:List At)(G:Nat)(f:Nat->AV)(p out:List Int):List<|Nat×Option U:=[(270,some<|ak [aq ah l]),(271,some<|fe G f),(272,iu p),(273,iu out)]
noncomputable abbrev M4(l:List At)(G:Nat)(f:Nat->AV)(fo:Nat->Option U)(p out:List Int):List<|Nat×Option U:=au++(xM l G f p out++eO fo)
noncomputable abbrev Mc(l:List At)(G:Nat)(rs:List<|List Int)(out:List Int):List<|Nat×Option U:=M4 l G (dC rs) (iM rs) [] out
noncomputable abbrev Mo(l:List At)(G:Nat)(rs:List<|List Int)(g:Nat)(p out:List Int):List<|Nat×Option U:=M4 l G (bB (dC rs) g<|cB 272 p) (bB (iM rs) g none) p out
abbrev Bd(rs:List<|List Int):Prop:=∀j,(ro rs j).length<=1000000
theorem iV{α:Type}{f:Nat->α}{g:Nat}{v:α}:bB f g v g=v:=if_pos rfl
theorem jq{α:Type}{f:Nat->α}{g j:Nat}{v:α}(h:j≠g):bB f g v j=f j:=if_neg h
theorem uV(rs:List<|List Int)(j:Nat):(dC rs j).bu=true:=Aj _ _
section
variable {l:List At} {G:Nat} {rs eQ:List<|List Int} {p out r':List Int} {g n aP:Nat} {l0 l1:List<|Nat×AV}
theorem AK(hb:Bd rs)(ho:out.length<=1000000)(hG:G<=61)(hs:aP<1000)(EV:270<aP)(hl:∀r,r=rX 270 270 400 aP->(∀k,top<=k->r k=k)->VZ r l0 l1):gE FU 270 aP l0 (Mc l G rs out) l1 (Mc l G rs out) 400:=by
 refine uh (a:=270) (b:=270) ⟨by omega,by omega⟩ ⟨by omega,by omega⟩ hs EV (fun r hr ht=>(hl r hr ht).at) (fun r hr ht=>XZ.at ?_) (fun r hr ht j hj y e=>?_) (fun p hp e1 e2=>absurd e1 e2) fun j hj e1 e2=>absurd e1 e2
 ·refine⟨⟨⟨by omega,by omega⟩,xz (mi 0) (ra hr) gP<|tf ht⟩,⟨⟨by show 270<=271;omega,by show 271<300;omega⟩,xz (mi 1) (rk hr) gP<|uU (fun j hj=>ia fun _=>rk hr) (fun j hj=>uV rs j)<|by omega⟩,⟨⟨by show 270<=272;omega,by show 272<300;omega⟩,fun y e=>by cases e⟩,⟨⟨by show 270<=273;omega,by show 273<300;omega⟩,kL ho (fun _=>mi 3) fun _=>rk hr⟩,trivial⟩
 ·exact kL (hb j) (fun _=>List.mem_append_right _<|nY.2 ⟨j,hj,rfl⟩) (fun _=>rk hr) y e
theorem JH(hp:ro rs g=p)(hb:Bd rs)(ho:out.length<=1000000)(hG:G<=61)(hg:g<61)(hs:aP<1000)(yH:400<=aP)(hl:∀r,r=rX 272 (300+g) 400 aP->(∀k,top<=k->r k=k)->VZ r l0 l1):gE FU 270 aP l0 (Mc l G rs out) l1 (Mo l G rs g p out) 400:=by
 subst hp;refine uh (a:=272) (b:=300+g) ⟨by omega,by omega⟩ ⟨by omega,by omega⟩ hs (by omega) (fun r hr ht=>(hl r hr ht).at) (fun r hr ht=>XZ.at ?_) (fun r hr ht j hj y e=>?_) (fun q hq e1 e2=>?_) fun j hj e1 e2=>?_
 ·refine⟨⟨⟨by omega,by omega⟩,xz (mi 0) (rk hr) gP<|tf ht⟩,⟨⟨by show 270<=271;omega,by show 271<300;omega⟩,xz (mi 1) (rk hr) gP<|uU (fun j hj=>?_) (fun j hj=>?_)<|by omega⟩,⟨⟨by show 270<=272;omega,by show 272<300;omega⟩,kL (hb g) (fun _=>List.mem_append_right _<|nY.2 ⟨g,hg,rfl⟩) fun _=>ra hr⟩,⟨⟨by show 270<=273;omega,by show 273<300;omega⟩,kL ho (fun _=>mi 3) fun _=>rk hr⟩,trivial⟩
  ·by_cases q:j=g
   ·subst q;rw[iV];exact ia fun _=>ra hr
   ·rw[jq q];exact ia fun _=>rk hr
  ·by_cases q:j=g
   ·subst q;rw[iV];exact Aj _ _
   ·rw[jq q];exact uV rs j
 ·by_cases q:j=g
  ·subst q;rw[iV] at e;cases e
  ·rw[jq q] at e;exact kL (hb j) (fun _=>List.mem_append_right _<|nY.2 ⟨j,hj,rfl⟩) (fun _=>rk hr) y e
 ·simp only[List.mem_cons,List.not_mem_nil,or_false] at hq;rcases hq with rfl|rfl|rfl|rfl<;>(have e1:_=300+g:=e1;simp only at e1;omega)
 ·rw[show j=g by omega];exact iV
theorem Qa(hp:ro rs g=p)(hb:Bd rs)(ho:out.length<=1000000)(hG:G<=61)(hg:g<61)(hs:aP<1000)(yH:400<=aP)(hl:∀r,r=rX (300+g) 272 400 aP->(∀k,top<=k->r k=k)->VZ r l0 l1):gE FU 270 aP l0 (Mo l G rs g p out) l1 (Mc l G rs out) 400:=by
 subst hp;refine uh (a:=300+g) (b:=272) ⟨by omega,by omega⟩ ⟨by omega,by omega⟩ hs (by omega) (fun r hr ht=>(hl r hr ht).at) (fun r hr ht=>XZ.at ?_) (fun r hr ht j hj y e=>?_) (fun q hq e1 e2=>?_) (fun j hj e1 e2=>by omega)
 ·refine⟨⟨⟨by omega,by omega⟩,xz (mi 0) (rk hr) gP<|tf ht⟩,⟨⟨by show 270<=271;omega,by show 271<300;omega⟩,xz (mi 1) (rk hr) gP<|uU (fun j hj=>?_) (fun j hj=>uV rs j)<|by omega⟩,⟨⟨by show 270<=272;omega,by show 272<300;omega⟩,fun y e=>by cases e⟩,⟨⟨by show 270<=273;omega,by show 273<300;omega⟩,kL ho (fun _=>mi 3) fun _=>rk hr⟩,trivial⟩;by_cases q:j=g
  ·subst q;rw[iV];exact ia fun _=>ra hr
  ·rw[jq q];exact ia fun _=>rk hr
 ·by_cases q:j=g
  ·subst q;exact kL (hb j) (fun _=>List.mem_append_left _<|mi 2) (fun _=>ra hr) y e
  ·refine kL (hb j) (n:=300+j) (fun _=>List.mem_append_right _<|nY.2 ⟨j,hj,?_⟩) (fun _=>rk hr) y e;rw[jq q];rfl
 ·simp only[List.mem_cons,List.not_mem_nil,or_false] at hq;rcases hq with rfl|rfl|rfl|rfl<;>first|rfl|(have e1:_=272:=e1;simp only at e1;omega)
theorem Kg(j8:r'≠[])(FX:r'.length<=1000000)(hn:eQ.length=rs.length)(aC:ro eQ g=r')(pH:∀j,j≠g->ro eQ j=ro rs j)(hb:Bd rs)(hG:G<=61)(hg:g<61)(FY:400<=n/\n<aP)(hs:aP<1000)(hl:∀r,r=rX (300+g) n 400 aP->(∀k,top<=k->r k=k)->VZ r l0 l1):
 gE FU 270 aP l0 (au++([(270,some<|ak [aq ah l]),(271,some<|fe G<|bB (bB (dC rs) g<|cB 272 p) g<|.slice (some (n,0)) r'.length<|.aU r'.length 1),(n,some<|aD aw r')]++eO (bB (iM rs) g none))) l1 (Mc l G eQ []) 400:=by
 refine uh (a:=300+g) (b:=n) ⟨by omega,by omega⟩ ⟨by omega,by omega⟩ hs FY.2 (fun r hr ht=>(hl r hr ht).at) (fun r hr ht=>XZ.at ?_) (fun r hr ht j hj y e=>?_) (fun q hq e1 e2=>?_) (fun j hj e1 e2=>by omega)
 ·refine⟨⟨⟨by omega,by omega⟩,xz (mi 0) (rk hr) gP<|tf ht⟩,⟨⟨by show 270<=271;omega,by show 271<300;omega⟩,xz (mi 1) (rk hr) gP<|uU (fun j hj=>?_) (fun j hj=>uV eQ j)<|by omega⟩,⟨⟨by show 270<=272;omega,by show 272<300;omega⟩,fun y e=>by cases e⟩,⟨⟨by show 270<=273;omega,by show 273<300;omega⟩,fun y e=>by cases e⟩,trivial⟩;by_cases q:j=g
  ·subst q;rw[iV];unfold dC;rw[aC,xn j8];exact(bf.slice<|ra hr).z
  ·rw[jq q,jq q];unfold dC;rw[pH j q];exact ia fun _=>rk hr
 ·unfold iM at e;by_cases q:j=g
  ·subst q;rw[aC,Jf j8] at e;exact xz (List.mem_append_left _<|mi 2) (ra hr) gP (Er FX) rfl y e
  ·rw[pH j q] at e;refine kL (hb j) (n:=300+j) (fun _=>List.mem_append_right _<|nY.2 ⟨j,hj,?_⟩) (fun _=>rk hr) y e;rw[jq q];rfl
 ·simp only[List.mem_cons,List.not_mem_nil,or_false] at hq;rcases hq with rfl|rfl|rfl|rfl<;>first|rfl|(have e1:_=n:=e1;simp only at e1;omega)
theorem A3(j8:r'≠[])(FX:r'.length<=1000000)(hp:p.length<=1000000)(hb:Bd rs)(hG:G<=61)(hg:g<61)(FY:400<=n/\n<aP)(hs:aP<1000)(hl:∀r,r=rX 273 n 400 aP->(∀k,top<=k->r k=k)->VZ r l0 l1):
 gE FU 270 aP l0 (au++([(270,some<|ak [aq ah l]),(271,some<|fe G<|bB (dC rs) g<|cB 272 p),(272,iu p),(n,some<|aD aw r')]++eO (bB (iM rs) g none))) l1 (Mo l G rs g p r') 400:=by
 refine uh (a:=273) (b:=n) ⟨by omega,by omega⟩ ⟨by omega,by omega⟩ hs FY.2 (fun r hr ht=>(hl r hr ht).at) (fun r hr ht=>XZ.at ?_) (fun r hr ht j hj y e=>?_) (fun q hq e1 e2=>?_) (fun j hj e1 e2=>by omega)
 ·refine⟨⟨⟨by omega,by omega⟩,xz (mi 0) (rk hr) gP<|tf ht⟩,⟨⟨by show 270<=271;omega,by show 271<300;omega⟩,xz (mi 1) (rk hr) gP<|uU (fun j hj=>?_) (fun j hj=>?_)<|by omega⟩,⟨⟨by show 270<=272;omega,by show 272<300;omega⟩,kL hp (fun _=>mi 2) fun _=>rk hr⟩,⟨⟨by show 270<=273;omega,by show 273<300;omega⟩,fun y e=>?_⟩,trivial⟩
  ·by_cases q:j=g
   ·subst q;rw[iV];exact ia fun _=>rk hr
   ·rw[jq q];exact ia fun _=>rk hr
  ·by_cases q:j=g
   ·subst q;rw[iV];exact Aj _ _
   ·rw[jq q];exact uV rs j
  ·have e:iu r'=some y:=e;rw[Jf j8] at e;exact xz (mi 3) (ra hr) gP (Er FX) rfl y e
 ·by_cases q:j=g
  ·subst q;rw[iV] at e;cases e
  ·rw[jq q] at e;refine kL (hb j) (n:=300+j) (fun _=>List.mem_append_right _<|nY.2 ⟨j,hj,?_⟩) (fun _=>rk hr) y e;rw[jq q];rfl
 ·simp only[List.mem_cons,List.not_mem_nil,or_false] at hq;rcases hq with rfl|rfl|rfl|rfl<;>(have e1:_=n:=e1;simp only at e1;omega)
theorem Dx(hp:p.length<=1000000)(hb:Bd rs)(ho:out.length<=1000000)(hG:G<=61)(hs:aP<1000)(EV:270<aP)(hl:∀r,r=rX 270 270 400 aP->(∀k,top<=k->r k=k)->VZ r l0 l1):gE FU 270 aP l0 (Mo l G rs g p out) l1 (Mo l G rs g p out) 400:=by
 refine uh (a:=270) (b:=270) ⟨by omega,by omega⟩ ⟨by omega,by omega⟩ hs EV (fun r hr ht=>(hl r hr ht).at) (fun r hr ht=>XZ.at ?_) (fun r hr ht j hj y e=>?_) (fun p hp e1 e2=>absurd e1 e2) fun j hj e1 e2=>absurd e1 e2
 ·refine⟨⟨⟨by omega,by omega⟩,xz (mi 0) (ra hr) gP<|tf ht⟩,⟨⟨by show 270<=271;omega,by show 271<300;omega⟩,xz (mi 1) (rk hr) gP<|uU (fun j hj=>?_) (fun j hj=>?_)<|by omega⟩,⟨⟨by show 270<=272;omega,by show 272<300;omega⟩,kL hp (fun _=>mi 2) fun _=>rk hr⟩,⟨⟨by show 270<=273;omega,by show 273<300;omega⟩,kL ho (fun _=>mi 3) fun _=>rk hr⟩,trivial⟩
  ·by_cases q:j=g
   ·subst q;rw[iV];exact ia fun _=>rk hr
   ·rw[jq q];exact ia fun _=>rk hr
  ·by_cases q:j=g
   ·subst q;rw[iV];exact Aj _ _
   ·rw[jq q];exact uV rs j
 ·by_cases q:j=g
  ·subst q;rw[iV] at e;cases e
  ·rw[jq q] at e;refine kL (hb j) (n:=300+j) (fun _=>List.mem_append_right _<|nY.2 ⟨j,hj,?_⟩) (fun _=>rk hr) y e;rw[jq q];rfl
end
end Bw
end
section
open Go Go.Rn Go.RowKit Go.Proofs
namespace EW
open dx dG ep eV gq jb lD mw ou yx Bw
noncomputable abbrev yy(n:Nat):U:=.cells (n*1) .nil [.slice none 0<|.known 0]
noncomputable abbrev FZ(n:Nat):AS->AS:=oo<|yy n
abbrev LN(s:AS):Prop:=s.nx=271
theorem Qb{n:Nat}(hn:n<=1000000)(s:AS)(hs:LN s):makeSlice Tryz.prog 56 (.int .i64 (n:Int)) (.int .i64 (n:Int)) s= .ok (.slice (some (271,0)) n<|.known n) (FZ n s):=by
 have hu:Tryz.prog.underlying 56=some (.slice 30):=by kernel_rfl
 have hz:fC Tryz.prog 30=some (.slice none 0<|.known 0):=by kernel_rfl
 have hi:(match Tryz.prog.info? 30 with|some i=>Nat.beq i.size 1&&Nat.beq i.bytes 24|none=>false)=true:=by kernel_rfl
 unfold makeSlice;simp only[hu];cases e:Tryz.prog.info? 30 with
 |none=>rw[e] at hi;cases hi
 |some i=>
  rw[e] at hi;obtain⟨h1,h2⟩:=and_true.1 hi;have h1:=Nat.eq_of_beq_eq_true h1;have h2:=Nat.eq_of_beq_eq_true h2;rw[show Rn.intOf (.int .i64 (n:Int))=some (n:Int) from rfl,aO,aO,aO];have w1:within (n:Int) room=some n:=by show(match Nat.blt n room with|true=>some n|false=>none)=_;rw[(blt_eq _ _).mpr (show n<room by unfold room;omega)]
  have w2:within (n:Int) (n+1)=some n:=by show(match Nat.blt n (n+1) with|true=>some n|false=>none)=_;rw[(blt_eq _ _).mpr<|Nat.lt_succ_self n]
  rw[w1,aO,w2,aO,hz,aO,h1,h2];rw[show(and (Nat.ble (n*24) room)<|and (Nat.ble (n*1) top)<|and (or (Nat.beq (n*1) 0)<|not<|Nat.beq (AV.slice none 0<|.known 0).cells.length 0)<|(AV.slice none 0<|.known 0).cells.all AV.bu)=true by rw[aK.2 (show n*24<=room by unfold room;omega),aK.2 (show n*1<=top by unfold top;omega)];show(and true<|and true<|and (or (Nat.beq (n*1) 0) true) true)=true;cases Nat.beq (n*1) 0<;>rfl,bD];rw[M.bg<|An (by rw[hs];unfold top;omega),hs];show R.ok _ _=_;unfold FZ oo;rw[hs];rfl
theorem JI(G j:Nat):ro (List.replicate G []) j=[]:=by unfold ro;rw[List.getD_eq_getElem?_getD,List.getElem?_replicate];split<;>rfl
theorem Q2{r:Nat->Nat}{n:Nat}(hn:n<=1000):gm r (yy n)<|fe n<|dC<|List.replicate n []:=fun ρ N o k=>by
 show OR _ _ (ak<|iF n<|dC<|List.replicate n []) _;unfold ak;simp only[OR] at k ⊢;obtain⟨c,e,rfl,k1,k2,k3⟩:=k;refine⟨c,e,rfl,k1,by rw[lP];omega,fun i hi=>?_⟩;rw[lP] at hi;obtain⟨x,v,a1,a2,a3,a4⟩:=k3 i (by omega);have hx:x= .slice none 0 (.known 0):=by have a1:cellAt .nil [.slice none 0<|.known 0] i=some x:=a1;unfold cellAt at a1;rw[show(Tr.nil:Tr AV).get i=none from Tr.get_nil i] at a1;have a1:[AV.slice none 0<|.known 0][i % 1]? =some x:=a1;rw[Nat.mod_one] at a1;cases a1;rfl
 subst hx;refine⟨.slice none 0<|.known 0,v,?_,a2,a3,bf.Ab ρ v a4⟩;unfold cellAt;rw[Tr.nS _ _ _ _ (by rw[lP];unfold top;omega),if_pos (by rw[lP];omega),Nat.sub_zero,CU hi];show some (dC (List.replicate n []) i)=_;unfold dC;rw[JI];rfl
theorem Q3{l:List At}{G aP:Nat}{l0 l1:List<|Nat×AV}(hG:G<=61)(hs:aP=272)(hl:∀r,r=rX 270 270 400 aP->(∀k,top<=k->r k=k)->VZ r l0 l1):
 gE FU 270 aP l0 (au++([(270,some<|ak [aq ah l]),(271,some<|yy G)]++eO fun _=>none)) l1 (Mc l G (List.replicate G []) []) 400:=by
 subst hs;refine uh (a:=270) (b:=270) ⟨by omega,by omega⟩ ⟨by omega,by omega⟩ (by omega) (by omega) (fun r hr ht=>(hl r hr ht).at) (fun r hr ht=>XZ.at ?_) (fun r hr ht j hj y e=>?_) (fun p hp e1 e2=>absurd e1 e2) fun j hj e1 e2=>absurd e1 e2
 ·exact⟨⟨⟨by omega,by omega⟩,xz (mi 0) (ra hr) gP<|tf ht⟩,⟨⟨by show 270<=271;omega,by show 271<300;omega⟩,xz (mi 1) (rk hr) gP (Q2<|by omega).z⟩,⟨⟨by show 270<=272;omega,by show 272<300;omega⟩,fun y e=>by cases e⟩,⟨⟨by show 270<=273;omega,by show 273<300;omega⟩,fun y e=>by cases e⟩,trivial⟩
 ·unfold iM at e;rw[JI] at e;cases e
theorem R0{j aP:Nat}{l:List At}{G:Nat}{rs:List<|List Int}{r:List Int}(hj:j<100)(hl:r.length<=1000000)(h1:273<aP)(h2:aP<top):gE FU 270 aP [(j,cB 273 r)] (au++[(273,iu r)]) [(j,aq aw r)] au 270:=by
 cases r with
 |nil=>
  exact A1 (fz:=[]) (by omega) (by omega) h2 (fun f hr ht p hp=>by
   rw[List.mem_singleton] at hp;subst hp;exact⟨by show j<top;unfold top;omega,_,mi 0,I3⟩) (fun f hr ht p hp=>by
   obtain⟨a,b⟩:=A2 (fz:=[]) hr p hp;refine⟨a,fun y hy=>?_⟩;obtain⟨c,d⟩:=b y hy;exact⟨c,y,List.mem_append_left _ (by rw[←hy];exact hp),ff.refl _,d⟩) (fun p hp=>by cases hp)
 |cons x r=>exact LD (n:=273) hj rfl hl (by omega) h1 h2
end EW
end
