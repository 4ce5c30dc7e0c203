import Derived.Test.YthbfipeeifofpaaGreatDoorRnGH
import Derived.Test.YthbfipeeifofpaaGreatDoorProg
import Derived.Shelf.SlSortCmp.NoneTotal
import Derived.Test.YthbfipeeifofpaaGreatDoorAtGO
import Derived.Test.YthbfipeeifofpaaGreatDoorRnGI
set_option maxRecDepth 100000
set_option maxHeartbeats 8000000
set_option linter.unusedSimpArgs false
set_option linter.unusedVariables false
section
open Go Go.Rn Go.RowKit Go.Proofs Go.Shelf Go.Lib Go.Sort
namespace W8
def vX:Go.Shelf.Ren:=⟨fun|6=>62|14=>78|15=>79|20=>85|21=>86|22=>87|23=>88|24=>89|25=>90|26=>91|27=>92|28=>93|29=>94|46=>97|47=>98|48=>99|49=>100|50=>101|57=>103|n=>n,fun|0=>0|3=>3|4=>4|5=>5|9=>9|22=>26|25=>128|39=>144|45=>152|46=>153|50=>38|53=>159|55=>161|66=>163|70=>167|76=>170|77=>100|24=>35|n=>n,fun n=>n⟩
theorem lays:SlLaysF0.n6 Tryz.prog vX:={
 mixed:=by kernel_rfl
 f6:=⟨Tryz.f62.name,by decide,Tryz.func62.trans<|congrArg some<|by kernel_rfl⟩
 f14:=⟨Tryz.f78.name,by decide,Tryz.func78.trans<|congrArg some<|by kernel_rfl⟩
 f15:=Tryz.func79.trans (congrArg some<|by kernel_rfl)
 f20:=⟨Tryz.f85.name,by decide,Tryz.func85.trans<|congrArg some<|by kernel_rfl⟩
 f21:=⟨Tryz.f86.name,by decide,Tryz.func86.trans<|congrArg some<|by kernel_rfl⟩
 f22:=⟨Tryz.f87.name,by decide,Tryz.func87.trans<|congrArg some<|by kernel_rfl⟩
 f23:=⟨Tryz.f88.name,by decide,Tryz.func88.trans<|congrArg some<|by kernel_rfl⟩
 f24:=⟨Tryz.f89.name,by decide,Tryz.func89.trans<|congrArg some<|by kernel_rfl⟩
 f25:=⟨Tryz.f90.name,by decide,Tryz.func90.trans<|congrArg some<|by kernel_rfl⟩
 f26:=⟨Tryz.f91.name,by decide,Tryz.func91.trans<|congrArg some<|by kernel_rfl⟩
 f27:=⟨Tryz.f92.name,by decide,Tryz.func92.trans<|congrArg some<|by kernel_rfl⟩
 f28:=Tryz.func93.trans (congrArg some<|by kernel_rfl)
 f29:=Tryz.func94.trans (congrArg some<|by kernel_rfl)
 f46:=⟨Tryz.f97.name,by decide,Tryz.func97.trans<|congrArg some<|by kernel_rfl⟩
 f47:=Tryz.func98.trans (congrArg some<|by kernel_rfl)
 f48:=Tryz.func99.trans (congrArg some<|by kernel_rfl)
 f49:=⟨Tryz.f100.name,by decide,Tryz.func100.trans<|congrArg some<|by kernel_rfl⟩
 f50:=⟨Tryz.f101.name,by decide,Tryz.func101.trans<|congrArg some<|by kernel_rfl⟩
 f57:=⟨Tryz.f103.name,by decide,Tryz.func103.trans<|congrArg some<|by kernel_rfl⟩
 t0:=Tryz.underlying0
 a0:=Tryz.isAgg0
 z0:=Tryz.sizeOf0
 v0:=Tryz.zeroValue0
 t3:=Tryz.underlying3
 a3:=Tryz.isAgg3
 z3:=Tryz.sizeOf3
 v3:=Tryz.zeroValue3
 t4:=Tryz.underlying4
 a4:=Tryz.isAgg4
 z4:=Tryz.sizeOf4
 v4:=Tryz.zeroValue4
 t5:=Tryz.underlying5
 a5:=Tryz.isAgg5
 z5:=Tryz.sizeOf5
 v5:=Tryz.zeroValue5
 t9:=Tryz.underlying9
 a9:=Tryz.isAgg9
 z9:=Tryz.sizeOf9
 v9:=Tryz.zeroValue9
 t22:=Tryz.underlying26
 a22:=Tryz.isAgg26
 z22:=Tryz.sizeOf26
 v22:=Tryz.zeroValue26
 t25:=Tryz.underlying128
 a25:=Tryz.isAgg128
 z25:=Tryz.sizeOf128
 v25:=Tryz.zeroValue128
 t39:=Tryz.underlying144
 a39:=Tryz.isAgg144
 z39:=Tryz.sizeOf144
 v39:=Tryz.zeroValue144
 t45:=Tryz.underlying152
 a45:=Tryz.isAgg152
 z45:=Tryz.sizeOf152
 v45:=Tryz.zeroValue152
 t46:=Tryz.underlying153
 a46:=Tryz.isAgg153
 z46:=Tryz.sizeOf153
 v46:=Tryz.zeroValue153
 t50:=Tryz.underlying38
 a50:=Tryz.isAgg38
 z50:=Tryz.sizeOf38
 v50:=Tryz.zeroValue38
 t53:=Tryz.underlying159
 a53:=Tryz.isAgg159
 z53:=Tryz.sizeOf159
 v53:=Tryz.zeroValue159
 t55:=Tryz.underlying161
 a55:=Tryz.isAgg161
 z55:=Tryz.sizeOf161
 v55:=Tryz.zeroValue161
 t66:=Tryz.underlying163
 a66:=Tryz.isAgg163
 z66:=Tryz.sizeOf163
 v66:=Tryz.zeroValue163
 t70:=Tryz.underlying167
 a70:=Tryz.isAgg167
 z70:=Tryz.sizeOf167
 v70:=Tryz.zeroValue167
 t76:=Tryz.underlying170
 a76:=Tryz.isAgg170
 z76:=Tryz.sizeOf170
 v76:=Tryz.zeroValue170
 t77:=Tryz.underlying100
 a77:=Tryz.isAgg100
 z77:=Tryz.sizeOf100
 v77:=Tryz.zeroValue100}
theorem aiC(x y:Int×Int)(W:World):Calls Tryz.prog 63 #[.agg #[.int .i64 x.1,.int .i64 x.2],.agg #[.int .i64 y.1,.int .i64 y.2]] W fun e w'=>e= .returned (.int .i64<|Lib.compareInt x.1 y.1)/\∃q os',w'=grow (W.drewN q) os':=by
 have W9:∀W',Calls Tryz.prog 64 #[.int .i64 x.1,.int .i64 y.1] W' fun e w'=>e= .returned (.int .i64<|Lib.compareInt x.1 y.1)/\w'=W':=fun W'=>by
  unfold Lib.compareInt
  go_enter Tryz.func64,Tryz.ntmps64
  go_wp2
  all_goals go_ret
  all_goals simp_all
  all_goals omega
 generalize Lib.compareInt x.1 y.1=r at W9 ⊢
 go_enter Tryz.func63,Tryz.ntmps63
 go_wp2_with (go_at_call 64;refine(W9 _).mono ?_;rintro e w' ⟨rfl,rfl⟩)
 go_ret
 exact⟨rfl,0,_,by rw[alloc_eq_grow,alloc_eq_grow,grow_grow];rfl⟩
theorem Li(x y:Int×Int):ltOf (fun x y:Int×Int=>Lib.compareInt x.1 y.1) x y=decide (x.1<y.1):=by
 unfold ltOf Lib.compareInt;by_cases h1:x.1<y.1
 ·simp[h1]
 ·by_cases h2:y.1<x.1<;>simp[h1,h2]
theorem swo:SWO (ltOf fun x y:Int×Int=>Lib.compareInt x.1 y.1) where
 irrefl x:=by rw[Li];simp
 trans x y z h1 h2:=by rw[Li] at*;simp at*;omega
 ntrans x y z h1 h2:=by rw[Li] at*;simp at*;omega
theorem Az:∀(l:List<|Int×Int) (i:Nat),i<l.length*2->(l.map lr).flatten[i]? =some ((lr (l.toArray)[i / 2]!)[i % 2]!)
 |[],i,h=>by simp at h
 |p::l,0,_=>rfl
 |p::l,1,_=>rfl
 |p::l,i+2,h=>by
  have h':i<l.length*2:=by rw[List.length_cons] at h;omega
  have e:=Az l i h';have a1:((p::l).map lr).flatten[i+2]? =(l.map lr).flatten[i]? :=rfl;have a2:(i+2) / 2=i / 2+1:=by omega
  have a3:(i+2) % 2=i % 2:=by omega
  have a4:(p::l).toArray[i / 2+1]! =l.toArray[i / 2]! :=by
   have q:i / 2<l.length:=by omega
   rw[getElem!_pos _ _ (by show i / 2+1<(p::l).length;rw[List.length_cons];omega),getElem!_pos _ _<|by exact q];rfl
  rw[a1,e,a2,a3,a4]
theorem T2(l:List<|Int×Int)(i:Nat)(h:i<l.length*2):(flatK lr 2 l.toArray)[i]! =((l.map lr).flatten[i]?).getD default:=by rw[get_flatK _ _ _ _ (by exact h),Az l i h];rfl
theorem isSort:C5 Tryz.prog 62 63 where
 is:=⟨_,aS Tryz.prog 62 [],Tryz.func62,by kernel_rfl,by kernel_rfl⟩
 WZ a c w:=AnyF.slices_SortFunc_none lays a c _ w
 rows b c l cs e w hb hc hl nd:=by
  have K6:b<w.heap.size:=(Array.getElem?_eq_some_iff.1 hb).1;have hlen:(l.map lr).flatten.length=l.length*2:=by rw[Fi,List.length_map,Cp]
  have hH:HoldsK lr 2 w b 0 l.toArray:=fun j hj=>by
   rw[size_flatK] at hj;have hj:j<l.length*2:=hj;refine⟨?_,?_⟩
   ·rw[T2 l j hj,List.getElem?_eq_getElem<|by omega];unfold World.cell?;simp only[hb];rw[Nat.zero_add];exact hc j _ (List.getElem?_eq_getElem<|by omega)
   ·unfold World.frozen?;simp only[hb];simp
  refine(AnyQ.slices_SortFunc lays 2 Tryz.isAgg35 Tryz.sizeOf35 lr (fun _=>rfl) (fun x v hv=>by simp[lr] at hv;rcases hv with rfl|rfl<;>rfl) (fun x y=>Lib.compareInt x.1 y.1) swo 63 #[] b 0 c l.toArray w (fun args w=>enters_of Tryz.func63 (by kernel_rfl) rfl args w) (fun _ _ _ _ x y=>aiC x y _) hH K6 (by show l.length<_;omega)).mono fun e' w'=>?_;rintro ⟨rfl,d',n,os,⟨p1,_,p3⟩,hs,rfl⟩;have hd:d'.toList=dP l:=by
   have ko:d'.size=l.length:=p1;refine TP nd ?_ ?_
   ·have e1:d'.extract 0 l.toArray.size=d':=by rw[show l.toArray.size=d'.size from p1.symm];simp
    have e2:l.toArray.extract 0 l.toArray.size=l.toArray:=by simp
    rw[e1,e2] at p3;exact p3
   ·rw[List.pairwise_iff_getElem];intro i j hi hj lz;have ir:i<d'.size:=by simpa using hi
    have rM:j<d'.size:=by simpa using hj
    have:=hs i j (Nat.zero_le _) lz (by show j<l.length;omega);rw[getElem!_pos d' i ir,getElem!_pos d' j rM,Li] at this;have:=of_decide_eq_false this;rw[Array.getElem_toList,Array.getElem_toList];omega
  have hdl:d'=(dP l).toArray:=by rw[←hd]
  have ko:d'.size=l.length:=p1;subst hdl;refine⟨rfl,⟨rfl,rfl,rfl,?_⟩,fun k hk hkb=>?_,putCells id 0 (flatK lr 2 (dP l).toArray) cs,?_,by unfold putCells;rw[Array.size_mapIdx],fun i v hv=>?_⟩
  ·show w.heap.size<=((w.heap.modify b _)++os).size;rw[Array.size_append,Array.size_modify];omega
  ·show((w.heap.modify b _)++os)[k]? =_;rw[Array.getElem?_append_left (by rw[Array.size_modify];exact hk),Array.getElem?_modify,if_neg<|Ne.symm hkb]
  ·show((w.heap.modify b _)++os)[b]? =_;rw[Array.getElem?_append_left (by rw[Array.size_modify];exact K6),Array.getElem?_modify,if_pos rfl,hb];rfl
  ·have hi:=(List.getElem?_eq_some_iff.1 hv).1;have jG:i<l.length*2:=by rw[Fi,List.length_map,Cp,Aj] at hi;exact hi
   have Yr:i<(dP l).length*2:=by rw[Aj];exact jG
   unfold putCells;rw[Array.getElem?_mapIdx];have qF:cs[i]? =some ((l.map lr).flatten[i]'(by omega)):=hc i _ (List.getElem?_eq_getElem<|by omega);rw[qF];show some (if 0<=i/\i<0+(flatK lr 2 (dP l).toArray).size then id (flatK lr 2 (dP l).toArray)[i - 0]! else _)=some v;rw[if_pos ⟨Nat.zero_le _,by rw[size_flatK,Nat.zero_add];exact Yr⟩,Nat.sub_zero];show some ((flatK lr 2 (dP l).toArray)[i]!)=some v;rw[T2 _ i Yr,hv];rfl
end W8
end
section
open Go Go.Rn Go.RowKit Go.Proofs
open Go.ChangeShapes
namespace ahg
open ch cG eO dj JO rk mI mA eX fO iz vC tL ij zB DR F2 Kl Km JP PW Wh
variable {v:Value} {b0:Nat} {p:List MemPlace} {t:TypeId}
section
variable {H:Type} {enc:TypeId×Value->H} {w:World} {base:Nat} {sp:Nat->Bool} {held:Bool}
theorem wf_u8{n:Int}(h:(Lit.int .u8 n).wf=true):0<=n/\n<=255:=by obtain⟨h1,h2⟩:=and_true.1 (show(decide (IntKind.u8.min<=n)&&decide (n<=IntKind.u8.max))=true from h);exact⟨of_decide_eq_true h1,of_decide_eq_true h2⟩
theorem Yt:Tryz.prog.cellsOf 2=1:=by kernel_rfl
theorem sz3:Tryz.prog.cellsOf 3=1:=by kernel_rfl
theorem Yu:Tryz.prog.cellsOf 5=1:=by kernel_rfl
theorem aiD:Tryz.prog.cellsOf 22=1:=by kernel_rfl
theorem aiE:Tryz.prog.cellsOf 41=1:=by kernel_rfl
theorem Xb:Tryz.prog.cellsOf 43=3:=by kernel_rfl
theorem Xc:Tryz.prog.cellsOf 45=10:=by kernel_rfl
theorem Jq{x y:Value}(h:[x]=[y]):x=y:=by injection h
theorem aee{fuel:Nat}(hu:Tryz.prog.underlying t=some (.int .i64))(row:List Value)(_:row.length=1)(h2:∃n y,n<fuel/\DataW.trod enc pg w base sp held n t row=some y):∃a ms,JQ w encI (fun _=>True) row a ms:=by
 obtain⟨_,y,_,h⟩:=h2;obtain⟨a,rfl,_,_⟩:=DataW.trod_int hu h;refine⟨a,[],trivial,Good.nil,fun j x hx=>?_⟩;rcases j with _|j
 ·injection (show some _=some x from hx) with hx
  subst hx;exact⟨_,rfl,fun σ _=>by simp only[VR]⟩
 ·cases(show none=some x from hx)
theorem Wi:∀(fuel:Nat) (c0 c1 c2:Value) (y:DataW H×List MemPlace),DataW.trod enc pg w base sp held fuel 43 [c0,c1,c2]=some y->∃(op n:Int) (args:List Ex) (ms:mq),c0= .int .u8 op/\c1= .int .i64 n/\Good w ms/\Is ms (ax aC args) c2:=by
 intro fuel;induction fuel using Nat.strongRecOn with
 |ind fuel ih=>
  intro c0 c1 c2 y h;obtain⟨xs,n,Ys,_,hlen,Q5,hf⟩:=DataW.trod_struct Tryz.underlying43 h;have aiF:xs.length=3:=Q5
  match xs,aiF,hf with
  |[x0,x1,x2],_,hf=>
   have f0:DataW.trod enc pg w base sp held n 5 (([c0,c1,c2].drop 0).take<|Tryz.prog.cellsOf 5)=some x0:=hf 0 _ rfl;have f1:DataW.trod enc pg w base sp held n 2 (([c0,c1,c2].drop 1).take<|Tryz.prog.cellsOf 2)=some x1:=hf 1 _ rfl;have f2:DataW.trod enc pg w base sp held n 41 (([c0,c1,c2].drop 2).take<|Tryz.prog.cellsOf 41)=some x2:=hf 2 _ rfl;rw[Yu] at f0;rw[Yt] at f1;rw[aiE] at f2;obtain⟨a0,e0,_,_⟩:=DataW.trod_int Tryz.underlying5 f0;obtain⟨a1,e1,_,_⟩:=DataW.trod_int Tryz.underlying2 f1;obtain rfl:=Jq e0;obtain rfl:=Jq e1;obtain⟨l,ms,_,k2,k3⟩:=Ii (Q:=fun _:Ex=>True) ky (Nat.succ_pos _) Tryz.underlying41 Xb (fun row eR h2=>by
    obtain⟨n2,y2,tU,h2⟩:=h2
    match row,eR,h2 with
    |[d0,d1,d2],_,h2=>
     obtain⟨o',n',l',j9,rfl,rfl,g1,g2⟩:=ih n2 ab d0 d1 d2 y2 h2;refine⟨.mk o' n' l',j9,trivial,g1,fun j x hx=>?_⟩;rw[MT] at hx;rcases j with _|_|_|j
     ·injection (show some _=some x from hx) with hx
      subst hx;exact⟨_,rfl,fun σ _=>by simp only[VR]⟩
     ·injection (show some _=some x from hx) with hx
      subst hx;exact⟨_,rfl,fun σ _=>by simp only[VR]⟩
     ·injection (show some _=some x from hx) with hx
      subst hx;exact⟨_,rfl,g2⟩
     ·cases(show none=some x from hx)) (show DataW.trod enc pg w base sp held n 41 [c2]=some x2 from f2)
   exact⟨a0,a1,l,ms,rfl,rfl,k2,k3⟩
def KQ(s:St):Prop:=(0<=fB s/\fB s<256)/\∀k,ru k (bF s)/\ru k (bE s)
theorem Nn{l:List St}(h:∀s∈l,KQ s):∀k,ru k l
 |0=>trivial
 |k+1=>fun s hs=>⟨(h s hs).1,(h s hs).2 k⟩
theorem afF:∀(fuel:Nat) (row:List Value) (y:DataW H×List MemPlace),row.length=10->DataW.trod enc pg w base sp held fuel 45 row=some y->∃a ms,JQ w aL KQ row a ms:=by
 intro fuel;induction fuel using Nat.strongRecOn with
 |ind fuel ih=>
  intro row y eR h;obtain⟨xs,n,Ys,_,hlen,Q5,hf⟩:=DataW.trod_struct Tryz.underlying45 h;have aiG:xs.length=6:=Q5
  match row,eR,xs,aiG,hf with
  |[c0,c1,c2,c3,c4,c5,c6,c7,c8,c9],_,[x0,x1,x2,x3,x4,x5],_,hf=>
   have f0:DataW.trod enc pg w base sp held n 5 (([c0,c1,c2,c3,c4,c5,c6,c7,c8,c9].drop 0).take<|Tryz.prog.cellsOf 5)=some x0:=hf 0 _ rfl;have f1:DataW.trod enc pg w base sp held n 3 (([c0,c1,c2,c3,c4,c5,c6,c7,c8,c9].drop 1).take<|Tryz.prog.cellsOf 3)=some x1:=hf 1 _ rfl;have f2:DataW.trod enc pg w base sp held n 43 (([c0,c1,c2,c3,c4,c5,c6,c7,c8,c9].drop 2).take<|Tryz.prog.cellsOf 43)=some x2:=hf 2 _ rfl;have f3:DataW.trod enc pg w base sp held n 43 (([c0,c1,c2,c3,c4,c5,c6,c7,c8,c9].drop 5).take<|Tryz.prog.cellsOf 43)=some x3:=hf 3 _ rfl;have f4:DataW.trod enc pg w base sp held n 22 (([c0,c1,c2,c3,c4,c5,c6,c7,c8,c9].drop 8).take<|Tryz.prog.cellsOf 22)=some x4:=hf 4 _ rfl;have f5:DataW.trod enc pg w base sp held n 22 (([c0,c1,c2,c3,c4,c5,c6,c7,c8,c9].drop 9).take<|Tryz.prog.cellsOf 22)=some x5:=hf 5 _ rfl;rw[Yu] at f0;rw[sz3] at f1;rw[Xb] at f2 f3;rw[aiD] at f4 f5;obtain⟨a0,e0,_,w0⟩:=DataW.trod_int Tryz.underlying5 f0;obtain⟨a1,e1,_,_⟩:=DataW.trod_int Tryz.underlying3 f1;obtain rfl:=Jq e0;obtain rfl:=Jq e1;obtain⟨o2,n2,l2,m2,rfl,rfl,g2,i2⟩:=Wi n c2 c3 c4 x2 f2;obtain⟨o3,n3,l3,m3,rfl,rfl,g3,i3⟩:=Wi n c5 c6 c7 x3 f3;have hr:∀{v:Value} {z:DataW H×List MemPlace},DataW.trod enc pg w base sp held n 22 [v]=some z->∃(l:List St) (ms:mq),(∀a∈l,KQ a)/\Good w ms/\Is ms (ax aL l) v:=fun hz=>Ii (Q:=KQ) ml (Nat.succ_pos _) Tryz.underlying22 Xc (fun row eR h2=>by obtain⟨k2,y2,KY,h2⟩:=h2;exact ih k2 ab row y2 eR h2) hz;obtain⟨l4,m4,q4,g4,i4⟩:=hr (v:=c8) f4;obtain⟨l5,m5,q5,g5,i5⟩:=hr (v:=c9) f5;refine⟨.mk a0 a1 (.mk o2 n2 l2) (.mk o3 n3 l3) l4 l5,m2++(m3++(m4++m5)),⟨by have:=wf_u8 w0;show 0<=a0/\a0<256;omega,fun k=>⟨Nn q4 k,Nn q5 k⟩⟩,g2.app<|g3.app<|g4.app g5,fun j x hx=>?_⟩;rw[wD,MT,MT] at hx;rcases j with _|_|_|_|_|_|_|_|_|_|j
   ·injection (show some _=some x from hx) with hx;subst hx;exact⟨_,rfl,fun σ _=>by simp only[VR]⟩
   ·injection (show some _=some x from hx) with hx;subst hx;exact⟨_,rfl,fun σ _=>by simp only[VR]⟩
   ·injection (show some _=some x from hx) with hx;subst hx;exact⟨_,rfl,fun σ _=>by simp only[VR]⟩
   ·injection (show some _=some x from hx) with hx;subst hx;exact⟨_,rfl,fun σ _=>by simp only[VR]⟩
   ·injection (show some _=some x from hx) with hx;subst hx;exact⟨_,rfl,i2.sub fun p hp=>List.mem_append_left _ hp⟩
   ·injection (show some _=some x from hx) with hx;subst hx;exact⟨_,rfl,fun σ _=>by simp only[VR]⟩
   ·injection (show some _=some x from hx) with hx;subst hx;exact⟨_,rfl,fun σ _=>by simp only[VR]⟩
   ·injection (show some _=some x from hx) with hx;subst hx;exact⟨_,rfl,i3.sub fun p hp=>List.mem_append_right _<|List.mem_append_left _ hp⟩
   ·injection (show some _=some x from hx) with hx;subst hx;exact⟨_,rfl,i4.sub fun p hp=>List.mem_append_right _<|List.mem_append_right _<|List.mem_append_left _ hp⟩
   ·injection (show some _=some x from hx) with hx;subst hx;exact⟨_,rfl,i5.sub fun p hp=>List.mem_append_right _<|List.mem_append_right _<|List.mem_append_right _ hp⟩
   ·cases(show none=some x from hx)
theorem T4{e:TypeId}(hu:Tryz.prog.underlying t=some (.slice e))(eN:Value.okWide pg w .any b0 t v):∃a len cap,v= .slice a len cap:=by unfold Value.okWide at eN;rw[hu] at eN;simp only at eN;unfold Cell.okWide at eN;rw[hu] at eN;cases v<;>first|exact⟨_,_,_,rfl⟩|(exfalso;unfold Cell.ok at eN;rw[hu] at eN;simp at eN)
theorem alE{d:DataW H}(eN:Value.okWide pg w .any b0 22 v)(h:DataW.Trod enc pg w base sp held 22 v d p):∃(l:List St) (ms:mq),(∀a∈l,KQ a)/\Good w ms/\Is ms (ax aL l) v:=by obtain⟨fuel,h⟩:=h;obtain⟨a,len,cap,rfl⟩:=T4 Tryz.underlying22 eN;exact Ii (Q:=KQ) ml (Nat.succ_pos _) Tryz.underlying22 Xc (fun row eR h2=>by obtain⟨n,y,_,h2⟩:=h2;exact afF n row y eR h2) (show DataW.trod enc pg w base sp held fuel 22 [.slice a len cap]=some (d,p) from h)
theorem alm{d:DataW H}(eN:Value.okWide pg w .any b0 23 v)(h:DataW.Trod enc pg w base sp held 23 v d p):∃(l:List Int) (ms:mq),Good w ms/\Is ms (ax encI l) v:=by obtain⟨fuel,h⟩:=h;obtain⟨a,len,cap,rfl⟩:=T4 Tryz.underlying23 eN;obtain⟨l,ms,_,k2,k3⟩:=Ii (Q:=fun _:Int=>True) eI (Nat.succ_pos _) Tryz.underlying23 Yt (aee Tryz.underlying2) (show DataW.trod enc pg w base sp held fuel 23 [.slice a len cap]=some (d,p) from h);exact⟨l,ms,k2,k3⟩
theorem alq{d:DataW H}(eN:Value.okWide pg w .any b0 3 v)(h:DataW.Trod enc pg w base sp held 3 v d p):∃n,v= .int .i64 n:=by
 obtain⟨fuel,h⟩:=h;have hc:∃n,v= .int .i64 n:=by unfold Value.okWide at eN;rw[Tryz.underlying3] at eN;simp only at eN;unfold Cell.okWide at eN;rw[Tryz.underlying3] at eN;cases v<;>simp_all [Cell.ok,Tryz.underlying3]
 exact hc
end
theorem afG(hP:bR pg):aY LJ:=TU hP 22<|abh hP<|afC hP W8.isSort<|acy hP dc
theorem ahh:Tryz.f3.body=some (aS pg 3 []):=EV Tryz.func3 aV
theorem alr(hP:bR pg)(W:World){ρ:Ren}(S:Rn.Start 270 dF ρ W){v1 v2 v4:Value}{tx:List St}{init aD:List Int}{m1 m2 m4:mq}(q:∀s∈tx,KQ s)(g1:Good W m1)(i1:Is m1 (ax aL tx) v1)(g2:Good W m2)(i2:Is m2 (ax encI init) v2)(g4:Good W m4)(i4:Is m4 (ax encI aD) v4):
 Calls pg 3 #[v1,v2,v4] W fun e w'=>e= .returned (.bool true)/\Below W.heap.size W w':=by
 let B:aJ:=⟨fun k=>W.heap.size<=k,FU,fun _=>True,nC XT 270,W.heap.size,fun h a b=>h.mono a b⟩;have g:Good W<|m1++(m2++m4):=g1.app<|g2.app g4;have r:Rel B (pv (m1++(m2++m4)) ρ) dF W:=S.ahf B (Nat.le_trans (by decide) qZ) g;have hh:Has (pv (m1++(m2++m4)) ρ)<|m1++(m2++m4):=Tb;have v1':=VR.mono (IS _) _ _<|i1 _<|hh.sub fun p hp=>List.mem_append_left _ hp;have v2':=VR.mono (IS _) _ _<|i2 _<|hh.sub fun p hp=>List.mem_append_right _<|List.mem_append_left _ hp;have v4':=VR.mono (IS _) _ _<|i4 _<|hh.sub fun p hp=>List.mem_append_right _<|List.mem_append_right _ hp;have mc:Mt LJ B:=qy hP (afG hP) rfl rfl;have H:=abi (mem:=init) (aD:=aD) mc (qy hP dc rfl rfl:Mt [] B)<|Nn q 60;have hg:gC<|pv (m1++(m2++m4)) ρ:=fun g hg=>by obtain⟨N,e⟩:=S.g g hg;exact⟨N,Ij _ _ e⟩
 have hf:∀k,270<=k->k<top->pv (m1++(m2++m4)) ρ k=none:=fun k h1 h2=>by rw[MD h2];exact S.free k h1
 have hv:ay (pv (m1++(m2++m4)) ρ) [ax aL tx,ax encI init,ax encI aD] (#[v1,v2,v4]:Array Value).toList:=⟨_,_,rfl,v1',_,_,rfl,v2',_,_,rfl,v4',rfl⟩;have r':Rel B (pv (m1++(m2++m4)) ρ) (ah ar 270).h W:=by rw[ib];exact r
 have bG:=au.calls (args:=[ax aL tx,ax encI init,ax encI aD]) hP Tryz.func3 ahh (aM.1 aV) H (acL aV) r' hg hf hv;refine bG.mono fun e w'=>?_;rintro ⟨v,x,s3,rfl,rfl,_,_,σ,_,q2,_,q4⟩;simp only[VR] at q2;exact⟨by rw[q2],q4.os,q4.tape,q4.output,q4.size,fun k hk=>q4.block k hk (by show ¬(W.heap.size<=k);omega)⟩
end ahg
end
