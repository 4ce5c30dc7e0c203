import Derived.Test.YtbkagfkpnnoacaaDoorRnGH
import Derived.Test.YtbkagfkpnnoacaaDoorProg
import Derived.Shelf.SlSortCmp.NoneTotal
import Derived.Test.YtbkagfkpnnoacaaDoorAtGO
import Derived.Test.YtbkagfkpnnoacaaDoorRnGI
set_option maxRecDepth 100000
set_option maxHeartbeats 8000000
set_option linter.unusedSimpArgs false
set_option linter.unusedVariables false
section
open Go Go.Rn Go.RowKit Go.Proofs Go.Shelf Go.Lib Go.Sort
namespace Xh
def wa:Go.Shelf.Ren:=⟨fun|6=>60|14=>76|15=>77|20=>83|21=>84|22=>85|23=>86|24=>87|25=>88|26=>89|27=>90|28=>91|29=>92|46=>95|47=>96|48=>97|49=>98|50=>99|57=>101|n=>n,fun|0=>0|3=>3|4=>4|5=>5|9=>9|22=>26|25=>125|39=>141|45=>149|46=>150|50=>36|53=>156|55=>158|66=>160|70=>164|76=>167|77=>97|24=>33|n=>n,fun n=>n⟩
theorem lays:SlLaysF0.n6 Tryd.prog wa:={
 mixed:=by kernel_rfl
 f6:=⟨Tryd.f60.name,by decide,Tryd.func60.trans<|congrArg some<|by kernel_rfl⟩
 f14:=⟨Tryd.f76.name,by decide,Tryd.func76.trans<|congrArg some<|by kernel_rfl⟩
 f15:=Tryd.func77.trans (congrArg some<|by kernel_rfl)
 f20:=⟨Tryd.f83.name,by decide,Tryd.func83.trans<|congrArg some<|by kernel_rfl⟩
 f21:=⟨Tryd.f84.name,by decide,Tryd.func84.trans<|congrArg some<|by kernel_rfl⟩
 f22:=⟨Tryd.f85.name,by decide,Tryd.func85.trans<|congrArg some<|by kernel_rfl⟩
 f23:=⟨Tryd.f86.name,by decide,Tryd.func86.trans<|congrArg some<|by kernel_rfl⟩
 f24:=⟨Tryd.f87.name,by decide,Tryd.func87.trans<|congrArg some<|by kernel_rfl⟩
 f25:=⟨Tryd.f88.name,by decide,Tryd.func88.trans<|congrArg some<|by kernel_rfl⟩
 f26:=⟨Tryd.f89.name,by decide,Tryd.func89.trans<|congrArg some<|by kernel_rfl⟩
 f27:=⟨Tryd.f90.name,by decide,Tryd.func90.trans<|congrArg some<|by kernel_rfl⟩
 f28:=Tryd.func91.trans (congrArg some<|by kernel_rfl)
 f29:=Tryd.func92.trans (congrArg some<|by kernel_rfl)
 f46:=⟨Tryd.f95.name,by decide,Tryd.func95.trans<|congrArg some<|by kernel_rfl⟩
 f47:=Tryd.func96.trans (congrArg some<|by kernel_rfl)
 f48:=Tryd.func97.trans (congrArg some<|by kernel_rfl)
 f49:=⟨Tryd.f98.name,by decide,Tryd.func98.trans<|congrArg some<|by kernel_rfl⟩
 f50:=⟨Tryd.f99.name,by decide,Tryd.func99.trans<|congrArg some<|by kernel_rfl⟩
 f57:=⟨Tryd.f101.name,by decide,Tryd.func101.trans<|congrArg some<|by kernel_rfl⟩
 t0:=Tryd.underlying0
 a0:=Tryd.isAgg0
 z0:=Tryd.sizeOf0
 v0:=Tryd.zeroValue0
 t3:=Tryd.underlying3
 a3:=Tryd.isAgg3
 z3:=Tryd.sizeOf3
 v3:=Tryd.zeroValue3
 t4:=Tryd.underlying4
 a4:=Tryd.isAgg4
 z4:=Tryd.sizeOf4
 v4:=Tryd.zeroValue4
 t5:=Tryd.underlying5
 a5:=Tryd.isAgg5
 z5:=Tryd.sizeOf5
 v5:=Tryd.zeroValue5
 t9:=Tryd.underlying9
 a9:=Tryd.isAgg9
 z9:=Tryd.sizeOf9
 v9:=Tryd.zeroValue9
 t22:=Tryd.underlying26
 a22:=Tryd.isAgg26
 z22:=Tryd.sizeOf26
 v22:=Tryd.zeroValue26
 t25:=Tryd.underlying125
 a25:=Tryd.isAgg125
 z25:=Tryd.sizeOf125
 v25:=Tryd.zeroValue125
 t39:=Tryd.underlying141
 a39:=Tryd.isAgg141
 z39:=Tryd.sizeOf141
 v39:=Tryd.zeroValue141
 t45:=Tryd.underlying149
 a45:=Tryd.isAgg149
 z45:=Tryd.sizeOf149
 v45:=Tryd.zeroValue149
 t46:=Tryd.underlying150
 a46:=Tryd.isAgg150
 z46:=Tryd.sizeOf150
 v46:=Tryd.zeroValue150
 t50:=Tryd.underlying36
 a50:=Tryd.isAgg36
 z50:=Tryd.sizeOf36
 v50:=Tryd.zeroValue36
 t53:=Tryd.underlying156
 a53:=Tryd.isAgg156
 z53:=Tryd.sizeOf156
 v53:=Tryd.zeroValue156
 t55:=Tryd.underlying158
 a55:=Tryd.isAgg158
 z55:=Tryd.sizeOf158
 v55:=Tryd.zeroValue158
 t66:=Tryd.underlying160
 a66:=Tryd.isAgg160
 z66:=Tryd.sizeOf160
 v66:=Tryd.zeroValue160
 t70:=Tryd.underlying164
 a70:=Tryd.isAgg164
 z70:=Tryd.sizeOf164
 v70:=Tryd.zeroValue164
 t76:=Tryd.underlying167
 a76:=Tryd.isAgg167
 z76:=Tryd.sizeOf167
 v76:=Tryd.zeroValue167
 t77:=Tryd.underlying97
 a77:=Tryd.isAgg97
 z77:=Tryd.sizeOf97
 v77:=Tryd.zeroValue97}
theorem aiU(x y:Int×Int)(W:World):Calls Tryd.prog 61 #[.agg #[.int .i64 x.1,.int .i64 x.2],.agg #[.int .i64 y.1,.int .i64 y.2]] W fun e w'=>e= .returned (.int .i64<|Lib.compareInt x.1 y.1)/\∃q os',w'=grow (W.drewN q) os':=by
 have Xi:∀W',Calls Tryd.prog 62 #[.int .i64 x.1,.int .i64 y.1] W' fun e w'=>e= .returned (.int .i64<|Lib.compareInt x.1 y.1)/\w'=W':=fun W'=>by
  unfold Lib.compareInt
  go_enter Tryd.func62,Tryd.ntmps62
  go_wp2
  all_goals go_ret
  all_goals simp_all
  all_goals omega
 generalize Lib.compareInt x.1 y.1=r at Xi ⊢
 go_enter Tryd.func61,Tryd.ntmps61
 go_wp2_with (go_at_call 62;refine(Xi _).mono ?_;rintro e w' ⟨rfl,rfl⟩)
 go_ret
 exact⟨rfl,0,_,by rw[alloc_eq_grow,alloc_eq_grow,grow_grow];rfl⟩
theorem Lq(x y:Int×Int):ltOf (fun x y:Int×Int=>Lib.compareInt x.1 y.1) x y=decide (x.1<y.1):=by
 unfold ltOf Lib.compareInt;by_cases h1:x.1<y.1
 ·simp[h1]
 ·by_cases h2:y.1<x.1<;>simp[h1,h2]
theorem swo:SWO (ltOf fun x y:Int×Int=>Lib.compareInt x.1 y.1) where
 irrefl x:=by rw[Lq];simp
 trans x y z h1 h2:=by rw[Lq] at*;simp at*;omega
 ntrans x y z h1 h2:=by rw[Lq] at*;simp at*;omega
theorem AG:∀(l:List<|Int×Int) (i:Nat),i<l.length*2->(l.map lz).flatten[i]? =some ((lz (l.toArray)[i / 2]!)[i % 2]!)
 |[],i,h=>by simp at h
 |p::l,0,_=>rfl
 |p::l,1,_=>rfl
 |p::l,i+2,h=>by
  have h':i<l.length*2:=by rw[List.length_cons] at h;omega
  have e:=AG l i h';have a1:((p::l).map lz).flatten[i+2]? =(l.map lz).flatten[i]? :=rfl;have a2:(i+2) / 2=i / 2+1:=by omega
  have a3:(i+2) % 2=i % 2:=by omega
  have a4:(p::l).toArray[i / 2+1]! =l.toArray[i / 2]! :=by
   have q:i / 2<l.length:=by omega
   rw[getElem!_pos _ _ (by show i / 2+1<(p::l).length;rw[List.length_cons];omega),getElem!_pos _ _<|by exact q];rfl
  rw[a1,e,a2,a3,a4]
theorem Ub(l:List<|Int×Int)(i:Nat)(h:i<l.length*2):(flatK lz 2 l.toArray)[i]! =((l.map lz).flatten[i]?).getD default:=by rw[get_flatK _ _ _ _ (by exact h),AG l i h];rfl
theorem isSort:Da Tryd.prog 60 61 where
 is:=⟨_,aR Tryd.prog 60 [],Tryd.func60,by kernel_rfl,by kernel_rfl⟩
 Xa a c w:=AnyF.slices_SortFunc_none lays a c _ w
 rows b c l cs e w hb hc hl nd:=by
  have Lh:b<w.heap.size:=(Array.getElem?_eq_some_iff.1 hb).1;have hlen:(l.map lz).flatten.length=l.length*2:=by rw[Fq,List.length_map,Ct]
  have hH:HoldsK lz 2 w b 0 l.toArray:=fun j hj=>by
   rw[size_flatK] at hj;have hj:j<l.length*2:=hj;refine⟨?_,?_⟩
   ·rw[Ub l j hj,List.getElem?_eq_getElem<|by omega];unfold World.cell?;simp only[hb];rw[Nat.zero_add];exact hc j _ (List.getElem?_eq_getElem<|by omega)
   ·unfold World.frozen?;simp only[hb];simp
  refine(AnyQ.slices_SortFunc lays 2 Tryd.isAgg33 Tryd.sizeOf33 lz (fun _=>rfl) (fun x v hv=>by simp[lz] at hv;rcases hv with rfl|rfl<;>rfl) (fun x y=>Lib.compareInt x.1 y.1) swo 61 #[] b 0 c l.toArray w (fun args w=>enters_of Tryd.func61 (by kernel_rfl) rfl args w) (fun _ _ _ _ x y=>aiU x y _) hH Lh (by show l.length<_;omega)).mono fun e' w'=>?_;rintro ⟨rfl,d',n,os,⟨p1,_,p3⟩,hs,rfl⟩;have hd:d'.toList=dP l:=by
   have kr:d'.size=l.length:=p1;refine T2 nd ?_ ?_
   ·have e1:d'.extract 0 l.toArray.size=d':=by rw[show l.toArray.size=d'.size from p1.symm];simp
    have e2:l.toArray.extract 0 l.toArray.size=l.toArray:=by simp
    rw[e1,e2] at p3;exact p3
   ·rw[List.pairwise_iff_getElem];intro i j hi hj lD;have iv:i<d'.size:=by simpa using hi
    have rQ:j<d'.size:=by simpa using hj
    have:=hs i j (Nat.zero_le _) lD (by show j<l.length;omega);rw[getElem!_pos d' i iv,getElem!_pos d' j rQ,Lq] at this;have:=of_decide_eq_false this;rw[Array.getElem_toList,Array.getElem_toList];omega
  have hdl:d'=(dP l).toArray:=by rw[←hd]
  have kr:d'.size=l.length:=p1;subst hdl;refine⟨rfl,⟨rfl,rfl,rfl,?_⟩,fun k hk hkb=>?_,putCells id 0 (flatK lz 2 (dP l).toArray) cs,?_,by unfold putCells;rw[Array.size_mapIdx],fun i v hv=>?_⟩
  ·show w.heap.size<=((w.heap.modify b _)++os).size;rw[Array.size_append,Array.size_modify];omega
  ·show((w.heap.modify b _)++os)[k]? =_;rw[Array.getElem?_append_left (by rw[Array.size_modify];exact hk),Array.getElem?_modify,if_neg<|Ne.symm hkb]
  ·show((w.heap.modify b _)++os)[b]? =_;rw[Array.getElem?_append_left (by rw[Array.size_modify];exact Lh),Array.getElem?_modify,if_pos rfl,hb];rfl
  ·have hi:=(List.getElem?_eq_some_iff.1 hv).1;have jI:i<l.length*2:=by rw[Fq,List.length_map,Ct,Am] at hi;exact hi
   have YB:i<(dP l).length*2:=by rw[Am];exact jI
   unfold putCells;rw[Array.getElem?_mapIdx];have qH:cs[i]? =some ((l.map lz).flatten[i]'(by omega)):=hc i _ (List.getElem?_eq_getElem<|by omega);rw[qH];show some (if 0<=i/\i<0+(flatK lz 2 (dP l).toArray).size then id (flatK lz 2 (dP l).toArray)[i - 0]! else _)=some v;rw[if_pos ⟨Nat.zero_le _,by rw[size_flatK,Nat.zero_add];exact YB⟩,Nat.sub_zero];show some ((flatK lz 2 (dP l).toArray)[i]!)=some v;rw[Ub _ i YB,hv];rfl
end Xh
end
section
open Go Go.Rn Go.RowKit Go.Proofs
open Go.ChangeShapes
namespace ahz
open ch cG eO dj JX rr mN mG eX fO iB vK tS iq zC DW Gb Ku Kv JY P3 Ws
variable {v:Value} {b0:Nat} {p:List MemPlace} {t:TypeId}
section
variable {H:Type} {enc:TypeId×Value->H} {w:World} {base:Nat} {sp:Nat->Bool} {held:Bool}
theorem wf_u8{n:Int}(h:(Lit.int .u8 n).wf=true):0<=n/\n<=255:=by obtain⟨h1,h2⟩:=and_true.1 (show(decide (IntKind.u8.min<=n)&&decide (n<=IntKind.u8.max))=true from h);exact⟨of_decide_eq_true h1,of_decide_eq_true h2⟩
theorem YD:Tryd.prog.cellsOf 2=1:=by kernel_rfl
theorem sz3:Tryd.prog.cellsOf 3=1:=by kernel_rfl
theorem YE:Tryd.prog.cellsOf 5=1:=by kernel_rfl
theorem aiV:Tryd.prog.cellsOf 22=1:=by kernel_rfl
theorem aiW:Tryd.prog.cellsOf 39=1:=by kernel_rfl
theorem Xk:Tryd.prog.cellsOf 41=3:=by kernel_rfl
theorem Xl:Tryd.prog.cellsOf 43=10:=by kernel_rfl
theorem Jz{x y:Value}(h:[x]=[y]):x=y:=by injection h
theorem aeu{fuel:Nat}(hu:Tryd.prog.underlying t=some (.int .i64))(row:List Value)(_:row.length=1)(h2:∃n y,n<fuel/\DataW.trod enc pg w base sp held n t row=some y):∃a ms,JZ w encI (fun _=>True) row a ms:=by
 obtain⟨_,y,_,h⟩:=h2;obtain⟨a,rfl,_,_⟩:=DataW.trod_int hu h;refine⟨a,[],trivial,Good.nil,fun j x hx=>?_⟩;rcases j with _|j
 ·injection (show some _=some x from hx) with hx
  subst hx;exact⟨_,rfl,fun σ _=>by simp only[VR]⟩
 ·cases(show none=some x from hx)
theorem Wu:∀(fuel:Nat) (c0 c1 c2:Value) (y:DataW H×List MemPlace),DataW.trod enc pg w base sp held fuel 41 [c0,c1,c2]=some y->∃(op n:Int) (args:List Ex) (ms:mz),c0= .int .u8 op/\c1= .int .i64 n/\Good w ms/\Is ms (aw aD args) c2:=by
 intro fuel;induction fuel using Nat.strongRecOn with
 |ind fuel ih=>
  intro c0 c1 c2 y h;obtain⟨xs,n,YC,_,hlen,Re,hf⟩:=DataW.trod_struct Tryd.underlying41 h;have aiX:xs.length=3:=Re
  match xs,aiX,hf with
  |[x0,x1,x2],_,hf=>
   have f0:DataW.trod enc pg w base sp held n 5 (([c0,c1,c2].drop 0).take<|Tryd.prog.cellsOf 5)=some x0:=hf 0 _ rfl;have f1:DataW.trod enc pg w base sp held n 2 (([c0,c1,c2].drop 1).take<|Tryd.prog.cellsOf 2)=some x1:=hf 1 _ rfl;have f2:DataW.trod enc pg w base sp held n 39 (([c0,c1,c2].drop 2).take<|Tryd.prog.cellsOf 39)=some x2:=hf 2 _ rfl;rw[YE] at f0;rw[YD] at f1;rw[aiW] at f2;obtain⟨a0,e0,_,_⟩:=DataW.trod_int Tryd.underlying5 f0;obtain⟨a1,e1,_,_⟩:=DataW.trod_int Tryd.underlying2 f1;obtain rfl:=Jz e0;obtain rfl:=Jz e1;obtain⟨l,ms,_,k2,k3⟩:=Iv (Q:=fun _:Ex=>True) kF (Nat.succ_pos _) Tryd.underlying39 Xk (fun row eR h2=>by
    obtain⟨n2,y2,ua,h2⟩:=h2
    match row,eR,h2 with
    |[d0,d1,d2],_,h2=>
     obtain⟨o',n',l',kf,rfl,rfl,g1,g2⟩:=ih n2 ab d0 d1 d2 y2 h2;refine⟨.mk o' n' l',kf,trivial,g1,fun j x hx=>?_⟩;rw[M5] at hx;rcases j with _|_|_|j
     ·injection (show some _=some x from hx) with hx
      subst hx;exact⟨_,rfl,fun σ _=>by simp only[VR]⟩
     ·injection (show some _=some x from hx) with hx
      subst hx;exact⟨_,rfl,fun σ _=>by simp only[VR]⟩
     ·injection (show some _=some x from hx) with hx
      subst hx;exact⟨_,rfl,g2⟩
     ·cases(show none=some x from hx)) (show DataW.trod enc pg w base sp held n 39 [c2]=some x2 from f2)
   exact⟨a0,a1,l,ms,rfl,rfl,k2,k3⟩
def KQ(s:St):Prop:=(0<=fB s/\fB s<256)/\∀k,rz k (bF s)/\rz k (bE s)
theorem Nw{l:List St}(h:∀s∈l,KQ s):∀k,rz k l
 |0=>trivial
 |k+1=>fun s hs=>⟨(h s hs).1,(h s hs).2 k⟩
theorem afW:∀(fuel:Nat) (row:List Value) (y:DataW H×List MemPlace),row.length=10->DataW.trod enc pg w base sp held fuel 43 row=some y->∃a ms,JZ w aM KQ row a ms:=by
 intro fuel;induction fuel using Nat.strongRecOn with
 |ind fuel ih=>
  intro row y eR h;obtain⟨xs,n,YC,_,hlen,Re,hf⟩:=DataW.trod_struct Tryd.underlying43 h;have aiY:xs.length=6:=Re
  match row,eR,xs,aiY,hf with
  |[c0,c1,c2,c3,c4,c5,c6,c7,c8,c9],_,[x0,x1,x2,x3,x4,x5],_,hf=>
   have f0:DataW.trod enc pg w base sp held n 5 (([c0,c1,c2,c3,c4,c5,c6,c7,c8,c9].drop 0).take<|Tryd.prog.cellsOf 5)=some x0:=hf 0 _ rfl;have f1:DataW.trod enc pg w base sp held n 3 (([c0,c1,c2,c3,c4,c5,c6,c7,c8,c9].drop 1).take<|Tryd.prog.cellsOf 3)=some x1:=hf 1 _ rfl;have f2:DataW.trod enc pg w base sp held n 41 (([c0,c1,c2,c3,c4,c5,c6,c7,c8,c9].drop 2).take<|Tryd.prog.cellsOf 41)=some x2:=hf 2 _ rfl;have f3:DataW.trod enc pg w base sp held n 41 (([c0,c1,c2,c3,c4,c5,c6,c7,c8,c9].drop 5).take<|Tryd.prog.cellsOf 41)=some x3:=hf 3 _ rfl;have f4:DataW.trod enc pg w base sp held n 22 (([c0,c1,c2,c3,c4,c5,c6,c7,c8,c9].drop 8).take<|Tryd.prog.cellsOf 22)=some x4:=hf 4 _ rfl;have f5:DataW.trod enc pg w base sp held n 22 (([c0,c1,c2,c3,c4,c5,c6,c7,c8,c9].drop 9).take<|Tryd.prog.cellsOf 22)=some x5:=hf 5 _ rfl;rw[YE] at f0;rw[sz3] at f1;rw[Xk] at f2 f3;rw[aiV] at f4 f5;obtain⟨a0,e0,_,w0⟩:=DataW.trod_int Tryd.underlying5 f0;obtain⟨a1,e1,_,_⟩:=DataW.trod_int Tryd.underlying3 f1;obtain rfl:=Jz e0;obtain rfl:=Jz e1;obtain⟨o2,n2,l2,m2,rfl,rfl,g2,i2⟩:=Wu n c2 c3 c4 x2 f2;obtain⟨o3,n3,l3,m3,rfl,rfl,g3,i3⟩:=Wu n c5 c6 c7 x3 f3;have hr:∀{v:Value} {z:DataW H×List MemPlace},DataW.trod enc pg w base sp held n 22 [v]=some z->∃(l:List St) (ms:mz),(∀a∈l,KQ a)/\Good w ms/\Is ms (aw aM l) v:=fun hz=>Iv (Q:=KQ) mu (Nat.succ_pos _) Tryd.underlying22 Xl (fun row eR h2=>by obtain⟨k2,y2,K6,h2⟩:=h2;exact ih k2 ab row y2 eR h2) hz;obtain⟨l4,m4,q4,g4,i4⟩:=hr (v:=c8) f4;obtain⟨l5,m5,q5,g5,i5⟩:=hr (v:=c9) f5;refine⟨.mk a0 a1 (.mk o2 n2 l2) (.mk o3 n3 l3) l4 l5,m2++(m3++(m4++m5)),⟨by have:=wf_u8 w0;show 0<=a0/\a0<256;omega,fun k=>⟨Nw q4 k,Nw q5 k⟩⟩,g2.app<|g3.app<|g4.app g5,fun j x hx=>?_⟩;rw[wK,M5,M5] at hx;rcases j with _|_|_|_|_|_|_|_|_|_|j
   ·injection (show some _=some x from hx) with hx;subst hx;exact⟨_,rfl,fun σ _=>by simp only[VR]⟩
   ·injection (show some _=some x from hx) with hx;subst hx;exact⟨_,rfl,fun σ _=>by simp only[VR]⟩
   ·injection (show some _=some x from hx) with hx;subst hx;exact⟨_,rfl,fun σ _=>by simp only[VR]⟩
   ·injection (show some _=some x from hx) with hx;subst hx;exact⟨_,rfl,fun σ _=>by simp only[VR]⟩
   ·injection (show some _=some x from hx) with hx;subst hx;exact⟨_,rfl,i2.sub fun p hp=>List.mem_append_left _ hp⟩
   ·injection (show some _=some x from hx) with hx;subst hx;exact⟨_,rfl,fun σ _=>by simp only[VR]⟩
   ·injection (show some _=some x from hx) with hx;subst hx;exact⟨_,rfl,fun σ _=>by simp only[VR]⟩
   ·injection (show some _=some x from hx) with hx;subst hx;exact⟨_,rfl,i3.sub fun p hp=>List.mem_append_right _<|List.mem_append_left _ hp⟩
   ·injection (show some _=some x from hx) with hx;subst hx;exact⟨_,rfl,i4.sub fun p hp=>List.mem_append_right _<|List.mem_append_right _<|List.mem_append_left _ hp⟩
   ·injection (show some _=some x from hx) with hx;subst hx;exact⟨_,rfl,i5.sub fun p hp=>List.mem_append_right _<|List.mem_append_right _<|List.mem_append_right _ hp⟩
   ·cases(show none=some x from hx)
theorem Ud{e:TypeId}(hu:Tryd.prog.underlying t=some (.slice e))(eN:Value.okWide pg w .any b0 t v):∃a len cap,v= .slice a len cap:=by unfold Value.okWide at eN;rw[hu] at eN;simp only at eN;unfold Cell.okWide at eN;rw[hu] at eN;cases v<;>first|exact⟨_,_,_,rfl⟩|(exfalso;unfold Cell.ok at eN;rw[hu] at eN;simp at eN)
theorem alX{d:DataW H}(eN:Value.okWide pg w .any b0 22 v)(h:DataW.Trod enc pg w base sp held 22 v d p):∃(l:List St) (ms:mz),(∀a∈l,KQ a)/\Good w ms/\Is ms (aw aM l) v:=by obtain⟨fuel,h⟩:=h;obtain⟨a,len,cap,rfl⟩:=Ud Tryd.underlying22 eN;exact Iv (Q:=KQ) mu (Nat.succ_pos _) Tryd.underlying22 Xl (fun row eR h2=>by obtain⟨n,y,_,h2⟩:=h2;exact afW n row y eR h2) (show DataW.trod enc pg w base sp held fuel 22 [.slice a len cap]=some (d,p) from h)
theorem alF{d:DataW H}(eN:Value.okWide pg w .any b0 23 v)(h:DataW.Trod enc pg w base sp held 23 v d p):∃(l:List Int) (ms:mz),Good w ms/\Is ms (aw encI l) v:=by obtain⟨fuel,h⟩:=h;obtain⟨a,len,cap,rfl⟩:=Ud Tryd.underlying23 eN;obtain⟨l,ms,_,k2,k3⟩:=Iv (Q:=fun _:Int=>True) eI (Nat.succ_pos _) Tryd.underlying23 YD (aeu Tryd.underlying2) (show DataW.trod enc pg w base sp held fuel 23 [.slice a len cap]=some (d,p) from h);exact⟨l,ms,k2,k3⟩
end
theorem afX(hP:bS pg):aY LJ:=T5 hP 22<|abq hP<|afR hP Xh.isSort<|abr hP dc
theorem ahA:Tryd.f3.body=some (aR pg 3 []):=E4 Tryd.func3 aW
theorem alK(hP:bS pg)(W:World){ρ:Ren}(S:Rn.Start 270 dG ρ W){v1 v2 v3 v4:Value}{tx:List St}{init other aA:List Int}{m1 m2 m3 m4:mz}(q:∀s∈tx,KQ s)(g1:Good W m1)(i1:Is m1 (aw aM tx) v1)(g2:Good W m2)(i2:Is m2 (aw encI init) v2)(g3:Good W m3)(i3:Is m3 (aw encI other) v3)(g4:Good W m4)(i4:Is m4 (aw encI aA) v4):
 Calls pg 3 #[v1,v2,v3,v4] W fun e w'=>e= .returned (.bool true)/\Below W.heap.size W w':=by
 let B:aJ:=⟨fun k=>W.heap.size<=k,FU,fun _=>True,nH XT 270,W.heap.size,fun h a b=>h.mono a b⟩;have g:Good W<|m1++(m2++(m3++m4)):=g1.app<|g2.app<|g3.app g4;have r:Rel B (pE (m1++(m2++(m3++m4))) ρ) dG W:=S.ahy B (Nat.le_trans (by decide) rf) g;have hh:Has (pE (m1++(m2++(m3++m4))) ρ)<|m1++(m2++(m3++m4)):=Tl;have v1':=VR.mono (Fv _) _ _<|i1 _<|hh.sub fun p hp=>List.mem_append_left _ hp;have v2':=VR.mono (Fv _) _ _<|i2 _<|hh.sub fun p hp=>List.mem_append_right _<|List.mem_append_left _ hp;have v3':=VR.mono (Fv _) _ _<|i3 _<|hh.sub fun p hp=>List.mem_append_right _<|List.mem_append_right _<|List.mem_append_left _ hp;have v4':=VR.mono (Fv _) _ _<|i4 _<|hh.sub fun p hp=>List.mem_append_right _<|List.mem_append_right _<|List.mem_append_right _ hp;have mc:Mt LJ B:=qA hP (afX hP) rfl rfl;have H:=abt (mem:=init) (other:=other) (aA:=aA) mc (qA hP dc rfl rfl:Mt [] B)<|Nw q 60;have hg:gC<|pE (m1++(m2++(m3++m4))) ρ:=fun g hg=>by obtain⟨N,e⟩:=S.g g hg;exact⟨N,Iw _ _ e⟩
 have hf:∀k,270<=k->k<top->pE (m1++(m2++(m3++m4))) ρ k=none:=fun k h1 h2=>by rw[ML h2];exact S.free k h1
 have hv:ay (pE (m1++(m2++(m3++m4))) ρ) [aw aM tx,aw encI init,aw encI other,aw encI aA] (#[v1,v2,v3,v4]:Array Value).toList:=⟨_,_,rfl,v1',_,_,rfl,v2',_,_,rfl,v3',_,_,rfl,v4',rfl⟩;have r':Rel B (pE (m1++(m2++(m3++m4))) ρ) (ah ar 270).h W:=by rw[ij];exact r
 have bG:=au.calls (args:=[aw aM tx,aw encI init,aw encI other,aw encI aA]) hP Tryd.func3 ahA (aL.1 aW) H (acX aW) r' hg hf hv;refine bG.mono fun e w'=>?_;rintro ⟨v,x,s3,rfl,rfl,_,_,σ,_,q2,_,q4⟩;simp only[VR] at q2;exact⟨by rw[q2],q4.os,q4.tape,q4.output,q4.size,fun k hk=>q4.block k hk (by show ¬(W.heap.size<=k);omega)⟩
end ahz
end
