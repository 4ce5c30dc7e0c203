import Derived.Test.YtphenfaomchomaaGreatDoorRnGH
import Derived.Test.YtphenfaomchomaaGreatDoorProg
import Derived.Shelf.SlSortCmp.NoneTotal
import Derived.Test.YtphenfaomchomaaGreatDoorAtGO
import Derived.Test.YtphenfaomchomaaGreatDoorRnGI
set_option maxRecDepth 100000
set_option maxHeartbeats 8000000
set_option linter.unusedSimpArgs false
set_option linter.unusedVariables false
section
open Go Go.Rn Go.RowKit Go.Proofs Go.Shelf Go.Lib Go.Sort
namespace Xv
def wm:Go.Shelf.Ren:=⟨fun|6=>61|14=>77|15=>78|20=>84|21=>85|22=>86|23=>87|24=>88|25=>89|26=>90|27=>91|28=>92|29=>93|46=>96|47=>97|48=>98|49=>99|50=>100|57=>102|n=>n,fun|0=>0|3=>3|4=>4|5=>5|9=>9|22=>26|25=>126|39=>142|45=>150|46=>151|50=>35|53=>157|55=>159|66=>161|70=>165|76=>168|77=>98|24=>67|n=>n,fun n=>n⟩
theorem lays:SlLaysF0.n6 Tryz.prog wm:={
 mixed:=by kernel_rfl
 f6:=⟨Tryz.f61.name,by decide,Tryz.func61.trans<|congrArg some<|by kernel_rfl⟩
 f14:=⟨Tryz.f77.name,by decide,Tryz.func77.trans<|congrArg some<|by kernel_rfl⟩
 f15:=Tryz.func78.trans (congrArg some<|by kernel_rfl)
 f20:=⟨Tryz.f84.name,by decide,Tryz.func84.trans<|congrArg some<|by kernel_rfl⟩
 f21:=⟨Tryz.f85.name,by decide,Tryz.func85.trans<|congrArg some<|by kernel_rfl⟩
 f22:=⟨Tryz.f86.name,by decide,Tryz.func86.trans<|congrArg some<|by kernel_rfl⟩
 f23:=⟨Tryz.f87.name,by decide,Tryz.func87.trans<|congrArg some<|by kernel_rfl⟩
 f24:=⟨Tryz.f88.name,by decide,Tryz.func88.trans<|congrArg some<|by kernel_rfl⟩
 f25:=⟨Tryz.f89.name,by decide,Tryz.func89.trans<|congrArg some<|by kernel_rfl⟩
 f26:=⟨Tryz.f90.name,by decide,Tryz.func90.trans<|congrArg some<|by kernel_rfl⟩
 f27:=⟨Tryz.f91.name,by decide,Tryz.func91.trans<|congrArg some<|by kernel_rfl⟩
 f28:=Tryz.func92.trans (congrArg some<|by kernel_rfl)
 f29:=Tryz.func93.trans (congrArg some<|by kernel_rfl)
 f46:=⟨Tryz.f96.name,by decide,Tryz.func96.trans<|congrArg some<|by kernel_rfl⟩
 f47:=Tryz.func97.trans (congrArg some<|by kernel_rfl)
 f48:=Tryz.func98.trans (congrArg some<|by kernel_rfl)
 f49:=⟨Tryz.f99.name,by decide,Tryz.func99.trans<|congrArg some<|by kernel_rfl⟩
 f50:=⟨Tryz.f100.name,by decide,Tryz.func100.trans<|congrArg some<|by kernel_rfl⟩
 f57:=⟨Tryz.f102.name,by decide,Tryz.func102.trans<|congrArg some<|by kernel_rfl⟩
 t0:=Tryz.underlying0
 a0:=Tryz.isAgg0
 z0:=Tryz.sizeOf0
 v0:=Tryz.zeroValue0
 t3:=Tryz.underlying3
 a3:=Tryz.isAgg3
 z3:=Tryz.sizeOf3
 v3:=Tryz.zeroValue3
 t4:=Tryz.underlying4
 a4:=Tryz.isAgg4
 z4:=Tryz.sizeOf4
 v4:=Tryz.zeroValue4
 t5:=Tryz.underlying5
 a5:=Tryz.isAgg5
 z5:=Tryz.sizeOf5
 v5:=Tryz.zeroValue5
 t9:=Tryz.underlying9
 a9:=Tryz.isAgg9
 z9:=Tryz.sizeOf9
 v9:=Tryz.zeroValue9
 t22:=Tryz.underlying26
 a22:=Tryz.isAgg26
 z22:=Tryz.sizeOf26
 v22:=Tryz.zeroValue26
 t25:=Tryz.underlying126
 a25:=Tryz.isAgg126
 z25:=Tryz.sizeOf126
 v25:=Tryz.zeroValue126
 t39:=Tryz.underlying142
 a39:=Tryz.isAgg142
 z39:=Tryz.sizeOf142
 v39:=Tryz.zeroValue142
 t45:=Tryz.underlying150
 a45:=Tryz.isAgg150
 z45:=Tryz.sizeOf150
 v45:=Tryz.zeroValue150
 t46:=Tryz.underlying151
 a46:=Tryz.isAgg151
 z46:=Tryz.sizeOf151
 v46:=Tryz.zeroValue151
 t50:=Tryz.underlying35
 a50:=Tryz.isAgg35
 z50:=Tryz.sizeOf35
 v50:=Tryz.zeroValue35
 t53:=Tryz.underlying157
 a53:=Tryz.isAgg157
 z53:=Tryz.sizeOf157
 v53:=Tryz.zeroValue157
 t55:=Tryz.underlying159
 a55:=Tryz.isAgg159
 z55:=Tryz.sizeOf159
 v55:=Tryz.zeroValue159
 t66:=Tryz.underlying161
 a66:=Tryz.isAgg161
 z66:=Tryz.sizeOf161
 v66:=Tryz.zeroValue161
 t70:=Tryz.underlying165
 a70:=Tryz.isAgg165
 z70:=Tryz.sizeOf165
 v70:=Tryz.zeroValue165
 t76:=Tryz.underlying168
 a76:=Tryz.isAgg168
 z76:=Tryz.sizeOf168
 v76:=Tryz.zeroValue168
 t77:=Tryz.underlying98
 a77:=Tryz.isAgg98
 z77:=Tryz.sizeOf98
 v77:=Tryz.zeroValue98}
theorem aiU(x y:Int×Int)(W:World):Calls Tryz.prog 62 #[.agg #[.int .i64 x.1,.int .i64 x.2],.agg #[.int .i64 y.1,.int .i64 y.2]] W fun e w'=>e= .returned (.int .i64<|Lib.compareInt x.1 y.1)/\∃q os',w'=grow (W.drewN q) os':=by
 have Xw:∀W',Calls Tryz.prog 63 #[.int .i64 x.1,.int .i64 y.1] W' fun e w'=>e= .returned (.int .i64<|Lib.compareInt x.1 y.1)/\w'=W':=fun W'=>by
  unfold Lib.compareInt
  go_enter Tryz.func63,Tryz.ntmps63
  go_wp2
  all_goals go_ret
  all_goals simp_all
  all_goals omega
 generalize Lib.compareInt x.1 y.1=r at Xw ⊢
 go_enter Tryz.func62,Tryz.ntmps62
 go_wp2_with (go_at_call 63;refine(Xw _).mono ?_;rintro e w' ⟨rfl,rfl⟩)
 go_ret
 exact⟨rfl,0,_,by rw[alloc_eq_grow,alloc_eq_grow,grow_grow];rfl⟩
theorem LD(x y:Int×Int):ltOf (fun x y:Int×Int=>Lib.compareInt x.1 y.1) x y=decide (x.1<y.1):=by
 unfold ltOf Lib.compareInt;by_cases h1:x.1<y.1
 ·simp[h1]
 ·by_cases h2:y.1<x.1<;>simp[h1,h2]
theorem swo:SWO (ltOf fun x y:Int×Int=>Lib.compareInt x.1 y.1) where
 irrefl x:=by rw[LD];simp
 trans x y z h1 h2:=by rw[LD] at*;simp at*;omega
 ntrans x y z h1 h2:=by rw[LD] at*;simp at*;omega
theorem AN:∀(l:List<|Int×Int) (i:Nat),i<l.length*2->(l.map lD).flatten[i]? =some ((lD (l.toArray)[i / 2]!)[i % 2]!)
 |[],i,h=>by simp at h
 |p::l,0,_=>rfl
 |p::l,1,_=>rfl
 |p::l,i+2,h=>by
  have h':i<l.length*2:=by rw[List.length_cons] at h;omega
  have e:=AN l i h';have a1:((p::l).map lD).flatten[i+2]? =(l.map lD).flatten[i]? :=rfl;have a2:(i+2) / 2=i / 2+1:=by omega
  have a3:(i+2) % 2=i % 2:=by omega
  have a4:(p::l).toArray[i / 2+1]! =l.toArray[i / 2]! :=by
   have q:i / 2<l.length:=by omega
   rw[getElem!_pos _ _ (by show i / 2+1<(p::l).length;rw[List.length_cons];omega),getElem!_pos _ _<|by exact q];rfl
  rw[a1,e,a2,a3,a4]
theorem Un(l:List<|Int×Int)(i:Nat)(h:i<l.length*2):(flatK lD 2 l.toArray)[i]! =((l.map lD).flatten[i]?).getD default:=by rw[get_flatK _ _ _ _ (by exact h),AN l i h];rfl
theorem isSort:Di Tryz.prog 61 62 where
 is:=⟨_,aQ Tryz.prog 61 [],Tryz.func61,by kernel_rfl,by kernel_rfl⟩
 Xo a c w:=AnyF.slices_SortFunc_none lays a c _ w
 rows b c l cs e w hb hc hl nd:=by
  have Lv:b<w.heap.size:=(Array.getElem?_eq_some_iff.1 hb).1;have hlen:(l.map lD).flatten.length=l.length*2:=by rw[FC,List.length_map,CC]
  have hH:HoldsK lD 2 w b 0 l.toArray:=fun j hj=>by
   rw[size_flatK] at hj;have hj:j<l.length*2:=hj;refine⟨?_,?_⟩
   ·rw[Un l j hj,List.getElem?_eq_getElem<|by omega];unfold World.cell?;simp only[hb];rw[Nat.zero_add];exact hc j _ (List.getElem?_eq_getElem<|by omega)
   ·unfold World.frozen?;simp only[hb];simp
  refine(AnyQ.slices_SortFunc lays 2 Tryz.isAgg67 Tryz.sizeOf67 lD (fun _=>rfl) (fun x v hv=>by simp[lD] at hv;rcases hv with rfl|rfl<;>rfl) (fun x y=>Lib.compareInt x.1 y.1) swo 62 #[] b 0 c l.toArray w (fun args w=>enters_of Tryz.func62 (by kernel_rfl) rfl args w) (fun _ _ _ _ x y=>aiU x y _) hH Lv (by show l.length<_;omega)).mono fun e' w'=>?_;rintro ⟨rfl,d',n,os,⟨p1,_,p3⟩,hs,rfl⟩;have hd:d'.toList=dR l:=by
   have ku:d'.size=l.length:=p1;refine Ud nd ?_ ?_
   ·have e1:d'.extract 0 l.toArray.size=d':=by rw[show l.toArray.size=d'.size from p1.symm];simp
    have e2:l.toArray.extract 0 l.toArray.size=l.toArray:=by simp
    rw[e1,e2] at p3;exact p3
   ·rw[List.pairwise_iff_getElem];intro i j hi hj lI;have iu:i<d'.size:=by simpa using hi
    have rY:j<d'.size:=by simpa using hj
    have:=hs i j (Nat.zero_le _) lI (by show j<l.length;omega);rw[getElem!_pos d' i iu,getElem!_pos d' j rY,LD] at this;have:=of_decide_eq_false this;rw[Array.getElem_toList,Array.getElem_toList];omega
  have hdl:d'=(dR l).toArray:=by rw[←hd]
  have ku:d'.size=l.length:=p1;subst hdl;refine⟨rfl,⟨rfl,rfl,rfl,?_⟩,fun k hk hkb=>?_,putCells id 0 (flatK lD 2 (dR l).toArray) cs,?_,by unfold putCells;rw[Array.size_mapIdx],fun i v hv=>?_⟩
  ·show w.heap.size<=((w.heap.modify b _)++os).size;rw[Array.size_append,Array.size_modify];omega
  ·show((w.heap.modify b _)++os)[k]? =_;rw[Array.getElem?_append_left (by rw[Array.size_modify];exact hk),Array.getElem?_modify,if_neg<|Ne.symm hkb]
  ·show((w.heap.modify b _)++os)[b]? =_;rw[Array.getElem?_append_left (by rw[Array.size_modify];exact Lv),Array.getElem?_modify,if_pos rfl,hb];rfl
  ·have hi:=(List.getElem?_eq_some_iff.1 hv).1;have jL:i<l.length*2:=by rw[FC,List.length_map,CC,Aw] at hi;exact hi
   have YM:i<(dR l).length*2:=by rw[Aw];exact jL
   unfold putCells;rw[Array.getElem?_mapIdx];have qM:cs[i]? =some ((l.map lD).flatten[i]'(by omega)):=hc i _ (List.getElem?_eq_getElem<|by omega);rw[qM];show some (if 0<=i/\i<0+(flatK lD 2 (dR l).toArray).size then id (flatK lD 2 (dR l).toArray)[i - 0]! else _)=some v;rw[if_pos ⟨Nat.zero_le _,by rw[size_flatK,Nat.zero_add];exact YM⟩,Nat.sub_zero];show some ((flatK lD 2 (dR l).toArray)[i]!)=some v;rw[Un _ i YM,hv];rfl
end Xv
end
section
open Go Go.Rn Go.RowKit Go.Proofs
open Go.ChangeShapes
namespace ahy
open cj cH eR dq J6 rD mQ mI eZ fQ iA vS tY im zM D6 Gj KJ KK KL J7 Qd WH
variable {v:Value} {b0:Nat} {t:TypeId} {p:List MemPlace}
section
variable {H:Type} {enc:TypeId×Value->H} {w:World} {base:Nat} {sp:Nat->Bool} {held:Bool}
theorem wf_u8{n:Int}(h:(Lit.int .u8 n).wf=true):0<=n/\n<=255:=by obtain⟨h1,h2⟩:=and_true.1 (show(decide (IntKind.u8.min<=n)&&decide (n<=IntKind.u8.max))=true from h);exact⟨of_decide_eq_true h1,of_decide_eq_true h2⟩
theorem YO:Tryz.prog.cellsOf 2=1:=by kernel_rfl
theorem sz3:Tryz.prog.cellsOf 3=1:=by kernel_rfl
theorem YP:Tryz.prog.cellsOf 5=1:=by kernel_rfl
theorem aiV:Tryz.prog.cellsOf 22=1:=by kernel_rfl
theorem aiW:Tryz.prog.cellsOf 38=1:=by kernel_rfl
theorem Xy:Tryz.prog.cellsOf 40=3:=by kernel_rfl
theorem Xz:Tryz.prog.cellsOf 42=10:=by kernel_rfl
theorem JI{x y:Value}(h:[x]=[y]):x=y:=by injection h
theorem aez{fuel:Nat}(hu:Tryz.prog.underlying t=some (.int .i64))(row:List Value)(_:row.length=1)(h2:∃n y,n<fuel/\DataW.trod enc pg w base sp held n t row=some y):∃a ms,J8 w encI (fun _=>True) row a ms:=by
 obtain⟨_,y,_,h⟩:=h2;obtain⟨a,rfl,_,_⟩:=DataW.trod_int hu h;refine⟨a,[],trivial,Good.nil,fun j x hx=>?_⟩;rcases j with _|j
 ·injection (show some _=some x from hx) with hx
  subst hx;exact⟨_,rfl,fun σ _=>by simp only[VR]⟩
 ·cases(show none=some x from hx)
theorem WI:∀(fuel:Nat) (c0 c1 c2:Value) (y:DataW H×List MemPlace),DataW.trod enc pg w base sp held fuel 40 [c0,c1,c2]=some y->∃(op n:Int) (args:List Ex) (ms:mB),c0= .int .u8 op/\c1= .int .i64 n/\Good w ms/\Is ms (aw aB args) c2:=by
 intro fuel;induction fuel using Nat.strongRecOn with
 |ind fuel ih=>
  intro c0 c1 c2 y h;obtain⟨xs,n,YN,_,hlen,Rr,hf⟩:=DataW.trod_struct Tryz.underlying40 h;have aiX:xs.length=3:=Rr
  match xs,aiX,hf with
  |[x0,x1,x2],_,hf=>
   have f0:DataW.trod enc pg w base sp held n 5 (([c0,c1,c2].drop 0).take<|Tryz.prog.cellsOf 5)=some x0:=hf 0 _ rfl;have f1:DataW.trod enc pg w base sp held n 2 (([c0,c1,c2].drop 1).take<|Tryz.prog.cellsOf 2)=some x1:=hf 1 _ rfl;have f2:DataW.trod enc pg w base sp held n 38 (([c0,c1,c2].drop 2).take<|Tryz.prog.cellsOf 38)=some x2:=hf 2 _ rfl;rw[YP] at f0;rw[YO] at f1;rw[aiW] at f2;obtain⟨a0,e0,_,_⟩:=DataW.trod_int Tryz.underlying5 f0;obtain⟨a1,e1,_,_⟩:=DataW.trod_int Tryz.underlying2 f1;obtain rfl:=JI e0;obtain rfl:=JI e1;obtain⟨l,ms,_,k2,k3⟩:=IA (Q:=fun _:Ex=>True) kK (Nat.succ_pos _) Tryz.underlying38 Xy (fun row eU h2=>by
    obtain⟨n2,y2,uh,h2⟩:=h2
    match row,eU,h2 with
    |[d0,d1,d2],_,h2=>
     obtain⟨o',n',l',kh,rfl,rfl,g1,g2⟩:=ih n2 ab d0 d1 d2 y2 h2;refine⟨.mk o' n' l',kh,trivial,g1,fun j x hx=>?_⟩;rw[Nj] at hx;rcases j with _|_|_|j
     ·injection (show some _=some x from hx) with hx
      subst hx;exact⟨_,rfl,fun σ _=>by simp only[VR]⟩
     ·injection (show some _=some x from hx) with hx
      subst hx;exact⟨_,rfl,fun σ _=>by simp only[VR]⟩
     ·injection (show some _=some x from hx) with hx
      subst hx;exact⟨_,rfl,g2⟩
     ·cases(show none=some x from hx)) (show DataW.trod enc pg w base sp held n 38 [c2]=some x2 from f2)
   exact⟨a0,a1,l,ms,rfl,rfl,k2,k3⟩
def KQ(s:St):Prop:=(0<=fC s/\fC s<256)/\∀k,pE k (bG s)/\pE k (bF s)
theorem IC{l:List St}(h:∀s∈l,KQ s):∀k,pE k l
 |0=>trivial
 |k+1=>fun s hs=>⟨(h s hs).1,(h s hs).2 k⟩
theorem afZ:∀(fuel:Nat) (row:List Value) (y:DataW H×List MemPlace),row.length=10->DataW.trod enc pg w base sp held fuel 42 row=some y->∃a ms,J8 w aL KQ row a ms:=by
 intro fuel;induction fuel using Nat.strongRecOn with
 |ind fuel ih=>
  intro row y eU h;obtain⟨xs,n,YN,_,hlen,Rr,hf⟩:=DataW.trod_struct Tryz.underlying42 h;have aiY:xs.length=6:=Rr
  match row,eU,xs,aiY,hf with
  |[c0,c1,c2,c3,c4,c5,c6,c7,c8,c9],_,[x0,x1,x2,x3,x4,x5],_,hf=>
   have f0:DataW.trod enc pg w base sp held n 5 (([c0,c1,c2,c3,c4,c5,c6,c7,c8,c9].drop 0).take<|Tryz.prog.cellsOf 5)=some x0:=hf 0 _ rfl;have f1:DataW.trod enc pg w base sp held n 3 (([c0,c1,c2,c3,c4,c5,c6,c7,c8,c9].drop 1).take<|Tryz.prog.cellsOf 3)=some x1:=hf 1 _ rfl;have f2:DataW.trod enc pg w base sp held n 40 (([c0,c1,c2,c3,c4,c5,c6,c7,c8,c9].drop 2).take<|Tryz.prog.cellsOf 40)=some x2:=hf 2 _ rfl;have f3:DataW.trod enc pg w base sp held n 40 (([c0,c1,c2,c3,c4,c5,c6,c7,c8,c9].drop 5).take<|Tryz.prog.cellsOf 40)=some x3:=hf 3 _ rfl;have f4:DataW.trod enc pg w base sp held n 22 (([c0,c1,c2,c3,c4,c5,c6,c7,c8,c9].drop 8).take<|Tryz.prog.cellsOf 22)=some x4:=hf 4 _ rfl;have f5:DataW.trod enc pg w base sp held n 22 (([c0,c1,c2,c3,c4,c5,c6,c7,c8,c9].drop 9).take<|Tryz.prog.cellsOf 22)=some x5:=hf 5 _ rfl;rw[YP] at f0;rw[sz3] at f1;rw[Xy] at f2 f3;rw[aiV] at f4 f5;obtain⟨a0,e0,_,w0⟩:=DataW.trod_int Tryz.underlying5 f0;obtain⟨a1,e1,_,_⟩:=DataW.trod_int Tryz.underlying3 f1;obtain rfl:=JI e0;obtain rfl:=JI e1;obtain⟨o2,n2,l2,m2,rfl,rfl,g2,i2⟩:=WI n c2 c3 c4 x2 f2;obtain⟨o3,n3,l3,m3,rfl,rfl,g3,i3⟩:=WI n c5 c6 c7 x3 f3;have hr:∀{v:Value} {z:DataW H×List MemPlace},DataW.trod enc pg w base sp held n 22 [v]=some z->∃(l:List St) (ms:mB),(∀a∈l,KQ a)/\Good w ms/\Is ms (aw aL l) v:=fun hz=>IA (Q:=KQ) mz (Nat.succ_pos _) Tryz.underlying22 Xz (fun row eU h2=>by obtain⟨k2,y2,Lo,h2⟩:=h2;exact ih k2 ab row y2 eU h2) hz;obtain⟨l4,m4,q4,g4,i4⟩:=hr (v:=c8) f4;obtain⟨l5,m5,q5,g5,i5⟩:=hr (v:=c9) f5;refine⟨.mk a0 a1 (.mk o2 n2 l2) (.mk o3 n3 l3) l4 l5,m2++(m3++(m4++m5)),⟨by have:=wf_u8 w0;show 0<=a0/\a0<256;omega,fun k=>⟨IC q4 k,IC q5 k⟩⟩,g2.app<|g3.app<|g4.app g5,fun j x hx=>?_⟩;rw[wP,Nj,Nj] at hx;rcases j with _|_|_|_|_|_|_|_|_|_|j
   ·injection (show some _=some x from hx) with hx;subst hx;exact⟨_,rfl,fun σ _=>by simp only[VR]⟩
   ·injection (show some _=some x from hx) with hx;subst hx;exact⟨_,rfl,fun σ _=>by simp only[VR]⟩
   ·injection (show some _=some x from hx) with hx;subst hx;exact⟨_,rfl,fun σ _=>by simp only[VR]⟩
   ·injection (show some _=some x from hx) with hx;subst hx;exact⟨_,rfl,fun σ _=>by simp only[VR]⟩
   ·injection (show some _=some x from hx) with hx;subst hx;exact⟨_,rfl,i2.sub fun p hp=>List.mem_append_left _ hp⟩
   ·injection (show some _=some x from hx) with hx;subst hx;exact⟨_,rfl,fun σ _=>by simp only[VR]⟩
   ·injection (show some _=some x from hx) with hx;subst hx;exact⟨_,rfl,fun σ _=>by simp only[VR]⟩
   ·injection (show some _=some x from hx) with hx;subst hx;exact⟨_,rfl,i3.sub fun p hp=>List.mem_append_right _<|List.mem_append_left _ hp⟩
   ·injection (show some _=some x from hx) with hx;subst hx;exact⟨_,rfl,i4.sub fun p hp=>List.mem_append_right _<|List.mem_append_right _<|List.mem_append_left _ hp⟩
   ·injection (show some _=some x from hx) with hx;subst hx;exact⟨_,rfl,i5.sub fun p hp=>List.mem_append_right _<|List.mem_append_right _<|List.mem_append_right _ hp⟩
   ·cases(show none=some x from hx)
theorem Up{e:TypeId}(hu:Tryz.prog.underlying t=some (.slice e))(fP:Value.okWide pg w .any b0 t v):∃a len cap,v= .slice a len cap:=by unfold Value.okWide at fP;rw[hu] at fP;simp only at fP;unfold Cell.okWide at fP;rw[hu] at fP;cases v<;>first|exact⟨_,_,_,rfl⟩|(exfalso;unfold Cell.ok at fP;rw[hu] at fP;simp at fP)
theorem alW{d:DataW H}(fP:Value.okWide pg w .any b0 22 v)(h:DataW.Trod enc pg w base sp held 22 v d p):∃(l:List St) (ms:mB),(∀a∈l,KQ a)/\Good w ms/\Is ms (aw aL l) v:=by obtain⟨fuel,h⟩:=h;obtain⟨a,len,cap,rfl⟩:=Up Tryz.underlying22 fP;exact IA (Q:=KQ) mz (Nat.succ_pos _) Tryz.underlying22 Xz (fun row eU h2=>by obtain⟨n,y,_,h2⟩:=h2;exact afZ n row y eU h2) (show DataW.trod enc pg w base sp held fuel 22 [.slice a len cap]=some (d,p) from h)
theorem alG{d:DataW H}(fP:Value.okWide pg w .any b0 23 v)(h:DataW.Trod enc pg w base sp held 23 v d p):∃(l:List Int) (ms:mB),Good w ms/\Is ms (aw encI l) v:=by obtain⟨fuel,h⟩:=h;obtain⟨a,len,cap,rfl⟩:=Up Tryz.underlying23 fP;obtain⟨l,ms,_,k2,k3⟩:=IA (Q:=fun _:Int=>True) eI (Nat.succ_pos _) Tryz.underlying23 YO (aez Tryz.underlying2) (show DataW.trod enc pg w base sp held fuel 23 [.slice a len cap]=some (d,p) from h);exact⟨l,ms,k2,k3⟩
end
theorem af0(hP:bS pg):aX LJ:=Ug hP 22<|abD hP<|afX hP Xv.isSort<|abE hP<|acT hP de
theorem ahz:Tryz.f3.body=some (aQ pg 3 []):=Fk Tryz.func3 aU
theorem alK(hP:bS pg)(W:World){ρ:Ren}(S:Rn.Start 270 dH ρ W){v1 v2 v4:Value}{tx ty:List St}{mem:List Int}{m1 m2 m4:mB}(q:∀s∈tx,KQ s)(q2:∀s∈ty,KQ s)(g1:Good W m1)(i1:Is m1 (aw aL tx) v1)(g2:Good W m2)(i2:Is m2 (aw aL ty) v2)(g4:Good W m4)(i4:Is m4 (aw encI mem) v4):
 Calls pg 3 #[v1,v2,v4] W fun e w'=>e= .returned (.bool true)/\Below W.heap.size W w':=by
 let B:aI:=⟨fun k=>W.heap.size<=k,FU,fun _=>True,nJ XT 270,W.heap.size,fun h a b=>h.mono a b⟩;have g:Good W<|m1++(m2++m4):=g1.app<|g2.app g4;have r:Rel B (pF (m1++(m2++m4)) ρ) dH W:=S.ahx B (Nat.le_trans (by decide) ry) g;have hh:Has (pF (m1++(m2++m4)) ρ)<|m1++(m2++m4):=Tx;have v1':=VR.mono (Ja _) _ _<|i1 _<|hh.sub fun p hp=>List.mem_append_left _ hp;have v2':=VR.mono (Ja _) _ _<|i2 _<|hh.sub fun p hp=>List.mem_append_right _<|List.mem_append_left _ hp;have v4':=VR.mono (Ja _) _ _<|i4 _<|hh.sub fun p hp=>List.mem_append_right _<|List.mem_append_right _ hp;have mc:Mt LJ B:=qF hP (af0 hP) rfl rfl;have H:=aay (mem:=mem) mc (qF hP de rfl rfl:Mt [] B) (IC q 60)<|IC q2 60;have hg:gD<|pF (m1++(m2++m4)) ρ:=fun g hg=>by obtain⟨N,e⟩:=S.g g hg;exact⟨N,IB _ _ e⟩
 have hf:∀k,270<=k->k<top->pF (m1++(m2++m4)) ρ k=none:=fun k h1 h2=>by rw[MW h2];exact S.free k h1
 have hv:ay (pF (m1++(m2++m4)) ρ) [aw aL tx,aw aL ty,aw encI mem] (#[v1,v2,v4]:Array Value).toList:=⟨_,_,rfl,v1',_,_,rfl,v2',_,_,rfl,v4',rfl⟩;have r':Rel B (pF (m1++(m2++m4)) ρ) (ah ak 270).h W:=by rw[hI];exact r
 have bH:=au.calls (args:=[aw aL tx,aw aL ty,aw encI mem]) hP Tryz.func3 ahz (aK.1 aU) H (ac6 aU) r' hg hf hv;refine bH.mono fun e w'=>?_;rintro ⟨v,x,s3,rfl,rfl,_,_,σ,_,q5,_,q4⟩;simp only[VR] at q5;exact⟨by rw[q5],q4.os,q4.tape,q4.output,q4.size,fun k hk=>q4.block k hk (by show ¬(W.heap.size<=k);omega)⟩
end ahy
end
