import Derived.Test.YtjcfiaeoopphoaaDoorRnGC
import Derived.Test.YtjcfiaeoopphoaaDoorProg
import Derived.Shelf.SlSortCmp.NoneTotal
import Derived.Test.YtjcfiaeoopphoaaDoorAtGF
set_option maxRecDepth 100000
set_option maxHeartbeats 8000000
set_option linter.unusedSimpArgs false
set_option linter.unusedVariables false
open Array renaming getElem?_append_left → Wi, getElem?_eq_some_iff → UR, getElem?_modify → V5, length_toList → Uq, size_modify → Wz
open List renaming getElem?_eq_getElem → TE, getElem?_eq_some_iff → TZ, length_cons → TL, length_map → T3, mem_append_left → T7, mem_append_right → TU, pairwise_iff_getElem → V7
open Nat renaming le_trans → TO, sub_zero → Uk, succ_pos → Uu, zero_add → T6, zero_le → TN
open Go Go.Rn Go.RowKit Go.Proofs
noncomputable section
section
open Go.Shelf Go.Lib Go.Sort
namespace RR
def xC:Go.Shelf.Ren:=⟨fun|6=>60|14=>76|15=>77|20=>83|21=>84|22=>85|23=>86|24=>87|25=>88|26=>89|27=>90|28=>91|29=>92|46=>95|47=>96|48=>97|49=>98|50=>99|57=>101|n=>n,fun|0=>0|3=>3|4=>4|5=>5|9=>9|22=>38|25=>128|39=>144|45=>152|46=>153|50=>46|53=>159|55=>161|66=>163|70=>167|76=>170|77=>100|24=>96|n=>n,fun n=>n⟩
theorem lays:SlLaysF0.n6 Tryd.prog xC:={
 mixed:=by kernel_rfl
 f6:=⟨Tryd.f60.name,by decide,Tryd.func60.trans<|congrArg some<|by kernel_rfl⟩
 f14:=⟨Tryd.f76.name,by decide,Tryd.func76.trans<|congrArg some<|by kernel_rfl⟩
 f15:=Tryd.func77.trans (congrArg some<|by kernel_rfl)
 f20:=⟨Tryd.f83.name,by decide,Tryd.func83.trans<|congrArg some<|by kernel_rfl⟩
 f21:=⟨Tryd.f84.name,by decide,Tryd.func84.trans<|congrArg some<|by kernel_rfl⟩
 f22:=⟨Tryd.f85.name,by decide,Tryd.func85.trans<|congrArg some<|by kernel_rfl⟩
 f23:=⟨Tryd.f86.name,by decide,Tryd.func86.trans<|congrArg some<|by kernel_rfl⟩
 f24:=⟨Tryd.f87.name,by decide,Tryd.func87.trans<|congrArg some<|by kernel_rfl⟩
 f25:=⟨Tryd.f88.name,by decide,Tryd.func88.trans<|congrArg some<|by kernel_rfl⟩
 f26:=⟨Tryd.f89.name,by decide,Tryd.func89.trans<|congrArg some<|by kernel_rfl⟩
 f27:=⟨Tryd.f90.name,by decide,Tryd.func90.trans<|congrArg some<|by kernel_rfl⟩
 f28:=Tryd.func91.trans (congrArg some<|by kernel_rfl)
 f29:=Tryd.func92.trans (congrArg some<|by kernel_rfl)
 f46:=⟨Tryd.f95.name,by decide,Tryd.func95.trans<|congrArg some<|by kernel_rfl⟩
 f47:=Tryd.func96.trans (congrArg some<|by kernel_rfl)
 f48:=Tryd.func97.trans (congrArg some<|by kernel_rfl)
 f49:=⟨Tryd.f98.name,by decide,Tryd.func98.trans<|congrArg some<|by kernel_rfl⟩
 f50:=⟨Tryd.f99.name,by decide,Tryd.func99.trans<|congrArg some<|by kernel_rfl⟩
 f57:=⟨Tryd.f101.name,by decide,Tryd.func101.trans<|congrArg some<|by kernel_rfl⟩
 t0:=Tryd.underlying0
 a0:=Tryd.isAgg0
 z0:=Tryd.sizeOf0
 v0:=Tryd.zeroValue0
 t3:=Tryd.underlying3
 a3:=Tryd.isAgg3
 z3:=Tryd.sizeOf3
 v3:=Tryd.zeroValue3
 t4:=Tryd.underlying4
 a4:=Tryd.isAgg4
 z4:=Tryd.sizeOf4
 v4:=Tryd.zeroValue4
 t5:=Tryd.underlying5
 a5:=Tryd.isAgg5
 z5:=Tryd.sizeOf5
 v5:=Tryd.zeroValue5
 t9:=Tryd.underlying9
 a9:=Tryd.isAgg9
 z9:=Tryd.sizeOf9
 v9:=Tryd.zeroValue9
 t22:=Tryd.underlying38
 a22:=Tryd.isAgg38
 z22:=Tryd.sizeOf38
 v22:=Tryd.zeroValue38
 t25:=Tryd.underlying128
 a25:=Tryd.isAgg128
 z25:=Tryd.sizeOf128
 v25:=Tryd.zeroValue128
 t39:=Tryd.underlying144
 a39:=Tryd.isAgg144
 z39:=Tryd.sizeOf144
 v39:=Tryd.zeroValue144
 t45:=Tryd.underlying152
 a45:=Tryd.isAgg152
 z45:=Tryd.sizeOf152
 v45:=Tryd.zeroValue152
 t46:=Tryd.underlying153
 a46:=Tryd.isAgg153
 z46:=Tryd.sizeOf153
 v46:=Tryd.zeroValue153
 t50:=Tryd.underlying46
 a50:=Tryd.isAgg46
 z50:=Tryd.sizeOf46
 v50:=Tryd.zeroValue46
 t53:=Tryd.underlying159
 a53:=Tryd.isAgg159
 z53:=Tryd.sizeOf159
 v53:=Tryd.zeroValue159
 t55:=Tryd.underlying161
 a55:=Tryd.isAgg161
 z55:=Tryd.sizeOf161
 v55:=Tryd.zeroValue161
 t66:=Tryd.underlying163
 a66:=Tryd.isAgg163
 z66:=Tryd.sizeOf163
 v66:=Tryd.zeroValue163
 t70:=Tryd.underlying167
 a70:=Tryd.isAgg167
 z70:=Tryd.sizeOf167
 v70:=Tryd.zeroValue167
 t76:=Tryd.underlying170
 a76:=Tryd.isAgg170
 z76:=Tryd.sizeOf170
 v76:=Tryd.zeroValue170
 t77:=Tryd.underlying100
 a77:=Tryd.isAgg100
 z77:=Tryd.sizeOf100
 v77:=Tryd.zeroValue100}
theorem alx(x y:Int×Int)(W:World):Calls Tryd.prog 61 #[.agg #[.int .i64 x.1,.int .i64 x.2],.agg #[.int .i64 y.1,.int .i64 y.2]] W fun e w'=>e= .returned (.int .i64<|Lib.compareInt x.1 y.1)/\∃q os',w'=grow (W.drewN q) os':=by
 have ZB:∀W',Calls Tryd.prog 62 #[.int .i64 x.1,.int .i64 y.1] W' fun e w'=>e= .returned (.int .i64<|Lib.compareInt x.1 y.1)/\w'=W':=fun W'=>by
  unfold Lib.compareInt
  go_enter Tryd.func62,Tryd.ntmps62
  go_wp2
  all_goals go_ret
  all_goals simp_all
  all_goals omega
 generalize Lib.compareInt x.1 y.1=r at ZB ⊢
 go_enter Tryd.func61,Tryd.ntmps61
 go_wp2_with (go_at_call 62;refine(ZB _).mono ?_;rintro e w' ⟨rfl,rfl⟩)
 go_ret
 exact⟨rfl,0,_,by rw[alloc_eq_grow,alloc_eq_grow,grow_grow];rfl⟩
theorem zI(x y:Int×Int):ltOf (fun x y:Int×Int=>Lib.compareInt x.1 y.1) x y=decide (x.1<y.1):=by
 unfold ltOf Lib.compareInt;by_cases h1:x.1<y.1
 ·simp[h1]
 ·by_cases h2:y.1<x.1<;>simp[h1,h2]
theorem swo:SWO (ltOf fun x y:Int×Int=>Lib.compareInt x.1 y.1) where
 irrefl x:=by rw[zI];simp
 trans x y z h1 h2:=by rw[zI] at*;simp at*;omega
 ntrans x y z h1 h2:=by rw[zI] at*;simp at*;omega
theorem BX:∀(l:List<|Int×Int) (i:Nat),i<l.length*2->(l.map lS).flatten[i]? =some ((lS (l.toArray)[i / 2]!)[i % 2]!)
 |[],i,h=>by simp at h
 |p::l,0,_=>rfl
 |p::l,1,_=>rfl
 |p::l,i+2,h=>by
  have h':i<l.length*2:=by rw[TL] at h;omega
  have e:=BX l i h';have a1:((p::l).map lS).flatten[i+2]? =(l.map lS).flatten[i]? :=rfl;have a2:(i+2) / 2=i / 2+1:=by omega
  have a3:(i+2) % 2=i % 2:=by omega
  have a4:(p::l).toArray[i / 2+1]! =l.toArray[i / 2]! :=by
   have q:i / 2<l.length:=by omega
   rw[getElem!_pos _ _ (by show i / 2+1<(p::l).length;rw[TL];omega),getElem!_pos _ _<|by exact q];rfl
  rw[a1,e,a2,a3,a4]
theorem ano(l:List<|Int×Int)(i:Nat)(h:i<l.length*2):(flatK lS 2 l.toArray)[i]! =((l.map lS).flatten[i]?).getD default:=by rw[get_flatK _ _ _ _ (by exact h),BX l i h];rfl
theorem isSort:Cl Tryd.prog 60 61 where
 is:=⟨_,aL Tryd.prog 60 [],Tryd.func60,by kernel_rfl,by kernel_rfl⟩
 Zq a c w:=AnyF.slices_SortFunc_none lays a c _ w
 rows b c l cs e w hb hc hl nd:=by
  have Nn:b<w.heap.size:=(UR.1 hb).1;have hlen:(l.map lS).flatten.length=l.length*2:=by rw[GZ,T3,DZ]
  have hH:HoldsK lS 2 w b 0 l.toArray:=fun j hj=>by
   rw[size_flatK] at hj;have hj:j<l.length*2:=hj;refine⟨?_,?_⟩
   ·rw[ano l j hj,TE<|by omega];unfold World.cell?;simp only[hb];rw[T6];exact hc j _ (TE<|by omega)
   ·unfold World.frozen?;simp only[hb];simp
  refine(AnyQ.slices_SortFunc lays 2 Tryd.isAgg96 Tryd.sizeOf96 lS (fun _=>rfl) (fun x v hv=>by simp[lS] at hv;rcases hv with rfl|rfl<;>rfl) (fun x y=>Lib.compareInt x.1 y.1) swo 61 #[] b 0 c l.toArray w (fun args w=>enters_of Tryd.func61 (by kernel_rfl) rfl args w) (fun _ _ _ _ x y=>alx x y _) hH Nn (by show l.length<_;omega)).mono fun e' w'=>?_;rintro ⟨rfl,d',n,os,⟨p1,_,p3⟩,hs,rfl⟩;have hd:d'.toList=eC l:=by
   have j9:d'.size=l.length:=p1;refine ang nd ?_ ?_
   ·have e1:d'.extract 0 l.toArray.size=d':=by rw[show l.toArray.size=d'.size from p1.symm];simp
    have e2:l.toArray.extract 0 l.toArray.size=l.toArray:=by simp
    rw[e1,e2] at p3;exact p3
   ·rw[V7];intro i j hi hj lZ;have iO:i<d'.size:=by simpa using hi
    have tj:j<d'.size:=by simpa using hj
    have:=hs i j (TN _) lZ (by show j<l.length;omega);rw[getElem!_pos d' i iO,getElem!_pos d' j tj,zI] at this;have:=of_decide_eq_false this;rw[Array.getElem_toList,Array.getElem_toList];omega
  have hdl:d'=(eC l).toArray:=by rw[←hd]
  have j9:d'.size=l.length:=p1;subst hdl;refine⟨rfl,⟨rfl,rfl,rfl,?_⟩,fun k hk hkb=>?_,putCells id 0 (flatK lS 2 (eC l).toArray) cs,?_,by unfold putCells;rw[Array.size_mapIdx],fun i v hv=>?_⟩
  ·show w.heap.size<=((w.heap.modify b _)++os).size;rw[Array.size_append,Wz];omega
  ·show((w.heap.modify b _)++os)[k]? =_;rw[Wi (by rw[Wz];exact hk),V5,if_neg<|Ne.symm hkb]
  ·show((w.heap.modify b _)++os)[b]? =_;rw[Wi (by rw[Wz];exact Nn),V5,if_pos rfl,hb];rfl
  ·have hi:=(TZ.1 hv).1;have tu:i<l.length*2:=by rw[GZ,T3,DZ,BH] at hi;exact hi
   have hi3:i<(eC l).length*2:=by rw[BH];exact tu
   unfold putCells;rw[Array.getElem?_mapIdx];have rG:cs[i]? =some ((l.map lS).flatten[i]'(by omega)):=hc i _ (TE<|by omega);rw[rG];show some (if 0<=i/\i<0+(flatK lS 2 (eC l).toArray).size then id (flatK lS 2 (eC l).toArray)[i - 0]! else _)=some v;rw[if_pos ⟨TN _,by rw[size_flatK,T6];exact hi3⟩,Uk];show some ((flatK lS 2 (eC l).toArray)[i]!)=some v;rw[ano _ i hi3,hv];rfl
end RR
end
section
open Go.ChangeShapes
namespace aly
open cj cC cY LQ gi iU oJ MB MC Ay sS ve My Im MA RQ ZA
variable {v:Value} {fuel b0:Nat} {t:TypeId} {p:List MemPlace}
section
variable {H:Type} {enc:TypeId×Value->H} {w:World} {base:Nat} {sp:Nat->Bool} {held:Bool}
theorem wf_u8{n:Int}(h:(Lit.int .u8 n).wf=true):0<=n/\n<=255:=by obtain⟨h1,h2⟩:=and_true.1 (show(decide (IntKind.u8.min<=n)&&decide (n<=IntKind.u8.max))=true from h);exact⟨of_decide_eq_true h1,of_decide_eq_true h2⟩
theorem sz2:Tryd.prog.cellsOf 2=1:=by kernel_rfl
theorem Gh:Tryd.prog.cellsOf 3=1:=by kernel_rfl
theorem sz5:Tryd.prog.cellsOf 5=1:=by kernel_rfl
theorem RT:Tryd.prog.cellsOf 43=1:=by kernel_rfl
theorem alz:Tryd.prog.cellsOf 49=1:=by kernel_rfl
theorem alA:Tryd.prog.cellsOf 22=1:=by kernel_rfl
theorem alB:Tryd.prog.cellsOf 23=1:=by kernel_rfl
theorem alC:Tryd.prog.cellsOf 37=1:=by kernel_rfl
theorem alD:Tryd.prog.cellsOf 32=2:=by kernel_rfl
theorem RU:Tryd.prog.cellsOf 51=3:=by kernel_rfl
theorem ZD:Tryd.prog.cellsOf 53=10:=by kernel_rfl
theorem yE{x y:Value}(h:[x]=[y]):x=y:=by injection h
theorem o7{K n i:Nat}{row:List Value}{x:DataW H×List MemPlace}(hc:Tryd.prog.cellsOf t=K)(h:DataW.trod enc pg w base sp held n t ((row.drop i).take<|Tryd.prog.cellsOf t)=some x):DataW.trod enc pg w base sp held n t ((row.drop i).take K)=some x:=by rw[hc] at h;exact h
theorem agN(hu:Tryd.prog.underlying t=some (.int .i64))(row:List Value)(_:row.length=1)(h2:∃n y,n<fuel/\DataW.trod enc pg w base sp held n t row=some y):∃a ms,AB w encI (fun _=>True) row a ms:=by
  obtain⟨_,y,_,h⟩:=h2
  obtain⟨a,rfl,_,_⟩:=DataW.trod_int hu h
  refine⟨a,[],trivial,Good.nil,fun j x hx=>?_⟩
  rcases j with _|j
  all_goals first
    |cases(show none=some x from hx)
    | injection (show some _=some x from hx) with hx
      subst hx
      first
        |exact⟨_,rfl,fun σ _=>by simp only[VR]⟩
theorem YM : ∀ (fuel:Nat) (c0 c1 c2:Value) (y:DataW H×List MemPlace),DataW.trod enc pg w base sp held fuel 51 [c0,c1,c2]=some y->∃(op n:Int) (args:List Ex) (ms:mI),c0= .int .u8 op/\c1= .int .i64 n/\Good w ms/\Is ms (ar aH args) c2:=by
  intro fuel
  induction fuel using Nat.strongRecOn with
  | ind fuel ih =>
    intro c0 c1 c2 y h
    obtain⟨xs,n,Ns,_,hlen,DO,hf⟩:=DataW.trod_struct Tryd.underlying51 h
    have alE:xs.length=3:=DO
    match xs,alE,hf with
    | [x0,x1,x2],_,hf=>
      obtain⟨a0,e0,_,_⟩:=DataW.trod_int Tryd.underlying5<|o7 sz5<|hf 0 _ rfl
      obtain⟨a1,e1,_,_⟩:=DataW.trod_int Tryd.underlying2<|o7 sz2<|hf 1 _ rfl
      obtain rfl:=yE e0
      obtain rfl:=yE e1
      obtain ⟨l,ms,_,k2,k3⟩:=BR (Q:=fun _:Ex=>True) lp (Uu _) Tryd.underlying49 RU (fun row fx h2=>by
        obtain⟨n2,y2,vp,h2⟩:=h2
        match row,fx,h2 with
        | [d0,d1,d2],_,h2=>
          obtain⟨o',n',l',kK,rfl,rfl,g1,g2⟩:=ih n2 ae d0 d1 d2 y2 h2
          refine⟨.mk o' n' l',kK,trivial,g1,fun j x hx=>?_⟩
          rw[OY] at hx
          rcases j with _|_|_|j
          all_goals first
            |cases(show none=some x from hx)
            | injection (show some _=some x from hx) with hx
              subst hx
              first
                |exact⟨_,rfl,fun σ _=>by simp only[VR]⟩
                |exact⟨_,rfl,g2⟩) (show DataW.trod enc pg w base sp held n 49 [c2]=some x2 from(o7 alz<|hf 2 _ rfl))
      exact⟨a0,a1,l,ms,rfl,rfl,k2,k3⟩
def KQ(s:St):Prop:=(0<=fX s/\fX s<256)/\∀k,sD k (bN s)/\sD k (bK s)
theorem Po{l:List St}(h:∀s∈l,KQ s):∀k,sD k l
 |0=>trivial
 |k+1=>fun s hs=>⟨(h s hs).1,(h s hs).2 k⟩
theorem aij :∀(fuel:Nat) (row:List Value) (y:DataW H×List MemPlace),row.length=10->DataW.trod enc pg w base sp held fuel 53 row=some y->∃a ms,AB w aM KQ row a ms:=by
  intro fuel
  induction fuel using Nat.strongRecOn with
  | ind fuel ih=>
    intro row y fx h
    obtain⟨xs,n,Ns,_,hlen,DO,hf⟩:=DataW.trod_struct Tryd.underlying53 h
    have alF:xs.length=6:=DO
    match row,fx,xs,alF,hf with
    | [c0,c1,c2,c3,c4,c5,c6,c7,c8,c9],_,[x0,x1,x2,x3,x4,x5],_,hf=>
      obtain⟨a0,e0,_,w0⟩:=DataW.trod_int Tryd.underlying5<|o7 sz5<|hf 0 _ rfl
      obtain⟨a1,e1,_,_⟩:=DataW.trod_int Tryd.underlying3<|o7 Gh<|hf 1 _ rfl
      obtain rfl:=yE e0
      obtain rfl:=yE e1
      obtain⟨o2,n2,l2,m2,rfl,rfl,g2,i2⟩:=YM n c2 c3 c4 x2<|o7 RU<|hf 2 _ rfl
      obtain⟨o3,n3,l3,m3,rfl,rfl,g3,i3⟩:=YM n c5 c6 c7 x3<|o7 RU<|hf 3 _ rfl
      have hr:∀{v:Value} {z:DataW H×List MemPlace},DataW.trod enc pg w base sp held n 43 [v]=some z->∃(l:List St) (ms:mI),(∀a∈l,KQ a)/\Good w ms/\Is ms (ar aM l) v:=fun hz=>
        BR (Q:=KQ) lq (Uu _) Tryd.underlying43 ZD (fun row fx h2=>by
          obtain⟨k2,y2,Nc,h2⟩:=h2
          exact ih k2 ae row y2 fx h2) hz
      obtain⟨l4,m4,q4,g4,i4⟩:=hr (v:=c8)<|o7 RT<|hf 4 _ rfl
      obtain⟨l5,m5,q5,g5,i5⟩:=hr (v:=c9)<|o7 RT<|hf 5 _ rfl
      refine⟨.mk a0 a1 (.mk o2 n2 l2) (.mk o3 n3 l3) l4 l5,m2++(m3++(m4++m5)),⟨by have:=wf_u8 w0;show 0<=a0/\a0<256;omega,fun k=>⟨Po q4 k,Po q5 k⟩⟩,g2.app<|g3.app<|g4.app g5,fun j x hx=>?_⟩
      rw[amZ,OY,OY] at hx
      rcases j with _|_|_|_|_|_|_|_|_|_|j
      all_goals first
        |cases(show none=some x from hx)
        | injection (show some _=some x from hx) with hx
          subst hx
          first
            |exact⟨_,rfl,fun σ _=>by simp only[VR]⟩
            |exact⟨_,rfl,i2.sub fun p hp=>T7 _ hp⟩
            |exact⟨_,rfl,i3.sub fun p hp=>TU _<|T7 _ hp⟩
            |exact⟨_,rfl,i4.sub fun p hp=>TU _<|TU _<|T7 _ hp⟩
            |exact⟨_,rfl,i5.sub fun p hp=>TU _<|TU _<|TU _ hp⟩
theorem afb{e:TypeId}(hu:Tryd.prog.underlying t=some (.slice e))(fH:Value.okWide pg w .any b0 t v):∃a len cap,v= .slice a len cap:=by unfold Value.okWide at fH;rw[hu] at fH;simp only at fH;unfold Cell.okWide at fH;rw[hu] at fH;cases v<;>first|exact⟨_,_,_,rfl⟩|(exfalso;unfold Cell.ok at fH;rw[hu] at fH;simp at fH)
def Ts(l:List St):Prop:=∀s∈l,KQ s
theorem Xx{α:Type}{qx:α->List AV}{Q:α->Prop}{a:α}{x:AV}{ms:mI}(he:qx a=[x])(q:Q a)(g:Good w ms)(i:Is ms x v):AB w qx Q [v] a ms:=⟨q,g,fun j y hy=>by
 rw[he] at hy;rcases j with _|j
 ·injection (show some _=some y from hy) with hy
  subst hy;exact⟨_,rfl,i⟩
 ·cases(show none=some y from hy)⟩
theorem aik(row:List Value)(hl:row.length=1)(h2:∃n y,n<fuel/\DataW.trod enc pg w base sp held n 43 row=some y):∃a ms,AB w iI Ts row a ms:=by
 obtain⟨n,y,_,h2⟩:=h2
 match row,hl,h2 with
 |[v],_,h2=>obtain⟨l,ms,k1,k2,k3⟩:=BR (Q:=KQ) lq (Uu _) Tryd.underlying43 ZD (fun row fx h2=>by obtain⟨n,y,_,h2⟩:=h2;exact aij n row y fx h2) h2;exact⟨l,ms,Xx rfl k1 k2 k3⟩
def ThQ(t:List<|List St):Prop:=∀u∈t,Ts u
theorem ail(row:List Value)(hl:row.length=1)(h2:∃n y,n<fuel/\DataW.trod enc pg w base sp held n 37 row=some y):∃a ms,AB w wT ThQ row a ms:=by
 obtain⟨n,y,_,h2⟩:=h2
 match row,hl,h2 with
 |[v],_,h2=>obtain⟨l,ms,k1,k2,k3⟩:=BR (Q:=Ts) S4 (Uu _) Tryd.underlying37 RT aik h2;exact⟨l,ms,Xx rfl k1 k2 k3⟩
theorem agO(row:List Value)(hl:row.length=2)(h2:∃n y,n<fuel/\DataW.trod enc pg w base sp held n 32 row=some y):∃a ms,AB w aO (fun _=>True) row a ms:=by
  obtain⟨m,y,_,h2⟩:=h2
  obtain⟨xs,n,Ns,_,hlen,DO,hf⟩:=DataW.trod_struct Tryd.underlying32 h2
  have alG:xs.length=2:=DO
  match row,hl,xs,alG,hf with
  | [c0,c1],_,[x0,x1],_,hf=>
    obtain⟨a0,e0,_,_⟩:=DataW.trod_int Tryd.underlying3<|o7 Gh<|hf 0 _ rfl
    obtain⟨a1,e1,_,_⟩:=DataW.trod_int Tryd.underlying3<|o7 Gh<|hf 1 _ rfl
    obtain rfl:=yE e0
    obtain rfl:=yE e1
    refine⟨(a0,a1),[],trivial,Good.nil,fun j x hx=>?_⟩
    rcases j with _|_|j
    all_goals first
      |cases(show none=some x from hx)
      | injection (show some _=some x from hx) with hx
        subst hx
        first
          |exact⟨_,rfl,fun σ _=>by simp only[VR]⟩
theorem aog{d:DataW H}(fH:Value.okWide pg w .any b0 26 v)(h:DataW.Trod enc pg w base sp held 26 v d p):∃(l:List<|Int×Int) (ms:mI),Good w ms/\Is ms (ar aO l) v:=by obtain⟨fuel,h⟩:=h;obtain⟨a,len,cap,rfl⟩:=afb Tryd.underlying26 fH;obtain⟨l,ms,_,k2,k3⟩:=BR (Q:=fun _:Int×Int=>True) sS.vd (Uu _) Tryd.underlying26 alD agO (show DataW.trod enc pg w base sp held fuel 26 [.slice a len cap]=some (d,p) from h);exact⟨l,ms,k2,k3⟩
theorem Lj{d:DataW H}(fH:Value.okWide pg w .any b0 25 v)(h:DataW.Trod enc pg w base sp held 25 v d p):∃(S:cr) (ms:mI),LR S/\Good w ms/\Is ms (.agg<|dH S) v:=by
 obtain⟨fuel,h⟩:=h;unfold Value.okWide at fH;rw[Tryd.underlying25] at fH;obtain⟨cs,rfl,j9,_⟩:=fH;have hl:cs.toList.length=5:=by rw[Uq,j9];kernel_rfl
 have h:DataW.trod enc pg w base sp held fuel 25 cs.toList=some (d,p):=h;have hv:∀x σ,ax σ x cs.toList->VR σ (.agg x) (.agg cs):=fun x σ q=>by simp only[VR];exact⟨cs,rfl,q⟩
 obtain⟨xs,n,Ns,_,hlen,DO,hf⟩:=DataW.trod_struct Tryd.underlying25 h;have alH:xs.length=5:=DO;revert hl hv hf;generalize cs.toList=row;intro hl hv hf
 match row,hl,xs,alH,hf,hv with
 |[c0,c1,c2,c3,c4],_,[x0,x1,x2,x3,x4],_,hf,hv=>obtain⟨a0,e0,_,_⟩:=DataW.trod_int Tryd.underlying3<|o7 Gh<|hf 0 _ rfl;obtain⟨a1,e1,_,_⟩:=DataW.trod_int Tryd.underlying3<|o7 Gh<|hf 1 _ rfl;obtain⟨a2,e2,_,_⟩:=DataW.trod_int Tryd.underlying3<|o7 Gh<|hf 2 _ rfl;obtain rfl:=yE e0;obtain rfl:=yE e1;obtain rfl:=yE e2;obtain⟨l3,m3,_,g3,i3⟩:=BR (Q:=fun _:Int=>True) eI (Uu _) Tryd.underlying22 sz2 (agN Tryd.underlying2) (show DataW.trod enc pg w base sp held n 22 [c3]=some x3 from(o7 alA<|hf 3 _ rfl));obtain⟨l4,m4,q4,g4,i4⟩:=BR (Q:=ThQ) S5 (Uu _) Tryd.underlying23 alC ail (show DataW.trod enc pg w base sp held n 23 [c4]=some x4 from(o7 alB<|hf 4 _ rfl));refine⟨⟨a0,a1,a2,l3,l4⟩,m3++m4,fun t ht u hu=>Po (q4 t ht u hu) 60,g3.app g4,fun σ hh=>hv _ _ ?_⟩;have j3:=i3 _<|hh.sub fun p hp=>T7 _ hp;have j4:=i4 _<|hh.sub fun p hp=>TU _ hp;exact⟨_,_,rfl,by simp only[VR],_,_,rfl,by simp only[VR],_,_,rfl,by simp only[VR],_,_,rfl,j3,_,_,rfl,j4,rfl⟩
end
abbrev LO:bV:=[Az,Ai,AY,tS,AA]
theorem aim(hP:bY pg):aY LO:=ae7 hP<|adT hP<|agK hP RR.isSort<|Ye hP RR.isSort<|ae8 hP dj
theorem aj8:Tryd.f3.body=some (aL pg 3 []):=GL Tryd.func3 aV
theorem aoi(hP:bY pg)(W:World){ρ:Ren}(Z:Rn.Start 270 dk ρ W){v1 v2:Value}{S:cr}{l:List<|Int×Int}{m1 m2:mI}(q:LR S)(g1:Good W m1)(i1:Is m1 (.agg<|dH S) v1)(g2:Good W m2)(i2:Is m2 (ar aO l) v2):
 Calls pg 3 #[v1,v2] W fun e w'=>e= .returned (.bool true)/\Below W.heap.size W w':=by
 let B:aE:=⟨fun k=>W.heap.size<=k,FU,fun _=>True,ox XT 270,W.heap.size,fun h a b=>h.mono a b⟩;have g:Good W<|m1++m2:=g1.app g2;have r:Rel B (qk (m1++m2) ρ) dk W:=Z.aj7 B (TO (by decide) qR) g;have hh:Has (qk (m1++m2) ρ)<|m1++m2:=amC;have v1':=VR.mono (P1 _) _ _<|i1 _<|hh.sub fun p hp=>T7 _ hp;have v2':=VR.mono (P1 _) _ _<|i2 _<|hh.sub fun p hp=>TU _ hp;have mc:Mt LO B:=sK hP (aim hP) rfl rfl;have H:=ae9 (l:=l) mc q;have hg:gG<|qk (m1++m2) ρ:=fun g hg=>by obtain⟨N,e⟩:=Z.g g hg;exact⟨N,J4 _ _ e⟩
 have hf:∀k,270<=k->k<top->qk (m1++m2) ρ k=none:=fun k h1 h2=>by rw[OI h2];exact Z.free k h1
 have hv:ax (qk (m1++m2) ρ) [.agg<|dH S,ar aO l] (#[v1,v2]:Array Value).toList:=⟨_,_,rfl,v1',_,_,rfl,v2',rfl⟩;have r':Rel B (qk (m1++m2) ρ) (aj aq 270).h W:=by rw[gX];exact r
 have bQ:=av.calls (args:=[.agg<|dH S,ar aO l]) hP Tryd.func3 aj8 (aI.1 aV) H (afn aV) r' hg hf hv;refine bQ.mono fun e w'=>?_;rintro ⟨v,x,s3,rfl,rfl,_,_,σ,_,q2,_,q4⟩;simp only[VR] at q2;exact⟨by rw[q2],q4.os,q4.tape,q4.output,q4.size,fun k hk=>q4.block k hk (by show ¬(W.heap.size<=k);omega)⟩
end aly
end
