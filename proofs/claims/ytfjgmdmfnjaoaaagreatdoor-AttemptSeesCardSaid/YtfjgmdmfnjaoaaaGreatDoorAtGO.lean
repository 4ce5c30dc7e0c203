import Derived.Test.YtfjgmdmfnjaoaaaGreatDoorAtGN
import Derived.Test.YtfjgmdmfnjaoaaaGreatDoorRnGH
set_option maxRecDepth 100000
set_option maxHeartbeats 8000000
set_option linter.unusedSimpArgs false
set_option linter.unusedVariables false
section
open Go Go.Rn Go.RowKit Go.Proofs
open Go.ChangeShapes
namespace aik
open cv cG fc dt Py qx nQ nE eH fy gZ zO qJ gO BZ yb zD Et GA PA WM
variable {v:Value} {b0 fuel:Nat} {p:List MemPlace} {t:TypeId}
section
variable {H:Type} {enc:TypeId×Value->H} {w:World} {base:Nat} {sp:Nat->Bool} {held:Bool}
theorem wf_u8{n:Int}(h:(Lit.int .u8 n).wf=true):0<=n/\n<=255:=by obtain⟨h1,h2⟩:=and_true.1 (show(decide (IntKind.u8.min<=n)&&decide (n<=IntKind.u8.max))=true from h);exact⟨of_decide_eq_true h1,of_decide_eq_true h2⟩
theorem Rl:Tryz.prog.cellsOf 2=1:=by kernel_rfl
theorem YM:Tryz.prog.cellsOf 3=1:=by kernel_rfl
theorem Rm:Tryz.prog.cellsOf 5=1:=by kernel_rfl
theorem ajL:Tryz.prog.cellsOf 22=1:=by kernel_rfl
theorem ajM:Tryz.prog.cellsOf 36=4:=by kernel_rfl
theorem ajN:Tryz.prog.cellsOf 83=1:=by kernel_rfl
theorem XA:Tryz.prog.cellsOf 85=3:=by kernel_rfl
theorem XB:Tryz.prog.cellsOf 87=10:=by kernel_rfl
theorem zj{x y:Value}(h:[x]=[y]):x=y:=by injection h
theorem ae3(hu:Tryz.prog.underlying t=some (.int .i64))(row:List Value)(_:row.length=1)(h2:∃n y,n<fuel/\DataW.trod enc pg w base sp held n t row=some y):∃a ms,GB w bj (fun _=>True) row a ms:=by
 obtain⟨_,y,_,h⟩:=h2;obtain⟨a,rfl,_,_⟩:=DataW.trod_int hu h;refine⟨a,[],trivial,Good.nil,fun j x hx=>?_⟩;rcases j with _|j
 ·injection (show some _=some x from hx) with hx
  subst hx;exact⟨_,rfl,fun σ _=>by simp only[VR]⟩
 ·cases(show none=some x from hx)
theorem ae4(row:List Value)(eL:row.length=4)(h2:∃n y,n<fuel/\DataW.trod enc pg w base sp held n 36 row=some y):∃a ms,GB w zU (fun _=>True) row a ms:=by
  obtain⟨_,y,_,h⟩:=h2
  obtain⟨xs,n,_,_,hlen,HO,hf⟩:=DataW.trod_struct Tryz.underlying36 h
  have ajO:xs.length=4:=HO
  match row,eL,xs,ajO,hf with
  | [c0, c1,c2,c3],_,[x0,x1,x2,x3],_,hf=>
    have f0:DataW.trod enc pg w base sp held n 5 (([c0,c1,c2,c3].drop 0).take<|Tryz.prog.cellsOf 5)=some x0:=hf 0 _ rfl
    have f1:DataW.trod enc pg w base sp held n 3 (([c0,c1,c2,c3].drop 1).take<|Tryz.prog.cellsOf 3)=some x1:=hf 1 _ rfl
    have f2:DataW.trod enc pg w base sp held n 3 (([c0,c1,c2,c3].drop 2).take<|Tryz.prog.cellsOf 3)=some x2:=hf 2 _ rfl
    have f3:DataW.trod enc pg w base sp held n 2 (([c0,c1,c2,c3].drop 3).take<|Tryz.prog.cellsOf 2)=some x3:=hf 3 _ rfl
    rw[Rm] at f0
    rw[YM] at f1 f2
    rw[Rl] at f3
    obtain⟨a0,e0,_,_⟩:=DataW.trod_int Tryz.underlying5 f0
    obtain⟨a1,e1,_,_⟩:=DataW.trod_int Tryz.underlying3 f1
    obtain⟨a2,e2,_,_⟩:=DataW.trod_int Tryz.underlying3 f2
    obtain⟨a3,e3,_,_⟩:=DataW.trod_int Tryz.underlying2 f3
    obtain rfl:=zj e0
    obtain rfl:=zj e1
    obtain rfl:=zj e2
    obtain rfl:=zj e3
    refine⟨⟨a0,a1,a2,a3⟩,[],trivial,Good.nil,fun j x hx=>?_⟩
    rcases j with _|_|_|_|j
    all_goals first
      | (injection (show some _=some x from hx) with hx
         subst hx
         exact⟨_,rfl,fun σ _=>by simp only[VR]⟩)
      |cases(show none=some x from hx)
theorem WN:∀(fuel:Nat) (c0 c1 c2:Value) (y:DataW H×List MemPlace),DataW.trod enc pg w base sp held fuel 85 [c0,c1,c2]=some y->∃(op n:Int) (args:List Ex) (ms:l9),c0= .int .u8 op/\c1= .int .i64 n/\Good w ms/\Is ms (aS aD args) c2:=by
 intro fuel;induction fuel using Nat.strongRecOn with
 |ind fuel ih=>
  intro c0 c1 c2 y h;obtain⟨xs,n,YL,_,hlen,HO,hf⟩:=DataW.trod_struct Tryz.underlying85 h;have ajP:xs.length=3:=HO
  match xs,ajP,hf with
  |[x0,x1,x2],_,hf=>
   have f0:DataW.trod enc pg w base sp held n 5 (([c0,c1,c2].drop 0).take<|Tryz.prog.cellsOf 5)=some x0:=hf 0 _ rfl;have f1:DataW.trod enc pg w base sp held n 2 (([c0,c1,c2].drop 1).take<|Tryz.prog.cellsOf 2)=some x1:=hf 1 _ rfl;have f2:DataW.trod enc pg w base sp held n 83 (([c0,c1,c2].drop 2).take<|Tryz.prog.cellsOf 83)=some x2:=hf 2 _ rfl;rw[Rm] at f0;rw[Rl] at f1;rw[ajN] at f2;obtain⟨a0,e0,_,_⟩:=DataW.trod_int Tryz.underlying5 f0;obtain⟨a1,e1,_,_⟩:=DataW.trod_int Tryz.underlying2 f1;obtain rfl:=zj e0;obtain rfl:=zj e1;obtain⟨l,ms,_,k2,k3⟩:=FK (Q:=fun _:Ex=>True) kF (Nat.succ_pos _) Tryz.underlying83 XA (fun row eL h2=>by
    obtain⟨n2,y2,o6,h2⟩:=h2
    match row,eL,h2 with
    |[d0,d1,d2],_,h2=>
     obtain⟨o',n',l',jX,rfl,rfl,g1,g2⟩:=ih n2 ae d0 d1 d2 y2 h2;refine⟨.mk o' n' l',jX,trivial,g1,fun j x hx=>?_⟩;rw[Nt] at hx;rcases j with _|_|_|j
     ·injection (show some _=some x from hx) with hx
      subst hx;exact⟨_,rfl,fun σ _=>by simp only[VR]⟩
     ·injection (show some _=some x from hx) with hx
      subst hx;exact⟨_,rfl,fun σ _=>by simp only[VR]⟩
     ·injection (show some _=some x from hx) with hx
      subst hx;exact⟨_,rfl,g2⟩
     ·cases(show none=some x from hx)) (show DataW.trod enc pg w base sp held n 83 [c2]=some x2 from f2)
   exact⟨a0,a1,l,ms,rfl,rfl,k2,k3⟩
def KQ(s:St):Prop:=(0<=iQ s/\iQ s<256)/\∀k,rM k (cn s)/\rM k (cj s)
theorem NM{l:List St}(h:∀s∈l,KQ s):∀k,rM k l
 |0=>trivial
 |k+1=>fun s hs=>⟨(h s hs).1,(h s hs).2 k⟩
theorem agw:∀(fuel:Nat) (row:List Value) (y:DataW H×List MemPlace),row.length=10->DataW.trod enc pg w base sp held fuel 87 row=some y->∃a ms,GB w aP KQ row a ms:=by
 intro fuel;induction fuel using Nat.strongRecOn with
 |ind fuel ih=>
  intro row y eL h;obtain⟨xs,n,YL,_,hlen,HO,hf⟩:=DataW.trod_struct Tryz.underlying87 h;have ajQ:xs.length=6:=HO
  match row,eL,xs,ajQ,hf with
  |[c0,c1,c2,c3,c4,c5,c6,c7,c8,c9],_,[x0,x1,x2,x3,x4,x5],_,hf=>
   have f0:DataW.trod enc pg w base sp held n 5 (([c0,c1,c2,c3,c4,c5,c6,c7,c8,c9].drop 0).take<|Tryz.prog.cellsOf 5)=some x0:=hf 0 _ rfl;have f1:DataW.trod enc pg w base sp held n 3 (([c0,c1,c2,c3,c4,c5,c6,c7,c8,c9].drop 1).take<|Tryz.prog.cellsOf 3)=some x1:=hf 1 _ rfl;have f2:DataW.trod enc pg w base sp held n 85 (([c0,c1,c2,c3,c4,c5,c6,c7,c8,c9].drop 2).take<|Tryz.prog.cellsOf 85)=some x2:=hf 2 _ rfl;have f3:DataW.trod enc pg w base sp held n 85 (([c0,c1,c2,c3,c4,c5,c6,c7,c8,c9].drop 5).take<|Tryz.prog.cellsOf 85)=some x3:=hf 3 _ rfl;have f4:DataW.trod enc pg w base sp held n 22 (([c0,c1,c2,c3,c4,c5,c6,c7,c8,c9].drop 8).take<|Tryz.prog.cellsOf 22)=some x4:=hf 4 _ rfl;have f5:DataW.trod enc pg w base sp held n 22 (([c0,c1,c2,c3,c4,c5,c6,c7,c8,c9].drop 9).take<|Tryz.prog.cellsOf 22)=some x5:=hf 5 _ rfl;rw[Rm] at f0;rw[YM] at f1;rw[XA] at f2 f3;rw[ajL] at f4 f5;obtain⟨a0,e0,_,w0⟩:=DataW.trod_int Tryz.underlying5 f0;obtain⟨a1,e1,_,_⟩:=DataW.trod_int Tryz.underlying3 f1;obtain rfl:=zj e0;obtain rfl:=zj e1;obtain⟨o2,n2,l2,m2,rfl,rfl,g2,i2⟩:=WN n c2 c3 c4 x2 f2;obtain⟨o3,n3,l3,m3,rfl,rfl,g3,i3⟩:=WN n c5 c6 c7 x3 f3;have hr:∀{v:Value} {z:DataW H×List MemPlace},DataW.trod enc pg w base sp held n 22 [v]=some z->∃(l:List St) (ms:l9),(∀a∈l,KQ a)/\Good w ms/\Is ms (aS aP l) v:=fun hz=>FK (Q:=KQ) mC (Nat.succ_pos _) Tryz.underlying22 XB (fun row eL h2=>by obtain⟨k2,y2,Lx,h2⟩:=h2;exact ih k2 ae row y2 eL h2) hz;obtain⟨l4,m4,q4,g4,i4⟩:=hr (v:=c8) f4;obtain⟨l5,m5,q5,g5,i5⟩:=hr (v:=c9) f5;refine⟨.mk a0 a1 (.mk o2 n2 l2) (.mk o3 n3 l3) l4 l5,m2++(m3++(m4++m5)),⟨by have:=wf_u8 w0;show 0<=a0/\a0<256;omega,fun k=>⟨NM q4 k,NM q5 k⟩⟩,g2.app<|g3.app<|g4.app g5,fun j x hx=>?_⟩;rw[wU,Nt,Nt] at hx;rcases j with _|_|_|_|_|_|_|_|_|_|j
   ·injection (show some _=some x from hx) with hx;subst hx;exact⟨_,rfl,fun σ _=>by simp only[VR]⟩
   ·injection (show some _=some x from hx) with hx;subst hx;exact⟨_,rfl,fun σ _=>by simp only[VR]⟩
   ·injection (show some _=some x from hx) with hx;subst hx;exact⟨_,rfl,fun σ _=>by simp only[VR]⟩
   ·injection (show some _=some x from hx) with hx;subst hx;exact⟨_,rfl,fun σ _=>by simp only[VR]⟩
   ·injection (show some _=some x from hx) with hx;subst hx;exact⟨_,rfl,i2.sub fun p hp=>List.mem_append_left _ hp⟩
   ·injection (show some _=some x from hx) with hx;subst hx;exact⟨_,rfl,fun σ _=>by simp only[VR]⟩
   ·injection (show some _=some x from hx) with hx;subst hx;exact⟨_,rfl,fun σ _=>by simp only[VR]⟩
   ·injection (show some _=some x from hx) with hx;subst hx;exact⟨_,rfl,i3.sub fun p hp=>List.mem_append_right _<|List.mem_append_left _ hp⟩
   ·injection (show some _=some x from hx) with hx;subst hx;exact⟨_,rfl,i4.sub fun p hp=>List.mem_append_right _<|List.mem_append_right _<|List.mem_append_left _ hp⟩
   ·injection (show some _=some x from hx) with hx;subst hx;exact⟨_,rfl,i5.sub fun p hp=>List.mem_append_right _<|List.mem_append_right _<|List.mem_append_right _ hp⟩
   ·cases(show none=some x from hx)
theorem NN{e:TypeId}(hu:Tryz.prog.underlying t=some (.slice e))(dq:Value.okWide pg w .any b0 t v):∃a len cap,v= .slice a len cap:=by unfold Value.okWide at dq;rw[hu] at dq;simp only at dq;unfold Cell.okWide at dq;rw[hu] at dq;cases v<;>first|exact⟨_,_,_,rfl⟩|(exfalso;unfold Cell.ok at dq;rw[hu] at dq;simp at dq)
theorem amQ{d:DataW H}(dq:Value.okWide pg w .any b0 22 v)(h:DataW.Trod enc pg w base sp held 22 v d p):∃(l:List St) (ms:l9),(∀a∈l,KQ a)/\Good w ms/\Is ms (aS aP l) v:=by obtain⟨fuel,h⟩:=h;obtain⟨a,len,cap,rfl⟩:=NN Tryz.underlying22 dq;exact FK (Q:=KQ) mC (Nat.succ_pos _) Tryz.underlying22 XB (fun row eL h2=>by obtain⟨n,y,_,h2⟩:=h2;exact agw n row y eL h2) (show DataW.trod enc pg w base sp held fuel 22 [.slice a len cap]=some (d,p) from h)
theorem amA{d:DataW H}(dq:Value.okWide pg w .any b0 23 v)(h:DataW.Trod enc pg w base sp held 23 v d p):∃(l:List Int) (ms:l9),Good w ms/\Is ms (aS bj l) v:=by obtain⟨fuel,h⟩:=h;obtain⟨a,len,cap,rfl⟩:=NN Tryz.underlying23 dq;obtain⟨l,ms,_,k2,k3⟩:=FK (Q:=fun _:Int=>True) eI (Nat.succ_pos _) Tryz.underlying23 Rl (ae3 Tryz.underlying2) (show DataW.trod enc pg w base sp held fuel 23 [.slice a len cap]=some (d,p) from h);exact⟨l,ms,k2,k3⟩
theorem amB{d:DataW H}(dq:Value.okWide pg w .any b0 24 v)(h:DataW.Trod enc pg w base sp held 24 v d p):∃(l:List uF) (ms:l9),Good w ms/\Is ms (aS zU l) v:=by obtain⟨fuel,h⟩:=h;obtain⟨a,len,cap,rfl⟩:=NN Tryz.underlying24 dq;obtain⟨l,ms,_,k2,k3⟩:=FK (Q:=fun _:uF=>True) eT (Nat.succ_pos _) Tryz.underlying24 ajM ae4 (show DataW.trod enc pg w base sp held fuel 24 [.slice a len cap]=some (d,p) from h);exact⟨l,ms,k2,k3⟩
theorem amE{d:DataW H}(dq:Value.okWide pg w .any b0 3 v)(h:DataW.Trod enc pg w base sp held 3 v d p):∃n,v= .int .i64 n:=by
 obtain⟨fuel,h⟩:=h;have hc:∃n,v= .int .i64 n:=by unfold Value.okWide at dq;rw[Tryz.underlying3] at dq;simp only at dq;unfold Cell.okWide at dq;rw[Tryz.underlying3] at dq;cases v<;>simp_all [Cell.ok,Tryz.underlying3]
 exact hc
end
theorem ail:Tryz.f3.body=some (a9 pg 3 []):=CV Tryz.func3 aX
theorem amF(hP:bE pg)(W:World){ρ:aw}(S:Rn.Start 270 dX ρ W){st:Int}{v1 v2 v4 v5:Value}{tx:List St}{init aO:List Int}{l:List uF}{m1 m2 m4 m5:l9}(q:∀s∈tx,KQ s)(g1:Good W m1)(i1:Is m1 (aS aP tx) v1)(g2:Good W m2)(i2:Is m2 (aS bj init) v2)(g4:Good W m4)(i4:Is m4 (aS bj aO) v4)(g5:Good W m5)(i5:Is m5 (aS zU l) v5):
 Calls pg 3 #[v1,v2,.int .i64 st,v4,v5] W fun e w'=>e= .returned (.bool true)/\Below W.heap.size W w':=by
 let B:aL:=⟨fun k=>W.heap.size<=k,FU,fun _=>True,nJ XT 270,W.heap.size,fun h a b=>h.mono a b⟩;have g:Good W<|m1++(m2++(m4++m5)):=g1.app<|g2.app<|g4.app g5;have r:Rel B (pB (m1++(m2++(m4++m5))) ρ) dX W:=S.aij B (Nat.le_trans (by decide) qk) g;have hh:Has (pB (m1++(m2++(m4++m5))) ρ)<|m1++(m2++(m4++m5)):=Ty;have v1':=VR.mono (FX _) _ _<|i1 _<|hh.sub fun p hp=>List.mem_append_left _ hp;have v2':=VR.mono (FX _) _ _<|i2 _<|hh.sub fun p hp=>List.mem_append_right _<|List.mem_append_left _ hp;have v4':=VR.mono (FX _) _ _<|i4 _<|hh.sub fun p hp=>List.mem_append_right _<|List.mem_append_right _<|List.mem_append_left _ hp;have v5':=VR.mono (FX _) _ _<|i5 _<|hh.sub fun p hp=>List.mem_append_right _<|List.mem_append_right _<|List.mem_append_right _ hp;have mc:Mt LL B:=rO hP (agt hP) rfl rfl;have H:=abO (init:=init) (aO:=aO) (st:=st) (l:=l) mc<|NM q 60;have hg:gb<|pB (m1++(m2++(m4++m5))) ρ:=fun g hg=>by obtain⟨N,e⟩:=S.g g hg;exact⟨N,IS _ _ e⟩
 have hf:∀k,270<=k->k<top->pB (m1++(m2++(m4++m5))) ρ k=none:=fun k h1 h2=>by rw[M8 h2];exact S.free k h1
 have hv:aA (pB (m1++(m2++(m4++m5))) ρ) [aS aP tx,aS bj init,.int .i64 st,aS bj aO,aS zU l] (#[v1,v2,.int .i64 st,v4,v5]:Array Value).toList:=⟨_,_,rfl,v1',_,_,rfl,v2',_,_,rfl,rfl,_,_,rfl,v4',_,_,rfl,v5',rfl⟩;have r':Rel B (pB (m1++(m2++(m4++m5))) ρ) (ak ar 270).h W:=by rw[gY];exact r
 have bI:=au.calls (args:=[aS aP tx,aS bj init,.int .i64 st,aS bj aO,aS zU l]) hP Tryz.func3 ail (aM.1 aX) H (adx aX) r' hg hf hv;refine bI.mono fun e w'=>?_;rintro ⟨v,x,s3,rfl,rfl,_,_,σ,_,q2,_,q4⟩;simp only[VR] at q2;exact⟨by rw[q2],q4.os,q4.tape,q4.output,q4.size,fun k hk=>q4.block k hk (by show ¬(W.heap.size<=k);omega)⟩
end aik
end
