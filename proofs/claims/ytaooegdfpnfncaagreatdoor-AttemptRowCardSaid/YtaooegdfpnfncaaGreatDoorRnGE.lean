import Derived.Test.YtaooegdfpnfncaaGreatDoorRnGD
import Derived.Test.YtaooegdfpnfncaaGreatDoorRnGB
import Derived.Test.YtaooegdfpnfncaaGreatDoorRnGC
import Derived.ChangeArms
import Derived.ChangeShapes
import Derived.DataReads
import Derived.OpenShut
set_option maxRecDepth 100000
set_option maxHeartbeats 8000000
set_option linter.unusedSimpArgs false
set_option linter.unusedVariables false
namespace Go.Rn
open Go.RowKit
variable {rest:List AV} {n:Nat}
noncomputable section
def lS(k:Nat)(val:AV->List AV->Option AV)(U:Nat)(ns:List Nat)(h0:Tr ae):aO->List AV->M AV:=fun _ args=>match args with
 | .ptr (some (n,0))::rest=>aF (rest.all AV.hi&&Nat.ble U n) <| (fe U h0 ns).bind fun _=>(bz n).bind fun o=>aC (yx k o) fun v=>aC (val v rest) fun y=>aF (y.hi&&Nat.blt n top) <| M.pure y
 |_=>fail
end
theorem SF.lS(k:Nat)(val:AV->List AV->Option AV)(U:Nat)(ns:List Nat)(h0:Tr ae)(SG:aO)(args:List AV):SF<|lS k val U ns h0 SG args:=by
 unfold Rn.lS;split
 ·exact SF.aF fun _=>SF.bind (SF.fe U h0 ns) fun _=>SF.bind (SF.bz _) fun _=>SF.aC fun _ _=>SF.aC fun _ _=>SF.aF fun _=>SF.pure _
 ·exact SF.fail
noncomputable def Fa(val:AV->List AV->Option AV)(v:AV)(rest:List AV):Option<|AV×AV:=(val v rest).map fun y=>(y,v)
theorem ac5{U k:Nat}{ns:List Nat}{h0:Tr ae}{val:AV->List AV->Option AV}{SG:aO}{x:AV}{s s1:AS}(h:lS k val U ns h0 SG (.ptr (some (n,0))::rest) s= .ok x s1):
 ∃F7,yL U ns h0 k (Fa val) SG (.ptr (some (n,0))::rest) s= .ok x F7/\F7.nx=s1.nx/\∀m,m<top->s1.h.get m=F7.h.get m:=by
 unfold lS at h;obtain⟨hh,h1⟩:=cY h;obtain⟨u,s2,h2,h3⟩:=M.aR h1;obtain⟨o,s3,h4,h5⟩:=M.aR h3;obtain⟨v,h6,h7⟩:=bw h5;obtain⟨y,h8,h9⟩:=bw h7;obtain⟨gH,uY⟩:=cY h9;obtain⟨hy,ht⟩:=and_true.1 gH;obtain⟨rfl,rfl⟩:=bI uY;have ho:=On h6;subst ho;obtain⟨b1,b2,b3,b4⟩:=fY h4;have hg:s1.h.get n=some (.tok k v):=by rw[b3];exact b2
 have hn:Nat.blt n s1.nx=true:=(blt_eq _ _).mpr (by rw[b4];exact b1);have hw:=Pk (p:=.tok k v) (o:=some<|.tok k v) hn hg rfl ht;refine⟨fB n (some<|.tok k v) s1,?_,?_,fun m hm=>?_⟩
 ·show(aF (rest.all AV.hi&&Nat.ble U n) <| (fe U h0 ns).bind fun _=>(bz n).bind fun o=>match o with
   | .tok k' v=>aF (Nat.beq k k') <| aC (Fa val v rest) fun p=>aF p.1.hi <| (lE n<|some<|.tok k p.2).bind fun _=>M.pure p.1
   |_=>fail) s=_
  rw[hh,dA,M.bO h2,M.bO h4];show(aF (Nat.beq k k) <| aC (Fa val v rest) fun p=>aF p.1.hi <| (lE n<|some<|.tok k p.2).bind fun _=>M.pure p.1) s1=_;rw[eB.2 rfl,dA];unfold Fa;rw[h8];show(aF x.hi <| (lE n<|some<|.tok k v).bind fun _=>M.pure x) s1=_;rw[hy,dA,M.bO hw];rfl
 ·unfold fB;cases Nat.blt n s1.mark<;>rfl
 ·have e:(fB n (some<|.tok k v) s1).h=s1.h.put n (some<|.tok k v):=by unfold fB;cases Nat.blt n s1.mark<;>rfl
  rw[e,Tr.lX _ _ _ _<|(blt_eq _ _).mp ht];by_cases q:m=n
  ·rw[if_pos q,q,hg]
  ·rw[if_neg q]
section
variable {X:TX} {P:Program} {U k:Nat} {ns:List Nat} {h0:Tr ae} {kn:List<|Nat×Option ae} {L L':bV} {g:Nat} {fn:Func} {body:Code}
theorem O0(hX:zc X U)(hP:bC P)(fD:fH<=U)(dJ:U<=top)(dG:∀n o,n<top->h0.get n=some o->n∈ns)(ep:∀n∈ns,n<U)(iA:∀n o,(n,some o)∈kn->h0.get n=some o)(iB:∀p∈kn,p.1<top){val:AV->List AV->Option AV}(h:dY X U P<|dx U ns h0 L)(h':dY X U P<|dx U ns h0 L')(ch:P.funcs[g]? =some fn)(cw:fn.body=some body)(dE:(fn.name == "runtime.NumGoroutine")=false)(eL:∀v rest y,val v rest=some y->max fn.ntmps (rest.length+1)<=top/\∀L,X k v L->∃nx,U<nx/\nx<=top/\(∀p∈L,p.1<nx)/\∀B:aI,qm X P U ns h0 L' B->
 av P B (U+1) (mj X P fn.results.toList k y v) ⟨g,eg<|.ptr (some (U,0))::rest,max fn.ntmps<|rest.length+1,[.code body],[],none⟩ ⟨fL<|kn++bQ L,nx,0,[],[]⟩):dY X U P<|dx U ns h0<|(g,.raw<|lS k val)::L:=by
 refine(show dY X U P (po (dx U ns h0 L) g<|lS k val U ns h0) from h.mP (fun SG _ args=>SF.lS _ _ _ _ _ SG args) fun B hB hT SG hc hl args x s s1 ρ w vs fi r hg hf hm hv=>?_);have ha:∃n rest,args= .ptr (some (n,0))::rest:=by
  unfold lS at hm;split at hm
  ·exact⟨_,_,rfl⟩
  ·cases hm
 obtain⟨n,rest,rfl⟩:=ha;obtain⟨F7,e1,e2,e3⟩:=ac5 hm;have key:=U3 (val:=Fa val) hX hT hP ch cw dE fD dJ dG ep iA iB (fun v rest y v' e=>by
  unfold Fa at e;cases q:val v rest with
  |none=>rw[q] at e;cases e
  |some y1=>
   rw[q] at e;injection e with e;injection e with e1 e2
   subst e1;subst e2;obtain⟨q1,q2⟩:=eL v rest y1 q;refine⟨q1,fun L1 hL=>?_⟩;obtain⟨nx,n1,n2,n3,q3⟩:=q2 L1 hL;exact⟨nx,n1,n2,n3,fun B' kR kU=>q3 B'<|ru hP h' (kR.trans hB)<|kU.trans hT⟩) r hg e1 hv
 rw[tI ch cw dE] at key ⊢;refine Calls.mono key fun e w'=>?_;rintro ⟨y,rfl,σ,c1,c2,c3,c4⟩;exact⟨y,rfl,σ,by rw[←e2];exact c1,c2,c3.congr e3,c4⟩
end
noncomputable section
def YS(U:Nat)(h0:Tr ae)(ns:List Nat)(k n:Nat)(v:AV)(s:AS):Prop:=qk U h0 ns s=true/\Nat.blt n (dL U h0 ns s).nx=true/\(dL U h0 ns s).h.get n=some (.tok k v)
def YT(U:Nat)(h0:Tr ae)(ns:List Nat)(n:Nat)(s:AS):AS:=bc n<|dL U h0 ns s
end
theorem af5{P:Program}{F:Nat->Option (List AV)}{sp:Sp}{g m U k:Nat}{h0:Tr ae}{ns:List Nat}{val:AV->List AV->Option AV}(h:sp g=some (lS k val U ns h0)){v y:AV}(hr:(rest.all AV.hi&&Nat.ble U n)=true)(ht:Nat.blt n top=true)(hv:val v rest=some y)(hy:y.hi=true):
 ∀s,YS U h0 ns k n v s->bh P sp F (m+1) (.fn g) (.ptr (some (n,0))::rest) s= .ok y (YT U h0 ns n s):=fun s q=>by
 obtain⟨q1,q2,q3⟩:=q;show j8 P sp g (bh P sp F m) (.ptr (some (n,0))::rest) s=_;rw[ua h];show(aF (rest.all AV.hi&&Nat.ble U n) <| (fe U h0 ns).bind fun _=>(bz n).bind fun o=>aC (yx k o) fun v=>aC (val v rest) fun y=>aF (y.hi&&Nat.blt n top) <| M.pure y) s=_;rw[hr,dA,M.bO<|vM q1,M.bO<|lY q2 q3,Oo,bY,hv,bY,hy,ht];rfl
end Go.Rn
namespace Go.Rn
open Go.RowKit
noncomputable section
def uP(val:List AV->List AV->Option (AV×List AV))(U:Nat)(ns:List Nat)(h0:Tr ae):aO->List AV->M AV:=fun _ args=>match args with
  | .ptr (some (n,0))::rest=>aF (rest.all AV.hi) <| (fe U h0 ns).bind fun _=>(bz n).bind fun o=>aC (rowOf o) fun cs=>aF (cs.all AV.cq) <| aC (val cs rest) fun p=>aF (p.1.hi&&(p.2.all AV.cq&&Nat.ble p.2.length top)) <|
    (bN n<|some<|bu p.2).bind fun _=>M.pure p.1
  |_=>fail
end
theorem SF.uP(val:List AV->List AV->Option (AV×List AV))(U:Nat)(ns:List Nat)(h0:Tr ae)(SG:aO)(args:List AV):SF<|uP val U ns h0 SG args:=by
 unfold Rn.uP;split
 ·exact SF.aF fun _=>SF.bind (SF.fe U h0 ns) fun _=>SF.bind (SF.bz _) fun _=>SF.aC fun _ _=>SF.aF fun _=>SF.aC fun _ _=>SF.aF fun _=>SF.bind (SF.bN _ _) fun _=>SF.pure _
 ·exact SF.fail
def YU(U:Nat)(P:Program)(rs:List ResultVar)(y:AV)(cs:List AV):=Fin P rs fun y1 s'=>y1=y/\s'.h.get U=some (bu cs)
theorem aer{P:Program}{B:aI}{f U:Nat}{ns:List Nat}{h0:Tr ae}{kn:List<|Nat×Option ae}{val:List AV->List AV->Option (AV×List AV)}{fn:Func}{body:Code}{ρ:aw}{w:World}{s s1:AS}(hP:bC P)(ch:P.funcs[f]? =some fn)(cw:fn.body=some body)(dE:(fn.name == "runtime.NumGoroutine")=false)(fD:fH<=U)(dJ:U+1<=top)(dG:∀n o,n<top->h0.get n=some o->n∈ns)(ep:∀n∈ns,n<U)(iA:∀n o,(n,some o)∈kn->h0.get n=some o)(iB:∀p∈kn,p.1<top)(eL:∀cs rest y kx,val cs rest=some (y,kx)->max fn.ntmps (rest.length+1)<=top/\∀B':aI,B'.F=B.F->B'.inv=B.inv->
 av P B' (U+1) (YU U P fn.results.toList y kx) ⟨f,eg<|.ptr (some (U,0))::rest,max fn.ntmps<|rest.length+1,[.code body],[],none⟩ ⟨fL<|kn++[(U,some<|bu cs)],U+1,0,[],[]⟩){SG:aO}{args:List AV}{x:AV}{vs:Array Value}(r:Rel B ρ s.h w)(hg:gk ρ)(h:uP val U ns h0 SG args s= .ok x s1)(hv:az ρ args vs.toList):jo P ((callFunc f vs).run P w)<|ki B ρ s s1 w x:=by
 unfold uP at h;split at h
 case h_2=>cases h
 rename_i n rest;obtain⟨ga,h⟩:=cY h;obtain⟨u,s2,h2,h⟩:=M.aR h;obtain⟨a1,a2,a3⟩:=tH h2;obtain⟨o,s3,k1,h⟩:=M.aR h;obtain⟨cs,m1,h⟩:=bw h;obtain⟨dq,h⟩:=cY h;obtain⟨p,hp,h⟩:=bw h;obtain⟨kD,h⟩:=cY h;obtain⟨IT,hS⟩:=and_true.1 kD;obtain⟨hS,R5⟩:=and_true.1 hS;obtain⟨_,t1,w1,h⟩:=M.aR h;obtain⟨rfl,rfl⟩:=bI h;obtain⟨y,kx⟩:=p;obtain⟨rfl,nH⟩:=GC m1;obtain⟨b1,b2,b3,b4⟩:=fY k1;obtain⟨x1,x2,_,x4,x5⟩:=jz w1;have g1:s.h.get n=some (bu cs):=by rw[←a1];exact b2
 let V:Vw:=[(U,n,bu cs)];have mem:∀q∈V,q=(U,n,bu cs):=fun q hq=>by simpa[V] using hq
 have V0:(U,n,bu cs)∈V:=by simp[V]
 have e0:eM U ρ V U=ρ n:=by
  unfold eM;rw[if_neg ak,if_neg ak];have:gj V U=some n:=by simp[gj,V]
  rw[this]
 have hi:iM ρ<|eM U ρ V:=fun m x hm e=>by rw[xQ ak hm];exact e
 have hV:zi U ρ s.h V:=by
  refine⟨fun q hq=>?_,fun q hq q' dS e=>?_,fun q hq q' dS e=>?_,fun q hq=>?_⟩
  ·rw[mem q hq];exact⟨Nat.le_refl _,by show U<top;omega,x2⟩
  ·rw[mem q hq,mem q' dS]
  ·rw[mem q hq,mem q' dS]
  ·rw[mem q hq];exact⟨_,g1,.inl ⟨rfl,rfl,fun N o' hO=>Ao hi nH dq hO⟩⟩
 obtain⟨_,cW,T⟩:=r.tk;have T:CI B ρ s.h w cW:=T;have m9:=HE ak r T dG ep iA iB (fun n hn=>by obtain⟨_,o,p,h⟩:=a3 n hn;exact⟨o,p,h⟩) hV;obtain⟨q1,q2⟩:=eL _ _ _ _ hp;have fi:bF (⟨fL<|kn++[(U,some<|bu cs)],U+1,0,[],[]⟩:AS):=⟨Nat.zero_le _,dJ⟩;have jK:az (eM U ρ V) (.ptr (some (U,0))::rest) vs.toList:=by simp only[az,VR] at hv ⊢;obtain⟨v0,vr,q1,⟨b',N',q2,q3⟩,q4⟩:=hv;exact⟨v0,vr,q1,⟨b',N',e0.trans q2,q3⟩,AV.zX hi ga q4⟩
 have bJ:=av.En (B:=se B ρ w<|wH ρ cW V) (s:=⟨fL<|kn++[(U,some<|bu cs)],U+1,0,[],[]⟩) (args:=.ptr (some (U,0))::rest) (vs:=vs) hP ch cw q1 (q2 _ rfl rfl) fi m9 (fun g hZ=>by
  obtain⟨N,e⟩:=hg g hZ;exact⟨N,by rw[BQ<|Nat.lt_of_lt_of_le hZ fD];exact e⟩) (fun m hm ju=>by
  have hm:U+1<=m:=hm;exact Gy ak ju fun q hq=>by rw[mem q hq];show _≠m;simp only;omega) jK
 rw[tI ch cw dE];show Calls P f vs w _;refine bJ.mono fun e w'=>?_;rintro ⟨zj,x',s7,rfl,⟨rfl,j1⟩,_,σ,i0,zk,i1,i2,i3⟩;have sV:∀q∈V,σ q.1=ρ q.2.1:=fun q hq=>by rw[mem q hq];exact(i0 U ak ak).trans e0
 have ov:iM σ<|cK ρ σ:=fun k x hk e=>by unfold cK;rw[if_pos hk];exact e
 obtain⟨f1,f2,f3,f4⟩:=Hg (a:=s.nx) (L2:=[(n,bu kx)]) (h':=s1.h) r T hV i2 i3 sV (fun m z hm q=>zk m z hm<|hi m z hm q) (fun m q hm=>by
  rw[List.mem_singleton] at hm;cases hm;exact⟨_,V0,rfl,_,j1,.inl ⟨rfl,rfl,fun N o' hO=>Ao ov (aL.1 R5) hS hO⟩⟩) (fun q hq cH=>by rw[mem q hq];exact⟨_,j1,rfl⟩) (fun m hm=>by
  rw[x4,b3,a1,Tr.du _ _ _ _ x2 hm];by_cases c1:m=n
  ·subst c1;exact .inl ⟨_,by simp,if_pos rfl⟩
  rw[if_neg c1];exact .inr ⟨fun q hq=>by rw[mem q hq];exact fun e=>c1 e.symm,rfl⟩)
 refine⟨zj,rfl,cK ρ σ,?_,AV.pb ov IT i1,f3,f4⟩;have cJ:s1.nx=s.nx:=by rw[x5,b4,a2]
 rw[cJ];exact f1
section
variable {X:TX} {P:Program} {U:Nat} {ns:List Nat} {h0:Tr ae} {kn:List<|Nat×Option ae} {L L':bV} {g:Nat} {fn:Func} {body:Code}
theorem Wz(hP:bC P)(fD:fH<=U)(dJ:U+1<=top)(dG:∀n o,n<top->h0.get n=some o->n∈ns)(ep:∀n∈ns,n<U)(iA:∀n o,(n,some o)∈kn->h0.get n=some o)(iB:∀p∈kn,p.1<top){val:List AV->List AV->Option (AV×List AV)}(h:dY X U P<|dx U ns h0 L)(h':dY X U P<|dx U ns h0 L')(ch:P.funcs[g]? =some fn)(cw:fn.body=some body)(dE:(fn.name == "runtime.NumGoroutine")=false)(eL:∀cs rest y kx,val cs rest=some (y,kx)->max fn.ntmps (rest.length+1)<=top/\∀B:aI,qm X P U ns h0 L' B->
 av P B (U+1) (YU U P fn.results.toList y kx) ⟨g,eg<|.ptr (some (U,0))::rest,max fn.ntmps<|rest.length+1,[.code body],[],none⟩ ⟨fL<|kn++[(U,some<|bu cs)],U+1,0,[],[]⟩):dY X U P<|dx U ns h0<|(g,.raw<|uP val)::L:=by
 refine(show dY X U P (po (dx U ns h0 L) g<|uP val U ns h0) from h.mP (fun SG _ args=>SF.uP _ _ _ _ SG args) fun B hB hT SG hc hl args x s s1 ρ w vs fi r hg hf hm hv=>?_);refine aer hP ch cw dE fD dJ dG ep iA iB (fun cs rest y kx e=>?_) r hg hm hv;obtain⟨q1,q2⟩:=eL cs rest y kx e;exact⟨q1,fun B' kR kU=>q2 B'<|ru hP h' (kR.trans hB)<|kU.trans hT⟩
end
noncomputable section
def YV(U:Nat)(h0:Tr ae)(ns:List Nat)(a:Nat)(cs:List AV)(s:AS):Prop:=qk U h0 ns s=true/\Nat.blt a (dL U h0 ns s).nx=true/\(dL U h0 ns s).h.get a=some (bu cs)
def Rh(U:Nat)(h0:Tr ae)(ns:List Nat)(a:Nat)(kx:List AV)(s:AS):AS:=fB a (some<|bu kx)<|bc a<|dL U h0 ns s
end
theorem Xb{P:Program}{F:Nat->Option (List AV)}{sp:Sp}{g n U:Nat}{h0:Tr ae}{ns:List Nat}{val:List AV->List AV->Option (AV×List AV)}(h:sp g=some (uP val U ns h0)){a:Nat}{rest cs kx:List AV}{y:AV}(hr:rest.all AV.hi=true)(ht:Nat.blt a top=true)(hl:cs.length<=top)(ho:cs.all AV.cq=true)(hv:val cs rest=some (y,kx))(hy:(y.hi&&(kx.all AV.cq&&Nat.ble kx.length top))=true):
 ∀s,YV U h0 ns a cs s->bh P sp F (n+1) (.fn g) (.ptr (some (a,0))::rest) s= .ok y (Rh U h0 ns a kx s):=fun s q=>by
 obtain⟨hk,hn,g1⟩:=q;show j8 P sp g (bh P sp F n) (.ptr (some (a,0))::rest) s=_;rw[ua h];show(aF (rest.all AV.hi) <| (fe U h0 ns).bind fun _=>(bz a).bind fun o=>aC (rowOf o) fun cs=>aF (cs.all AV.cq) <| aC (val cs rest) fun p=>aF (p.1.hi&&(p.2.all AV.cq&&Nat.ble p.2.length top)) <| (bN a<|some<|bu p.2).bind fun _=>M.pure p.1) s=_;rw[hr,dA,M.bO<|vM hk,M.bO<|lY hn g1];unfold Rh;generalize dL U h0 ns s=z at*;rw[GF hl,bY,ho,dA,hv,bY];show(aF (y.hi&&(kx.all AV.cq&&Nat.ble kx.length top)) <| (bN a<|some<|bu kx).bind fun _=>M.pure y) (bc a z)=_;rw[hy,dA,M.bO<|xP (by rw[(fN a z).2.1];exact hn) (by rw[(fN a z).1];exact g1) rfl ht];rfl
end Go.Rn
open Go
namespace Go.Rn
section
variable {X:TX} {P:Program} {U:Nat} {ns:List Nat} {h0:Tr ae} {L:bV} {g:Nat} {fn:Func} {body:Code}
theorem ab6{j0:FuncId->Nat}(hw:∀B,WQ P B j0)(hP:bC P)(fD:fH<=U)(dJ:U<=top)(dG:∀n o,n<top->h0.get n=some o->n∈ns)(ep:∀n∈ns,n<U){val:List AV->Option AV}(h:dY X U P<|dx U ns h0 L)(ch:P.funcs[g]? =some fn)(cw:fn.body=some body)(dE:(fn.name == "runtime.NumGoroutine")=false)(eL:∀args v,val args=some v->∃n s1,Ay P j0 n (.fn g) args ⟨h0,U,0,[],[]⟩= .ok v s1):dY X U P<|dx U ns h0<|(g,.val val)::L:=by
 refine(show dY X U P (po (dx U ns h0 L) g<|p6 U ns h0 val) from h.mP (fun SG _ args=>SF.p6 _ _ _ _ SG args) fun B hB hT SG hc hl args x s s1 ρ w vs fi r hg hf hm hv=>?_);unfold p6 at hm;obtain⟨ga,h1⟩:=cY hm;obtain⟨u,s2,h2,h3⟩:=M.aR h1;obtain⟨v,h4,h5⟩:=bw h3;obtain⟨h6,h7⟩:=cY h5;obtain⟨rfl,rfl⟩:=bI h7;obtain⟨a1,a2,a3⟩:=tH h2;obtain⟨n,s4,q⟩:=eL _ _ h4;have m9:=ES dJ r dG ep (fun n hn=>by obtain⟨_,o,p,h⟩:=a3 n hn;exact⟨o,p,h⟩);have fi:bF (⟨h0,U,0,[],[]⟩:AS):=⟨Nat.zero_le _,dJ⟩;have A6:gk<|gm U ρ:=fun g hZ=>by obtain⟨N,e⟩:=hg g hZ;exact⟨N,by unfold gm;rw[if_pos<|Nat.lt_of_lt_of_le hZ fD];exact e⟩
 have bJ:=(UM (B:=sd B ρ w) hP (hw _) n).fn g args x ⟨h0,U,0,[],[]⟩ s4 (gm U ρ) w vs fi m9 A6 (fun k k1 _ k2=>by
  have k1:U<=k:=k1;unfold gm gq;rw[if_neg ak,if_neg ak])
  q (AV.zX (fun k y hk e=>by rw[tU dJ hk];exact e) ga hv)
 rw[tI ch cw dE] at bJ ⊢;have bJ:Calls P g vs w _:=bJ;show Calls P g vs w _;refine bJ.mono fun e w'=>?_;rintro ⟨y,rfl,σ,e1,e2,e3,e4⟩;obtain⟨b1,b2,b3,b4⟩:=Kz (a:=s.nx) dJ r e3 e4 e1.le;exact⟨y,rfl,cK ρ σ,by rw[a2];exact b1,AV.pb b2 h6 e2,by rw[a1];exact b3,b4⟩
end
end Go.Rn
namespace Go.Rn
open Go.RowKit Go.ChangeShapes
variable {ρ:aw} {v:Value} {α:Type} {t e:TypeId} {fuel K:Nat}
abbrev mA:=List<|Nat×Nat×List AV
def Has(σ:aw)(ms:mA):Prop:=∀p∈ms,σ (hn (nm p.2.2) p.1 p.2.1)≠none
def Good(w:World)(ms:mA):Prop:=∀p∈ms,p.2.2.all AV.gi=true/\∃c e fr,w.heap[p.1]? =some (.cells c e fr)/\∀(i:Nat) (x:AV),p.2.2[i]? =some x->∃v,c[p.2.1+i]? =some v/\∀σ,Has σ ms->VR (gq σ) x v
def Is(ms:mA)(x:AV)(v:Value):Prop:=∀σ,Has σ ms->VR (gq σ) x v
theorem Has.sub{σ:aw}{a b:mA}(h:Has σ b)(hs:∀p∈a,p∈b):Has σ a:=fun p hp=>h p<|hs p hp
theorem Is.sub{a b:mA}{x:AV}(h:Is a x v)(hs:∀p∈a,p∈b):Is b x v:=fun σ hh=>h σ<|hh.sub hs
theorem Good.nil{w:World}:Good w []:=fun p hp=>by cases hp
theorem Good.app{w:World}{a b:mA}(h:Good w a)(k:Good w b):Good w<|a++b:=fun p hp=>by
 rcases List.mem_append.1 hp with hp|hp
 ·obtain⟨h1,c,e,fr,h2,h3⟩:=h p hp;exact⟨h1,c,e,fr,h2,fun i x hx=>by obtain⟨v,k1,k2⟩:=h3 i x hx;exact⟨v,k1,fun σ hh=>k2 σ<|hh.sub fun p hp=>List.mem_append_left _ hp⟩⟩
 ·obtain⟨h1,c,e,fr,h2,h3⟩:=k p hp;exact⟨h1,c,e,fr,h2,fun i x hx=>by obtain⟨v,k1,k2⟩:=h3 i x hx;exact⟨v,k1,fun σ hh=>k2 σ<|hh.sub fun p hp=>List.mem_append_right _ hp⟩⟩
section
variable {H:Type} {enc:TypeId×Value->H} {P:Program} {w:World} {base:Nat} {spare:Nat->Bool} {held:Bool}
theorem UG{a:Addr}{n:Nat}{cs:List Value}(h:w.cells? base a n=some cs):cs.length=n/\∀(j:Nat) (x:Value),cs[j]? =some x->w.cell? (a.add j)=some x:=by
 unfold World.cells? at h;split at h
 ·have hlen:cs.length=n:=by simpa using mapM_some_length h
  refine⟨hlen,fun j x hx=>?_⟩;have hj:j<n:=by have:=(List.getElem?_eq_some_iff.1 hx).1;omega
  have:=mapM_some_get h j j (by simp[hj]);exact this.trans hx
 ·cases h
theorem Vz(b o m:Nat):(⟨b,o,none⟩:Addr).add m=⟨b,o+m,none⟩:=by
 unfold Addr.add;split
 ·rename_i h;subst h;rfl
 ·rfl
theorem add_zero(a:Addr):a.add 0=a:=by unfold Addr.add;rw[if_pos rfl]
theorem ade{x:DataW H×List MemPlace}(Fl:0<K)(ht:P.underlying t=some (.slice e))(hK:P.cellsOf e=K)(h:DataW.trod enc P w base spare held fuel t [v]=some x):
 (∃a cap,v= .slice a 0 cap/\(a=none->cap=0))\/∃(b o len cap:Nat) (c:Array Value) (el:TypeId) (fr:Nat×Nat) (rows:List<|List Value),v= .slice (some ⟨b,o,none⟩) len cap/\len<=cap/\w.heap[b]? =some (.cells c el fr)/\rows.length=len/\∀(i:Nat) (row:List Value),rows[i]? =some row->row.length=K/\(∃n y,n<fuel/\DataW.trod enc P w base spare held n e row=some y)/\∀(j:Nat) (x:Value),row[j]? =some x->c[o+i*K+j]? =some x:=by
 rcases DataW.trod_slice ht h with⟨h0,_⟩|⟨a,len,cap,elems,rest,n,hfu,uZ,_,_,hl,_,hlen,hel,_,_⟩
 ·left;injection h0 with h0 _
  exact⟨none,0,h0,fun _=>rfl⟩
 ·injection uZ with hv _
  subst hv;rcases Nat.eq_zero_or_pos len with rfl|hlp
  ·exact .inl ⟨some a,cap,rfl,fun e=>by cases e⟩
  right;have Y1:∀i,i<len->∃cs y,w.cells? base (a.add<|i*K) K=some cs/\DataW.trod enc P w base spare held n e cs=some y:=fun i hi=>by have he:=hel i hi;rw[hK,List.getElem?_eq_getElem ak] at he;obtain⟨cs,h1,h2⟩:=Option.bind_eq_some_iff.1 he;exact⟨cs,_,h1,h2⟩
  obtain⟨cs0,_,h1,_⟩:=Y1 0 hlp;obtain⟨k1,k2⟩:=UG h1;have jt:=k2 0 _<|List.getElem?_eq_getElem ak;rw[Nat.zero_mul,add_zero,add_zero] at jt;have Mn:a.spot=none:=World.cell?_spot jt;obtain⟨b,o,sp⟩:=a;simp only at Mn;subst Mn;unfold World.cell? at jt;simp only at jt;cases hb:w.heap[b]? with
  |none=>rw[hb] at jt;cases jt
  |some ob=>
   rw[hb] at jt;cases ob with
   |cells c el fr=>
    refine⟨b,o,len,cap,c,el,fr,(List.range len).map fun i=>(w.cells? base ((⟨b,o,none⟩:Addr).add<|i*K) K).getD [],rfl,hl,hb,by simp,fun i row eO=>?_⟩;have hi:i<len:=by have:=(List.getElem?_eq_some_iff.1 eO).1;simpa using this
    obtain⟨cs,y,h1,h2⟩:=Y1 i hi;rw[List.getElem?_map,List.getElem?_range hi,Option.map_some,h1] at eO;injection eO with eO
    have ajB:cs=row:=eO;subst ajB;obtain⟨k1,k2⟩:=UG h1;refine⟨k1,⟨n,_,by omega,h2⟩,fun j x hx=>?_⟩;have:=k2 j x hx;rw[Vz,Vz] at this;unfold World.cell? at this;simp only[hb] at this;simpa using this
   |_=>cases jt
theorem Ti{β:Type}{K:Nat}:∀{l:List<|List β} {i:Nat} {x:β},(∀c∈l,c.length=K)->l.flatten[i]? =some x->∃q j row,l[q]? =some row/\row[j]? =some x/\i=q*K+j
 |[],i,x,_,h=>by simp at h
 |c::l,i,x,hl,h=>by
  have hc:=hl c List.mem_cons_self;rw[List.flatten_cons] at h;by_cases q:i<c.length
  ·rw[List.getElem?_append_left q] at h;exact⟨0,i,c,rfl,h,by omega⟩
  ·rw[List.getElem?_append_right ak] at h;obtain⟨a,j,row,h1,h2,h3⟩:=Ti (fun c' h'=>hl c'<|List.mem_cons_of_mem _ h') h;exact⟨a+1,j,row,by simpa using h1,h2,by rw[Nat.add_mul,Nat.one_mul];omega⟩
def HP(w:World)(uQ:α->List AV)(Q:α->Prop)(row:List Value)(a:α)(ms:mA):Prop:=Q a/\Good w ms/\∀(j:Nat) (x:AV),(uQ a)[j]? =some x->∃u,row[j]? =some u/\Is ms x u
theorem WD{α:Type}{uQ:α->List AV}{Q:α->Prop}:∀{rows:List<|List Value},(∀row∈rows,∃a ms,HP w uQ Q row a ms)->
 ∃(l:List α) (ms:mA),l.length=rows.length/\(∀a∈l,Q a)/\Good w ms/\∀(i:Nat) a row,l[i]? =some a->rows[i]? =some row->∀(j:Nat) (x:AV),(uQ a)[j]? =some x->∃u,row[j]? =some u/\Is ms x u
 |[],_=>⟨[],[],rfl,(fun a ha=>by cases ha),Good.nil,(fun i a row h=>by simp at h)⟩
 |row::rows,h=>by
  obtain⟨a,ms,h1,h2,h3⟩:=h row List.mem_cons_self;obtain⟨l,ns,k1,k2,k3,k4⟩:=WD (rows:=rows) fun r hr=>h r<|List.mem_cons_of_mem _ hr;refine⟨a::l,ms++ns,(by simp[k1]),fun b hb=>?_,h2.app k3,fun i b r hb hr j x hx=>?_⟩
  ·rcases List.mem_cons.1 hb with rfl|hb
   ·exact h1
   ·exact k2 b hb
  ·cases i with
   |zero=>simp at hb hr;subst hb;subst hr;obtain⟨u,e1,e2⟩:=h3 j x hx;exact⟨u,e1,e2.sub fun p hp=>List.mem_append_left _ hp⟩
   |succ i=>simp at hb hr;obtain⟨u,e1,e2⟩:=k4 i b r hb hr j x hx;exact⟨u,e1,e2.sub fun p hp=>List.mem_append_right _ hp⟩
theorem GW{uQ:α->List AV}{Q:α->Prop}(he:mh K uQ)(Fl:0<K){x:DataW H×List MemPlace}(ht:P.underlying t=some (.slice e))(hK:P.cellsOf e=K)(eO:∀row:List Value,row.length=K->(∃n y,n<fuel/\DataW.trod enc P w base spare held n e row=some y)->∃a ms,HP w uQ Q row a ms)(h:DataW.trod enc P w base spare held fuel t [v]=some x):
 ∃(l:List α) (ms:mA),(∀a∈l,Q a)/\Good w ms/\Is ms (aD uQ l) v:=by
 rcases ade Fl ht hK h with⟨a,cap,rfl,hz⟩|⟨b,o,len,cap,c,el,fr,rows,rfl,h2,h3,h4,h5⟩
 ·refine⟨[],[],(fun a ha=>by cases ha),Good.nil,fun σ _=>?_⟩;unfold aD;simp only[VR];exact .inl ⟨cV _,rfl,a,cap,rfl,hz,(fun e=>absurd e (Ag _).1),fun e=>absurd e (Ag _).2⟩
 ·obtain⟨l,ms,k1,k2,k3,k4⟩:=WD (w:=w) (uQ:=uQ) (Q:=Q) (rows:=rows) fun row hr=>by obtain⟨i,hi⟩:=List.mem_iff_getElem?.1 hr;obtain⟨a1,a2,_⟩:=h5 i row hi;exact eO row a1 a2
  refine⟨l,(b,o,(l.map uQ).flatten)::ms,k2,fun p hp=>?_,fun σ hh=>?_⟩
  ·rcases List.mem_cons.1 hp with rfl|hp
   ·refine⟨he.all l,c,el,fr,h3,fun i x hx=>?_⟩;obtain⟨q,j,row,e1,e2,e3⟩:=Ti (K:=K) (fun c' Sd=>by obtain⟨a,_,rfl⟩:=List.mem_map.1 Sd;exact he.len a) hx;rw[List.getElem?_map] at e1;cases ha:l[q]? with
    |none=>rw[ha] at e1;cases e1
    |some a=>
     rw[ha] at e1;injection e1 with e1
     subst e1;have hq:q<rows.length:=by have:=(List.getElem?_eq_some_iff.1 ha).1;omega
     obtain⟨u,g1,g2⟩:=k4 q a rows[q] ha (List.getElem?_eq_getElem hq) j x e2;obtain⟨_,_,g4⟩:=h5 q rows[q]<|List.getElem?_eq_getElem hq;exact⟨u,by rw[e3, ←Nat.add_assoc];exact g4 j u g1,fun σ hh=>g2 σ<|hh.sub fun p hp=>List.mem_cons_of_mem _ hp⟩
   ·obtain⟨h1,c',e',qB,sU,Rl⟩:=k3 p hp;exact⟨h1,c',e',qB,sU,fun i x hx=>by obtain⟨v,q1,q2⟩:=Rl i x hx;exact⟨v,q1,fun σ hh=>q2 σ<|hh.sub fun p hp=>List.mem_cons_of_mem _ hp⟩⟩
  ·unfold aD;simp only[VR];refine .inr ⟨b,o,cap,.inr ⟨cV _,?_⟩,?_,fun _=>⟨by omega,(Ag _).1⟩⟩
   ·have:=hh _ List.mem_cons_self;unfold gq;rw[if_pos<|gg _ _ _];exact this
   ·rw[Nat.add_zero,k1,h4]
end
open Classical in
noncomputable def qe(ms:mA)(ρ:aw):aw:=fun k=>if ρ k=none/\∃p∈ms,k=hn (nm p.2.2) p.1 p.2.1 then some (0,0) else ρ k
theorem JZ{ms:mA}:ρ.le<|qe ms ρ:=fun k x e=>by unfold qe;rw[if_neg (fun q=>by rw[e] at q;cases q.1)];exact e
theorem Ow{ms:mA}{k:Nat}(hk:k<top):qe ms ρ k=ρ k:=by unfold qe;rw[if_neg (fun⟨_,p,_,q⟩=>by have:=gg (nm p.2.2) p.1 p.2.1;omega)]
theorem UH{ms:mA}:Has (qe ms ρ) ms:=fun p hp=>by
 unfold qe;by_cases q:ρ (hn (nm p.2.2) p.1 p.2.1)=none
 ·rw[if_pos ⟨q,p,hp,rfl⟩];exact fun h=>by cases h
 ·rw[if_neg fun z=>q z.1];exact q
theorem Start.ajC(B:aI){U:Nat}{h0:Tr ae}{w:World}{ms:mA}(S:Start U h0 ρ w)(ht:U<=top)(hg:Good w ms):Rel ⟨fun k=>w.heap.size<=k,FU,fun _=>True,B.inv,w.heap.size,B.mono⟩ (qe ms ρ) h0 w:=by
 have r:=S.rel ht;refine⟨fun n o hn h=>?_,fun n m o p b N M hn hm h1 h2 da e1 e2=>?_,fun n m es ex left cur hn h=>?_,r.size,r.lone,fun n b sh e=>?_,uR.no (fun n k v hn hg=>by have:=(S.is n _ hn hg).1;cases this) ⟨Nat.le_refl _,fun n o hn hg _=>by obtain⟨_,b,N,o',h1,h2,_⟩:=S.is n o hn hg;exact⟨b,N,JZ _ _ h1,gV h2⟩⟩⟩
 ·obtain⟨b,N,o',h1,h2,h3,h4⟩:=r.is n o hn h;exact⟨b,N,o',JZ _ _ h1,h2,h3.mono JZ,h4⟩
 ·rw[Ow hn] at e1;rw[Ow hm] at e2;exact r.one n m o p b N M hn hm h1 h2 da e1 e2
 ·have:=(S.is n _ hn h).1;cases this
 ·refine⟨.inl trivial,?_⟩;have mr:ρ (hn n b sh)=Option.none:=S.free _<|Nat.le_trans ht<|gg _ _ _;unfold qe at e;split at e
  ·rename_i q;obtain⟨_,p,hp,q⟩:=q;obtain⟨rfl,rfl,rfl⟩:=Ks q;obtain⟨h1,c,el,fr,h2,h3⟩:=hg p hp;refine⟨p.2.2,c,el,fr,Cn h1,h2,fun m o N hm ho cH=>?_,fun i x hx=>?_⟩
   ·rw[ae.kf (S.is m o hm ho).1] at cH;cases cH
   ·obtain⟨v,q1,q2⟩:=h3 i x hx;exact⟨v,q1,q2 _ UH,JE<|List.all_eq_true.1 h1 x<|List.mem_of_getElem? hx⟩
  ·exact absurd mr e
end Go.Rn
namespace Go.Rn
open Go.RowKit
variable {ρ:aw} {ty:TypeId} {U g:Nat} {h:Tr ae} {c:Array Value} {W:World}
theorem Start.ajF{m:Nat}{t:Tr AV}{fr:Nat×Nat}(S:Start U h ρ W)(Ro:g<top)(kr:ρ g=some (g,c.size))(hW:W.heap[g]? =some (.cells c ty fr))(hm:m=c.size)(row:∀i,i<m->∃x v,t.get i=some x/\x.cj=true/\c[i]? =some v/\VR ρ x v):Start U (h.put g<|some<|.ro m t) ρ W:=by
 refine⟨S.g,S.free,fun n o hn ho=>?_⟩;rw[Tr.du _ _ _ _ Ro hn] at ho;by_cases q:n=g
 ·subst q;rw[if_pos rfl] at ho;injection ho with ho;subst ho
  exact⟨rfl,n,c.size,_,kr,hW,c,ty,fr,rfl,rfl,hm,row⟩
 ·rw[if_neg q] at ho;exact S.is n o hn ho
noncomputable section
end
theorem Start.anD{fr:Nat×Nat}(S:Start U h ρ W)(low:∀k,k<fH->ρ k=UY W k)(hg:g<fH)(hW:W.heap[g]? =some (.cells c ty fr))(l:List AV)(hl:l.length<=top)(hs:l.length=c.size)(row:∀(i:Nat) x,l[i]? =some x->x.cj=true/\∃v,c[i]? =some v/\VR ρ x v):Start U (h.put g<|some<|.ro l.length<|Tr.fill l 0 .nil) ρ W:=by
 refine S.ajF (Nat.lt_of_lt_of_le hg (by unfold fH top;decide)) ?_ hW hs fun i hi=>?_
 ·rw[low g hg];unfold UY;rw[if_pos hg,hW]
 ·obtain⟨x,hx⟩:∃x,l[i]? =some x:=⟨l[i],List.getElem?_eq_getElem hi⟩;obtain⟨h1,v,h2,h3⟩:=row i x hx;exact⟨x,v,by rw[adz _ hl i hi];exact hx,h1,h2,h3⟩
end Go.Rn
