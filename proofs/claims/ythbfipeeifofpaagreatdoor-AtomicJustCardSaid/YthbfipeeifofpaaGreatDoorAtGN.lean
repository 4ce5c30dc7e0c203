import Derived.Test.YthbfipeeifofpaaGreatDoorAtGM
import Derived.Test.YthbfipeeifofpaaGreatDoorRnGH
import Derived.Test.YthbfipeeifofpaaGreatDoorAtGL
import Derived.Test.YthbfipeeifofpaaGreatDoorAtGK
set_option maxRecDepth 100000
set_option maxHeartbeats 8000000
set_option linter.unusedSimpArgs false
set_option linter.unusedVariables false
section
open Go Go.Rn Go.RowKit Go.Proofs
namespace zx
open ch fT eX ij eO cG dj cQ di fW fD gH gP gV gi gj hJ iA iB iR jc jV ki kO jW fO iz mY nL lR oJ mf vH nM
variable {b b':bg} {fs:List Fr} {s:Int} {A:MN}
theorem len8{l:List Int}(h:l.length=8):∃a b c d e f g i,l=[a,b,c,d,e,f,g,i]:=⟨_,_,_,_,_,_,_,_,Jg l h⟩
theorem NS{a:dE}(h:a.l.length=8){to z:Int}(h0:0<=to)(h8:to<8):MN.ig {mn a with steps:=s} to z=mn ⟨a.vars,a.aD,a.l.set to.toNat z,b,fs,s⟩:=by obtain⟨vars,aD,l,b0,fs0,st⟩:=a;obtain⟨x0,x1,x2,x3,x4,x5,x6,x7,rfl⟩:=len8 h;rcases UK h0 h8 with rfl|rfl|rfl|rfl|rfl|rfl|rfl|rfl<;>rfl
theorem E3{A':MN}{n c k:Nat}{g:Fr}(m:cY A n c fs b)(hk:k<=fs.length)(hl:fs.length<=1000)(e1:A'.G=A.G/\A'.q=A.q/\A'.lg=A.lg/\A'.aD=A.aD/\A'.vars=A.vars)(hg:(0<=g.turns/\g.turns<=1000000)/\g.kept.length=8)(hb:de b'):
 cY A' (k+1) (k+1) (p9 fs k g) b'/\((p9 fs k g).take<|k+1).reverse=g::(fs.take k).reverse:=by
 have hlen:(p9 fs k g).length=k+1:=by rw[List.length_append,List.length_take];simp only[List.length_cons,List.length_nil];omega
 obtain⟨q1,q2,q3,q4,q5⟩:=e1;refine⟨⟨by rw[q1,q2,q3,q4];exact m.aD,hb,im.app (im.take m.nT k) fun f hf=>?_,by rw[hlen];omega,Nat.le_refl _,by rw[hlen];omega,by rw[q5];exact m.vars⟩,?_⟩
 ·rw[List.mem_singleton] at hf;subst hf;exact hg
 ·rw[List.take_of_length_le (by rw[hlen];omega)];simp only[List.reverse_append,List.reverse_cons,List.reverse_nil,List.nil_append,List.cons_append]
structure uI (a:dE) (f:Fr) (r:List Fr) (kind to:Int):Prop where
 ak:0<=f.ak
 to:kind=1\/kind=2->0<=to/\to<8
 ag6:kind=6->∀g r',below (f::r)=some (g,r')->r'≠[]/\2<=a.b.length
theorem uJ{a a':dE}{st:List Fr}(h:fin a st b=some a'):∃aU b',ia 1000 st b=some (aU,b')/\a'={a with fs:=aU.reverse,b:=b'}:=by
 unfold fin at h;split at h
 ·rename_i p e;injection h with h;exact⟨p.1,p.2,e,h.symm⟩
 ·cases h
theorem uK{a:dE}(h:xd a){l:List Int}{aU:List Fr}{n c n':Nat}{cW:List Fr}(d:jT A n c fs b aU b' n' cW)(hl:l.length=8)(hn:n<=1000):xd ⟨a.vars,a.aD,l,b',aU.reverse,s⟩:=by refine⟨hl,d.eh.buf,?_,h.2.2.2.1,h.2.2.2.2⟩;show aU.reverse.length<=1000;rw[←d.eq,List.reverse_reverse,List.length_take];have:=d.le;omega
theorem S8{f f1:Fr}{r:List Fr}(ho:f1.bV=f.bV):below (f1::r)=if f.bV=true then some (f1,r) else below r:=by show(if f1.bV=true then some (f1,r) else below r)=_;rw[ho]
theorem Nc(z:Int):kF z<=8:=by
 unfold kF dW;split<;>rename_i q
 ·omega
 ·have:=of_decide_eq_false q;omega
noncomputable abbrev LS:bO:=[PU,lY,iJ,jC,kK,lV,yI,PR,Pd,Oj,Of,Og]
section
variable {B:aJ} {a a':dE} {bh:List Fr} {c m:Nat} {f:Fr} {r:List Fr} {kind to:Int} {ea eb:Ex} {bd el:List St}
theorem adP(mc:Mt LS B)(h:Good a)(hj:mw a bh c)(t:nA a bh f r m)(cn:a.fs.reverse=f::r)(hs:f.block[f.ak.toNat]? =some (.mk 1 to ea eb bd el))(hd:uI a f r 1 to)(hk:dX a=(1,0,0))(hf:fin {a with l:=a.l.set to.toNat<|du a ea,steps:=a.steps+1} ({f with ak:=f.ak+1}::r) a.b=some a'):
 au pg B 271 (iQ XT pg (az Tryz.f15) 4 (.int .i64 0)<|eg a') (sF 15 Tryz.f15 [.ptr<|some (270,0)]) (ah (ar++aW (gz a bh c)) 273):=by
 obtain⟨aU,b',e1,rfl⟩:=uJ hf;have h0:=(hd.to<|.inl rfl);have mp:=h.mp hj t;obtain⟨p1,p2,p3⟩:=sB t;obtain⟨op,nn,la⟩:=ea;obtain⟨aF,n2,lb⟩:=eb;obtain⟨n',cW,d⟩:=qW (mp.ig (i:=to) (z:=du a<|.mk op nn la)) p2 e1;have ev:dC {mn a with steps:=a.steps+1} (.mk op nn la)=du a (.mk op nn la):=lZ h.ok.1 _;have hX:=afo mp (kind:=1) (ea:=.mk op nn la) (eb:=.mk aF n2 lb) (bd:=bd) (el:=el) h0.1 h0.2;rw[ev] at hX;have key:=j1 (.inl ⟨rfl,rfl,rfl⟩) mc (h.eh hj) qz h.fP h.b6 (sw t hd.ak hs) ((sW h t cn _ hs).trans hk) (h.aw t) h.steps mp mp.ig d.eh hX d.run;exact sU (a':=⟨a.vars,a.aD,a.l.set to.toNat<|du a<|.mk op nn la,b',aU.reverse,a.steps+1⟩) (NS h.ok.1 h0.1 h0.2) rfl (uK h.ok d (by rw[List.length_set];exact h.ok.1) (by have:=h.fP;omega)) d.eh Gg key
theorem adQ(mc:Mt LS B)(h:Good a)(hj:mw a bh c)(t:nA a bh f r m)(cn:a.fs.reverse=f::r)(hs:f.block[f.ak.toNat]? =some (.mk 2 to ea eb bd el))(hd:uI a f r 2 to)(hk:dX a=(1,0,0))(hf:fin {a with l:=a.l.set to.toNat (ku a.b<|iK (du a ea) a.vars).1,steps:=a.steps+1} ({f with ak:=f.ak+1}::r) a.b=some a'):
 au pg B 271 (iQ XT pg (az Tryz.f15) 4 (.int .i64 0)<|eg a') (sF 15 Tryz.f15 [.ptr<|some (270,0)]) (ah (ar++aW (gz a bh c)) 273):=by
 obtain⟨aU,b',e1,rfl⟩:=uJ hf;have mp:=h.mp hj t;obtain⟨p1,p2,p3⟩:=sB t;have n6:=h.fP;obtain⟨op,nn,la⟩:=ea;obtain⟨aF,n2,lb⟩:=eb;have ev:dC {mn a with steps:=a.steps+1} (.mk op nn la)=du a (.mk op nn la):=lZ h.ok.1 _;have uk:dC (mn a) (.mk op nn la)=du a (.mk op nn la):=lZ h.ok.1 _;have h0:=(hd.to<|.inr rfl);obtain⟨n',cW,d⟩:=qW (mp.ig (i:=to) (z:=(ku a.b<|iK (du a<|.mk op nn la) a.vars).1)) p2 e1;have hX:=adN mp h.b6 (kind:=2) (ea:=.mk op nn la) (eb:=.mk aF n2 lb) (bd:=bd) (el:=el) h0.1 h0.2;rw[ev] at hX;have key:=j1 (.inr<|.inl ⟨rfl,rfl,rfl⟩) mc (h.eh hj) qz h.fP h.b6 (sw t hd.ak hs) ((sW h t cn _ hs).trans hk) (h.aw t) h.steps mp mp.ig d.eh hX d.run;exact sU (a':=⟨a.vars,a.aD,a.l.set to.toNat (ku a.b<|iK (du a<|.mk op nn la) a.vars).1,b',aU.reverse,a.steps+1⟩) (NS h.ok.1 h0.1 h0.2) rfl (uK h.ok d (by rw[List.length_set];exact h.ok.1) ab) d.eh Gg key
theorem adR(mc:Mt LS B)(h:Good a)(hj:mw a bh c)(t:nA a bh f r m)(cn:a.fs.reverse=f::r)(hs:f.block[f.ak.toNat]? =some (.mk 3 to ea eb bd el))(hd:uI a f r 3 to)(hk:dX a=(1,0,0))(hf:fin {a with steps:=a.steps+1} ({f with ak:=f.ak+1}::r) (kH a.b (iK (du a ea) a.vars)<|du a eb)=some a'):
 au pg B 271 (iQ XT pg (az Tryz.f15) 4 (.int .i64 0)<|eg a') (sF 15 Tryz.f15 [.ptr<|some (270,0)]) (ah (ar++aW (gz a bh c)) 273):=by
 obtain⟨aU,b',e1,rfl⟩:=uJ hf;have mp:=h.mp hj t;obtain⟨p1,p2,p3⟩:=sB t;have n6:=h.fP;obtain⟨op,nn,la⟩:=ea;obtain⟨aF,n2,lb⟩:=eb;have ev:dC {mn a with steps:=a.steps+1} (.mk op nn la)=du a (.mk op nn la):=lZ h.ok.1 _;have uk:dC (mn a) (.mk op nn la)=du a (.mk op nn la):=lZ h.ok.1 _;have ev2:dC {mn a with steps:=a.steps+1} (.mk aF n2 lb)=du a (.mk aF n2 lb):=lZ h.ok.1 _;have mb:cY {mn a with steps:=a.steps+1} (0+a.fs.length) (0+a.fs.length) (gL (a.fs++bh) a.fs.length)<|kH a.b (iK (du a<|.mk op nn la) a.vars)<|du a<|.mk aF n2 lb:=⟨mp.aD,Mx mp.buf _ _,mp.nT,mp.mL,mp.pR,mp.len,mp.vars⟩;obtain⟨n',cW,d⟩:=qW mb p2 e1;have hX:=acb mp h.b6 (kind:=3) (to:=to) (ea:=.mk op nn la) (eb:=.mk aF n2 lb) (bd:=bd) (el:=el);rw[ev,ev2] at hX;have key:=j1 (.inr<|.inr ⟨rfl,rfl,rfl⟩) mc (h.eh hj) qz h.fP h.b6 (sw t hd.ak hs) ((sW h t cn _ hs).trans hk) (h.aw t) h.steps mp mb d.eh hX d.run;exact sU (a':=⟨a.vars,a.aD,a.l,b',aU.reverse,a.steps+1⟩) rfl rfl (uK h.ok d h.ok.1 ab) d.eh Gg key
theorem ace(mc:Mt LS B)(h:Good a)(hj:mw a bh c)(t:nA a bh f r m)(cn:a.fs.reverse=f::r)(hs:f.block[f.ak.toNat]? =some (.mk 4 to ea eb bd el))(hd:uI a f r 4 to)(hk:dX a=(1,0,0))(hz:du a ea≠0)(hf:fin {a with steps:=a.steps+1} (⟨bd,0,0,false,Z8,none⟩::{f with ak:=f.ak+1}::r) a.b=some a'):
 au pg B 271 (iQ XT pg (az Tryz.f15) 4 (.int .i64 0)<|eg a') (sF 15 Tryz.f15 [.ptr<|some (270,0)]) (ah (ar++aW (gz a bh c)) 273):=by
 obtain⟨aU,b',e1,rfl⟩:=uJ hf;have mp:=h.mp hj t;obtain⟨p1,p2,p3⟩:=sB t;have n6:=h.fP;obtain⟨op,nn,la⟩:=ea;obtain⟨aF,n2,lb⟩:=eb;have ev:dC {mn a with steps:=a.steps+1} (.mk op nn la)=du a (.mk op nn la):=lZ h.ok.1 _;have uk:dC (mn a) (.mk op nn la)=du a (.mk op nn la):=lZ h.ok.1 _;obtain⟨mE,eE⟩:=E3 (A':={mn a with steps:=a.steps+1}) (k:=0+a.fs.length) (b':=a.b) (g:=⟨bd,0,0,false,Z8,none⟩) mp tD tD ⟨rfl,rfl,rfl,rfl,rfl⟩ ⟨⟨by show(0:Int)<=0;omega,by show(0:Int)<=1000000;omega⟩,rfl⟩ mp.buf;rw[p2] at eE;obtain⟨n1,br,d⟩:=qW mE eE e1;obtain⟨n',cW,d2⟩:=d.again e1;have key:=j4y mc (h.eh hj) qz h.fP h.b6 (sw t hd.ak hs) ((sW h t cn _ hs).trans hk) (h.aw t) h.steps mp d.eh d2.eh mE d.run d2.run (by rw[uk];exact hz);exact sU (a':=⟨a.vars,a.aD,a.l,b',aU.reverse,a.steps+1⟩) rfl rfl (uK h.ok d h.ok.1 ab) d2.eh Gf key
theorem acf(mc:Mt LS B)(h:Good a)(hj:mw a bh c)(t:nA a bh f r m)(cn:a.fs.reverse=f::r)(hs:f.block[f.ak.toNat]? =some (.mk 4 to ea eb bd el))(hd:uI a f r 4 to)(hk:dX a=(1,0,0))(hz:du a ea=0)(hf:fin {a with steps:=a.steps+1} (⟨el,0,0,false,Z8,none⟩::{f with ak:=f.ak+1}::r) a.b=some a'):
 au pg B 271 (iQ XT pg (az Tryz.f15) 4 (.int .i64 0)<|eg a') (sF 15 Tryz.f15 [.ptr<|some (270,0)]) (ah (ar++aW (gz a bh c)) 273):=by
 obtain⟨aU,b',e1,rfl⟩:=uJ hf;have mp:=h.mp hj t;obtain⟨p1,p2,p3⟩:=sB t;have n6:=h.fP;obtain⟨op,nn,la⟩:=ea;obtain⟨aF,n2,lb⟩:=eb;have ev:dC {mn a with steps:=a.steps+1} (.mk op nn la)=du a (.mk op nn la):=lZ h.ok.1 _;have uk:dC (mn a) (.mk op nn la)=du a (.mk op nn la):=lZ h.ok.1 _;obtain⟨mE,eE⟩:=E3 (A':={mn a with steps:=a.steps+1}) (k:=0+a.fs.length) (b':=a.b) (g:=⟨el,0,0,false,Z8,none⟩) mp tD tD ⟨rfl,rfl,rfl,rfl,rfl⟩ ⟨⟨by show(0:Int)<=0;omega,by show(0:Int)<=1000000;omega⟩,rfl⟩ mp.buf;rw[p2] at eE;obtain⟨n1,br,d⟩:=qW mE eE e1;obtain⟨n',cW,d2⟩:=d.again e1;have key:=j4n mc (h.eh hj) qz h.fP h.b6 (sw t hd.ak hs) ((sW h t cn _ hs).trans hk) (h.aw t) h.steps mp d.eh d2.eh mE d.run d2.run (by rw[uk];exact hz);exact sU (a':=⟨a.vars,a.aD,a.l,b',aU.reverse,a.steps+1⟩) rfl rfl (uK h.ok d h.ok.1 ab) d2.eh Gf key
theorem acg(mc:Mt LS B)(h:Good a)(hj:mw a bh c)(t:nA a bh f r m)(cn:a.fs.reverse=f::r)(hs:f.block[f.ak.toNat]? =some (.mk 5 to ea eb bd el))(hd:uI a f r 5 to)(hk:dX a=(1,0,0))(hz:0<kF (du a ea))(hf:fin {a with steps:=a.steps+1} (⟨bd,0,kF (du a ea) - 1,false,Z8,none⟩::{f with ak:=f.ak+1}::r) a.b=some a'):
 au pg B 271 (iQ XT pg (az Tryz.f15) 4 (.int .i64 0)<|eg a') (sF 15 Tryz.f15 [.ptr<|some (270,0)]) (ah (ar++aW (gz a bh c)) 273):=by
 obtain⟨aU,b',e1,rfl⟩:=uJ hf;have mp:=h.mp hj t;obtain⟨p1,p2,p3⟩:=sB t;have n6:=h.fP;obtain⟨op,nn,la⟩:=ea;obtain⟨aF,n2,lb⟩:=eb;have ev:dC {mn a with steps:=a.steps+1} (.mk op nn la)=du a (.mk op nn la):=lZ h.ok.1 _;have uk:dC (mn a) (.mk op nn la)=du a (.mk op nn la):=lZ h.ok.1 _;have h8:=Nc<|du a<|.mk op nn la;obtain⟨mE,eE⟩:=E3 (A':={mn a with steps:=a.steps+1}) (k:=0+a.fs.length) (b':=a.b) (g:=⟨bd,0,kF (du a<|.mk op nn la) - 1,false,Z8,none⟩) mp tD tD ⟨rfl,rfl,rfl,rfl,rfl⟩ ⟨⟨by show 0<=kF _ - 1;omega,by show kF _ - 1<=1000000;omega⟩,rfl⟩ mp.buf;rw[p2] at eE;obtain⟨n1,br,d⟩:=qW mE eE e1;obtain⟨n',cW,d2⟩:=d.again e1;rw[←uk] at mE d hz h8;have key:=j5t mc (h.eh hj) qz h.fP h.b6 (sw t hd.ak hs) ((sW h t cn _ hs).trans hk) (h.aw t) h.steps mp d.eh d2.eh mE d.run d2.run ⟨hz,h8⟩;exact sU (a':=⟨a.vars,a.aD,a.l,b',aU.reverse,a.steps+1⟩) rfl rfl (uK h.ok d h.ok.1 ab) d2.eh Gf key
theorem ach(mc:Mt LS B)(h:Good a)(hj:mw a bh c)(t:nA a bh f r m)(cn:a.fs.reverse=f::r)(hs:f.block[f.ak.toNat]? =some (.mk 5 to ea eb bd el))(hd:uI a f r 5 to)(hk:dX a=(1,0,0))(hz:¬(0<kF (du a ea)))(hf:fin {a with steps:=a.steps+1} ({f with ak:=f.ak+1}::r) a.b=some a'):
 au pg B 271 (iQ XT pg (az Tryz.f15) 4 (.int .i64 0)<|eg a') (sF 15 Tryz.f15 [.ptr<|some (270,0)]) (ah (ar++aW (gz a bh c)) 273):=by
 obtain⟨aU,b',e1,rfl⟩:=uJ hf;have mp:=h.mp hj t;obtain⟨p1,p2,p3⟩:=sB t;have n6:=h.fP;obtain⟨op,nn,la⟩:=ea;obtain⟨aF,n2,lb⟩:=eb;have ev:dC {mn a with steps:=a.steps+1} (.mk op nn la)=du a (.mk op nn la):=lZ h.ok.1 _;have uk:dC (mn a) (.mk op nn la)=du a (.mk op nn la):=lZ h.ok.1 _;obtain⟨n',cW,d⟩:=qW mp p2 e1;have key:=j5o mc (h.eh hj) qz h.fP h.b6 (sw t hd.ak hs) ((sW h t cn _ hs).trans hk) (h.aw t) h.steps mp d.eh (by rw[uk];omega) d.run;exact sU (a':=⟨a.vars,a.aD,a.l,b',aU.reverse,a.steps+1⟩) rfl rfl (uK h.ok d h.ok.1 ab) d.eh Gg key
theorem adS(mc:Mt LS B)(h:Good a)(hj:mw a bh c)(t:nA a bh f r m)(cn:a.fs.reverse=f::r)(hs:f.block[f.ak.toNat]? =some (.mk 7 to ea eb bd el))(hd:uI a f r 7 to)(hk:dX a=(1,0,0))(hf:fin {a with steps:=a.steps+1} (⟨bd,0,0,true,a.l,some el⟩::{f with ak:=f.ak+1}::r) (a.b++[[]])=some a'):
 au pg B 271 (iQ XT pg (az Tryz.f15) 4 (.int .i64 0)<|eg a') (sF 15 Tryz.f15 [.ptr<|some (270,0)]) (ah (ar++aW (gz a bh c)) 273):=by
 obtain⟨aU,b',e1,rfl⟩:=uJ hf;have mp:=h.mp hj t;obtain⟨p1,p2,p3⟩:=sB t;have n6:=h.fP;obtain⟨op,nn,la⟩:=ea;obtain⟨aF,n2,lb⟩:=eb;have ev:dC {mn a with steps:=a.steps+1} (.mk op nn la)=du a (.mk op nn la):=lZ h.ok.1 _;have uk:dC (mn a) (.mk op nn la)=du a (.mk op nn la):=lZ h.ok.1 _;have h6:a.b.length<7:=by have:=h.b6;omega
 obtain⟨mE,eE⟩:=E3 (A':={mn a with steps:=a.steps+1}) (k:=0+a.fs.length) (b':=a.b++[[]]) (g:=⟨bd,0,0,true,a.l,some el⟩) mp tD tD ⟨rfl,rfl,rfl,rfl,rfl⟩ ⟨⟨by show(0:Int)<=0;omega,by show(0:Int)<=1000000;omega⟩,h.ok.1⟩<|NL mp.buf h6;rw[p2] at eE;obtain⟨n1,br,d⟩:=qW mE eE e1;obtain⟨n',cW,d2⟩:=d.again e1;rw[←WV h.ok.1] at mE d;have key:=j7 mc (h.eh hj) qz h.fP h.b6 (sw t hd.ak hs) ((sW h t cn _ hs).trans hk) (h.aw t) h.steps mp d.eh d2.eh mE d.run d2.run h6;exact sU (a':=⟨a.vars,a.aD,a.l,b',aU.reverse,a.steps+1⟩) rfl rfl (uK h.ok d h.ok.1 ab) d2.eh Gf key
theorem adT(mc:Mt LS B)(h:Good a)(hj:mw a bh c)(t:nA a bh f r m)(cn:a.fs.reverse=f::r)(hs:f.block[f.ak.toNat]? =some (.mk 6 to ea eb bd el))(hd:uI a f r 6 to)(hk:dX a=(1,0,0)){fb ol:List St}{fa ft:Int}{fo:Bool}{kept:List Int}{r':List Fr}(z7:below (f::r)=some (⟨fb,fa,ft,fo,kept,some ol⟩,r'))(hf:fin {a with l:=kept,steps:=a.steps+1} (⟨ol,0,0,false,Z8,none⟩::r') a.b.dropLast=some a'):
 au pg B 271 (iQ XT pg (az Tryz.f15) 4 (.int .i64 0)<|eg a') (sF 15 Tryz.f15 [.ptr<|some (270,0)]) (ah (ar++aW (gz a bh c)) 273):=by
 obtain⟨aU,b',e1,rfl⟩:=uJ hf;have mp:=h.mp hj t;obtain⟨p1,p2,p3⟩:=sB t;have n6:=h.fP;obtain⟨op,nn,la⟩:=ea;obtain⟨aF,n2,lb⟩:=eb;have ev:dC {mn a with steps:=a.steps+1} (.mk op nn la)=du a (.mk op nn la):=lZ h.ok.1 _;have uk:dC (mn a) (.mk op nn la)=du a (.mk op nn la):=lZ h.ok.1 _;obtain⟨hr,x8⟩:=hd.ag6 rfl _ _ z7;have PV:∃Yc,below ({f with ak:=f.ak+1}::r)=some ((⟨fb,Yc,ft,fo,kept,some ol⟩:Fr),r'):=by
  rw[S8 (f1:={f with ak:=f.ak+1}) (f:=f) (r:=r) rfl];rw[S8 (f1:=f) (f:=f) rfl] at z7;by_cases c:f.bV=true
  ·rw[if_pos c] at z7 ⊢;injection z7 with z7
   injection z7 with g1 g2
   subst g1;subst g2;exact⟨_,rfl⟩
  ·rw[if_neg c] at z7 ⊢;exact⟨_,z7⟩
 obtain⟨Yc,PV⟩:=PV;obtain⟨_,hw⟩:=M9 (0+a.fs.length) _ _ tD p2;obtain⟨i,w1,w2,w3,w4⟩:=hw _ _ PV;have hi:1<=i:=by
  cases i with
  |zero=>exact absurd w4.symm (by rw[List.take_zero];exact hr)
  |succ i=>omega
 have QM:kept.length=8:=(mp.nT _<|List.mem_of_getElem? w3).2;obtain⟨y0,y1,y2,y3,y4,y5,y6,y7,rfl⟩:=len8 QM;have iq:((i:Int)).toNat=i:=by omega
 obtain⟨mE,eE⟩:=E3 (A':={mn a with steps:=a.steps+1,x0:=y0,x1:=y1,x2:=y2,x3:=y3,x4:=y4,x5:=y5,x6:=y6,x7:=y7}) (k:=i) (b':=a.b.dropLast) (g:=⟨ol,0,0,false,Z8,none⟩) mp tD tD ⟨rfl,rfl,rfl,rfl,rfl⟩ ⟨⟨by show(0:Int)<=0;omega,by show(0:Int)<=1000000;omega⟩,rfl⟩<|NM mp.buf x8;rw[w4] at eE;obtain⟨n1,br,d⟩:=qW mE eE e1;obtain⟨n',cW,d2⟩:=d.again e1;have hn:i+1<=1000:=by omega
 rw[←iq] at mE d w3;have key:=j6 (wi:=(i:Int)) mc (h.eh hj) qz h.fP h.b6 (sw t hd.ak hs) ((sW h t cn _ hs).trans hk) (h.aw t) h.steps mp d.eh d2.eh mE d.run d2.run w1 ⟨by omega,by omega⟩ w3 x8;exact sU (a':=⟨a.vars,a.aD,[y0,y1,y2,y3,y4,y5,y6,y7],b',aU.reverse,a.steps+1⟩) rfl rfl (uK h.ok d2 rfl (by have:=d.le;omega)) d2.eh Gf key
end
end zx
end
section
open Go Go.Rn Go.RowKit Go.Proofs
namespace qA
open ch fT eX ij eO cG dj cQ di fW fD gH gP gV gi gj hJ iA iB iR jc jV ki kO jW fO iz mY nL lR oJ mf vH nM zx
variable {L:bO}
noncomputable section
structure Oz (a:dE):Prop where
 pG:Good a
 top:a.fs=[]\/∃f r s,a.fs.reverse=f::r/\0<=f.ak/\f.block[f.ak.toNat]? =some s
structure Ib (a:dE):Prop where
 pG:Good a
 ask:dX a=(1,0,0)
 top:∃f r kind to ea eb bd el,a.fs.reverse=f::r/\f.block[f.ak.toNat]? =some (.mk kind to ea eb bd el)/\uI a f r kind to
structure Jp (a:dE):Prop where
 pG:Good a
 ask:∃v,dX a=(2,v,0)
 top:∃f r kind to ea eb bd el,a.fs.reverse=f::r/\0<=f.ak/\f.block[f.ak.toNat]? =some (.mk kind to ea eb bd el)/\0<=to/\to<8
section
variable {B:aJ} {a a':dE} {bh:List Fr} {c:Nat}
theorem aci(mc:Mt LS B)(h:Ib a)(hj:mw a bh c)(hs:qk a=some a'):
 au pg B 271 (iQ XT pg (az Tryz.f15) 4 (.int .i64 0)<|eg a') (sF 15 Tryz.f15 [.ptr<|some (270,0)]) (ah (ar++aW (gz a bh c)) 273):=by
 obtain⟨hg,hk,f,r,kind,to,ea,eb,bd,el,cn,hb,hd⟩:=h;obtain⟨m,t⟩:=Oy (bh:=bh) cn;unfold qk at hs;rw[cn] at hs;simp only[hb] at hs;by_cases c1:kind=1
 ·subst c1;rw[if_pos rfl] at hs;exact adP mc hg hj t cn hb hd hk hs
 rw[if_neg c1] at hs;by_cases c2:kind=2
 ·subst c2;rw[if_pos rfl] at hs;exact adQ mc hg hj t cn hb hd hk hs
 rw[if_neg c2] at hs;by_cases c3:kind=3
 ·subst c3;rw[if_pos rfl] at hs;exact adR mc hg hj t cn hb hd hk hs
 rw[if_neg c3] at hs;by_cases c4:kind=4
 ·subst c4;rw[if_pos rfl] at hs;by_cases z:du a ea=0
  ·rw[if_neg fun q=>q z] at hs;exact acf mc hg hj t cn hb hd hk z hs
  ·rw[if_pos z] at hs;exact ace mc hg hj t cn hb hd hk z hs
 rw[if_neg c4] at hs;by_cases c5:kind=5
 ·subst c5;rw[if_pos rfl] at hs;by_cases z:0<kF (du a ea)
  ·rw[if_pos z] at hs;exact acg mc hg hj t cn hb hd hk z hs
  ·rw[if_neg z] at hs;exact ach mc hg hj t cn hb hd hk z hs
 rw[if_neg c5] at hs;by_cases c6:kind=6
 ·subst c6;rw[if_pos rfl] at hs;split at hs
  ·rename_i e;exact adT mc hg hj t cn hb hd hk e hs
  ·cases hs
 rw[if_neg c6] at hs;by_cases c7:kind=7
 ·subst c7;rw[if_pos rfl] at hs;exact adS mc hg hj t cn hb hd hk hs
 rw[if_neg c7] at hs;cases hs
theorem adU(mc:Mt LS B)(h:Jp a)(hj:mw a bh c){x:Int}(hs:nq a x=some a'):
 au pg B 271 (iQ XT pg (az Tryz.f42) 4 (.int .i64 0)<|eg a') (sF 42 Tryz.f42 [.ptr<|some (270,0),.int .i64 x]) (ah (ar++aW (gz a bh c)) 273):=by
 obtain⟨hg,⟨v,hk⟩,f,r,kind,to,ea,eb,bd,el,cn,h0,hb,t0,t8⟩:=h;obtain⟨m,t⟩:=Oy (bh:=bh) cn;have k2:kind=2:=by
  have hk:=hk;unfold dX at hk;rw[cn] at hk;simp only[hb] at hk;split at hk
  ·injection hk with q;exact absurd q ab
  split at hk
  ·injection hk with q;exact absurd q ab
  split at hk
  ·rename_i q;exact q.1
  ·injection hk with q;exact absurd q ab
 subst k2;unfold nq at hs;rw[cn] at hs;simp only[hb] at hs;obtain⟨aU,b',e1,rfl⟩:=uJ hs;have mp:=hg.mp hj t;obtain⟨p1,p2,p3⟩:=sB t;have n6:=hg.fP;obtain⟨n',cW,d⟩:=qW (mp.ig (i:=to) (z:=x)) p2 e1;have ha:=(sW hg t cn _ hb).trans hk;obtain⟨op,nn,la⟩:=ea;obtain⟨aF,n2,lb⟩:=eb;have key:=jA mc (hg.eh hj) qz hg.fP hg.b6 (sw t h0 hb) ha (hg.aw t) hg.steps mp d.eh t0 t8 mp.ig d.run;exact sU (a':=⟨a.vars,a.aD,a.l.set to.toNat x,b',aU.reverse,a.steps+1⟩) (NS hg.ok.1 t0 t8) rfl (uK hg.ok d (by rw[List.length_set];exact hg.ok.1) ab) d.eh Gg key
theorem adV(mc:Mt [lY,iJ,jC,kK,lV] B)(h:Oz a)(hj:mw a bh c):
 au pg B 271 (iQ XT pg (az Tryz.f14) 4 (BA<|dX a)<|eg a) (sF 14 Tryz.f14 [.ptr<|some (270,0)]) (ah (ar++aW (gz a bh c)) 273):=by
 have key:∃o,mB (a.fs++bh) a.fs.length o/\nK (mn a) (iE (a.fs++bh) a.fs.length) a.b o=dX a:=by
  rcases h.top with e|⟨f,r,s,cn,h0,hb⟩
  ·refine⟨none,.inl ⟨by rw[e];rfl,rfl⟩,?_⟩;unfold dX;rw[e];rfl
  ·obtain⟨m,t⟩:=Oy (bh:=bh) cn;exact⟨some s,sw t h0 hb,sW h.pG t cn s hb⟩
 obtain⟨o,h1,h2⟩:=key;have hm:=h.pG.eh hj;have H:=UL mc hm h.pG.fP h.pG.b6 h1;rw[h2] at H;refine sU (a':=a) rfl rfl h.pG.ok hm (by rw[List.take_left])<|Kf ab (fun _ _ _ _ q=>q) H
end
open Classical in
def F1(a:dE)(rest:List AV):Option<|AV×dE:=if rest=[]/\Ib a then(qk a).map fun a'=>(.int .i64 0,a') else none
open Classical in
def zy(a:dE)(rest:List AV):Option<|AV×dE:=match rest with
 |[.int .i64 x]=>if Jp a then(nq a x).map fun a'=>(.int .i64 0,a') else none
 |_=>none
open Classical in
def Kg(a:dE)(rest:List AV):Option<|AV×dE:=if rest=[]/\Oz a then some (BA<|dX a,a) else none
def V9:FuncId×KE:=(15,.tok 4<|gU eg F1)
def WW:FuncId×KE:=(42,.tok 4<|gU eg zy)
theorem Vr(hP:bR pg):aY LS:=adO hP<|M6 hP<|CN hP<|Fg hP<|H9 hP<|LX hP<|Sf hP<|adK hP<|aca hP<|aaZ hP<|aaU hP<|aaV hP dc
theorem Fh{a:dE}{bh:List Fr}{c:Nat}:∀p∈gz a bh c,p.1<273:=fun p hp=>by simp only[gz,List.mem_cons,List.not_mem_nil,or_false] at hp;rcases hp with rfl|rfl|rfl<;>(show _<273;simp only;omega)
theorem acj(hP:bR pg)(h:aY L):aY<|V9::L:=by
 refine NB yj hP gS qZ jQ ji me lQ h (Vr hP) Tryz.func15 (body:=aS pg 15 []) aV aV fun v rest y v' e=>?_;obtain⟨a,a',rfl,e1,rfl⟩:=HZ e;unfold F1 at e1;split at e1
 ·rename_i q;obtain⟨rfl,hd⟩:=q;cases hs:qk a with
  |none=>rw[hs] at e1;cases e1
  |some a2=>
   rw[hs] at e1;injection e1 with e1;injection e1 with e2 e3
   subst e2;subst e3;refine⟨aM.1 aV,fun L hx=>?_⟩;generalize hv:eg a=v at hx;cases hx with
   |tF b hb bh c hj=>have:=uC _ _ hv;subst this;exact⟨273,by omega,aM.1 aV,Fh,fun B mc=>aci mc hd hj hs⟩
 ·cases e1
theorem adW(hP:bR pg)(h:aY L):aY<|WW::L:=by
 refine NB yj hP gS qZ jQ ji me lQ h (Vr hP) Tryz.func42 (body:=aS pg 42 []) aV aV fun v rest y v' e=>?_;obtain⟨a,a',rfl,e1,rfl⟩:=HZ e;unfold zy at e1;split at e1
 ·rename_i x;split at e1
  ·rename_i hd;cases hs:nq a x with
   |none=>rw[hs] at e1;cases e1
   |some a2=>
    rw[hs] at e1;injection e1 with e1;injection e1 with e2 e3
    subst e2;subst e3;refine⟨aM.1 aV,fun L hx=>?_⟩;generalize hv:eg a=v at hx;cases hx with
    |tF b hb bh c hj=>have:=uC _ _ hv;subst this;exact⟨273,by omega,aM.1 aV,Fh,fun B mc=>adU mc hd hj hs⟩
  ·cases e1
 ·cases e1
end
end qA
end
section
open Go Go.Rn Go.RowKit Go.Proofs
namespace DO
open ch cQ fT eX ij cG eO dj jW ki gj hJ mf nM qA gi jV
variable {S:Type} {rest:List AV} {f:S->List AV->Option AV} {enc:S->AV}
noncomputable section
def oy(enc:S->AV)(f:S->List AV->Option AV)(v:AV)(rest:List AV):Option AV:=(gU enc (fun a r=>(f a r).map fun y=>(y,a)) v rest).map (·.1)
theorem Ie(inj:∀a b,enc a=enc b->a=b){a:S}:oy enc f (enc a) rest=f a rest:=by unfold oy;rw[AB inj];cases f a rest<;>rfl
theorem HN{v:AV}{y:AV}(h:oy enc f v rest=some y):∃a,v=enc a/\f a rest=some y:=by
 unfold oy at h;cases q:gU enc (fun a r=>(f a r).map fun y=>(y,a)) v rest with
 |none=>rw[q] at h;cases h
 |some p=>
  rw[q] at h;injection h with h;subst h
  obtain⟨y,v'⟩:=p;obtain⟨a,a',e1,e2,e3⟩:=HZ q;refine⟨a,e1,?_⟩;cases q2:f a rest with
  |none=>rw[q2] at e2;cases e2
  |some z=>rw[q2] at e2;injection e2 with e2;injection e2 with e2 _;exact congrArg some e2
def Vs:FuncId×KE:=(14,.raw<|oK 4<|oy eg fun a rest=>(Kg a rest).map (·.1))
theorem aa5(hP:bR pg){L:bO}(h:aY L):aY<|Vs::L:=by
 refine Ic yj hP gS qZ jQ ji me lQ h (M6 hP<|CN hP<|Fg hP<|H9 hP<|LX hP dc) Tryz.func14 (body:=aS pg 14 []) aV aV fun v rest y e=>?_;obtain⟨a,rfl,e1⟩:=HN e;unfold Kg at e1;split at e1
 ·rename_i q;obtain⟨rfl,hd⟩:=q;injection e1 with e1
  have e1:BA (dX a)=y:=e1;subst e1;refine⟨aM.1 aV,fun L hx=>?_⟩;generalize hv:eg a=v at hx;cases hx with
  |tF b hb bh c hj=>have:=uC _ _ hv;subst this;exact⟨273,by omega,aM.1 aV,Fh,fun B mc=>adV mc hd hj⟩
 ·cases e1
end
end DO
end
section
open Go Go.Rn Go.RowKit Go.Proofs
namespace vI
open ch eO fT ij PQ lR tJ gi
variable {r d:List<|Int×Int} {fz:kN} {q:Int×Int} {i:Nat} {o0:List<|Nat×Option ae}
noncomputable section
theorem zA:l9 2 aX:=⟨fun _=>rfl,fun _=>rfl⟩
theorem W0(x:Int×Int):(aX x).length=2/\(aX x).all AV.bQ=true:=⟨rfl,rfl⟩
def allM(ms:bg):List<|Int×Int:=ms.foldl fj []
theorem LY{ms:bg}(hd:dU d):dU<|ms.foldl fj d:=by
 induction ms generalizing d with
 |nil=>exact hd
 |cons m ms ih=>exact ih<|dU.merge hd
def alN:FuncId×KE:=yo
def aft:FuncId×KE:=(62,.raw fun _ _ _=>tq 63)
abbrev LA:bO:=[yo,aft]
def KA:List Item:=[.code<|aS pg 43 [1,1,1,0,1,0,0],.inLoop<|aS pg 43 [1,1,1,0,1,0,0],.inBlock 0,.code<|aS pg 43 [1,1,1,1]]
def pS(n:Nat)(cap:bW)(i:Nat):List<|Nat×AV:=[(3,.map<|some 279),(15,.slice (some (271,0)) n cap),(16,.int .i64<|.ofNat n),(17,.int .i64<|.ofNat i)]
abbrev kr:Nat:=max Tryz.f43.ntmps 1
def nV(n:Nat)(cap:bW)(i:Nat):AF:=⟨43,aE<|pS n cap i,kr,KA,[],none⟩
abbrev oA(ms:bg)(cap:bW)(d:List<|Int×Int):List<|Nat×Option ae:=ar++aW (dL ms cap++[(279,bz d)])
abbrev cR(ms:bg)(cap:bW)(d:List<|Int×Int):AS:=ah (oA ms cap d) 280
abbrev gQ(B:aJ)(lo:Nat)(ms:bg)(fr:AF)(s:AS):Prop:=au pg B lo (iQ XT pg (az Tryz.f43) 3 (ax aX<|dP<|allM ms)<|bI ms) fr s
abbrev RA(ms:bg):AV->AS->Prop:=fun y s=>oH 3 (ax aX<|dP<|allM ms) (bI ms) s y
section
variable {B:aJ} {ms:bg} {cap:bW}
theorem JN{lo bw nx:Nat}{l0 l:List<|Nat×AV}{o:List<|Nat×Option ae}(h1:lo<=nx)(h2:nx<=bw)(h3:bw<top)(hs:∀r:Nat->Nat,(∀k,k<nx->r k=k)->(∀k,top<=k->r k=k)->∀p∈l,p.1<top/\∃x,(p.1,x)∈l0/\jz fz r x p.2)(ho:∀r:Nat->Nat,(∀k,k<nx->r k=k)->(∀k,top<=k->r k=k)->∀p∈o,p.1<nx/\∀y,p.2=some y->y.jO=true/\∃x,(p.1,some x)∈o0/\fK x y/\eZ fz r x y)(hz:∀p∈fz,nx<=p.1/\p.1<top/\FU p.2.1=some p.2.2/\∃N t z,(p.1,some<|.cells N t z)∈o0/\∀i x,p.2.2[i]? =some x->i<N/\cellAt t z i=some x/\x.bQ=true/\x.cM=true):hI FU lo bw l0 o0 l o nx:=by
 let r:Nat->Nat:=fun k=>if k<nx\/top<=k then k else max k bw
 have r1:∀k,k<nx->r k=k:=fun k hk=>if_pos<|.inl hk;have r2:∀k,top<=k->r k=k:=fun k hk=>if_pos<|.inr hk;refine⟨fz,r,fun k hk=>r1 k ab,fun k a b=>?_,r2,by omega,hs r r1 r2,fun p hp=>?_,fun p hp q hq _ _ e=>?_,fun p hp=>?_,fun p hp q hq _ e=>?_⟩
 ·show bw<=(if _ then _ else _)/\(if _ then _ else _)<top;rw[if_neg ab];omega
 ·obtain⟨a,b⟩:=ho r r1 r2 p hp;exact⟨by omega,fun y hy=>by obtain⟨c1,x,c2,c3,c4⟩:=b y hy;rw[r1 _ a];exact⟨by omega,c1,x,c2,c3,c4⟩⟩
 ·have a:=(ho r r1 r2 p hp).1;have b:=(ho r r1 r2 q hq).1;rw[r1 _ a,r1 _ b] at e;exact e
 ·exact(hz p hp).2
 ·have a:=(ho r r1 r2 q hq).1;rw[r1 _ a] at e;have:=(hz p hp).1;omega
theorem UO{fz:kN}{r:Nat->Nat}(hr:∀k,k<279->r k=k):∀{l:List AV},(∀x∈l,∃i,x= .map (some i)/\i<279)->kG fz r l l
 |[],_=>trivial
 |x::l,h=>⟨by obtain⟨i,rfl,hi⟩:=h x List.mem_cons_self;exact(ba.map<|hr i hi).z,UO hr fun y hy=>h y<|List.mem_cons_of_mem _ hy⟩
theorem OA(h:de ms){r:Nat->Nat}(hr:∀k,k<279->r k=k):∀p∈dL ms cap,p.1<279/\p.2.jO=true/\eZ fz r p.2 p.2:=fun p hp=>by
 refine⟨MZ h p hp,?_⟩;have h7:=h.1.2;rcases List.mem_cons.1 hp with rfl|hp
 ·exact⟨rfl,eZ.cells (l:=[.slice (some (271,0)) ms.length cap]) (m:=[.slice (some (271,0)) ms.length cap]) (by show 1<=top;unfold top;omega) ⟨(ba.slice<|hr 271 ab).z,trivial⟩ rfl⟩
 rcases List.mem_cons.1 hp with rfl|hp
 ·refine⟨rfl,?_⟩;have e:((jP ms.length).map gZ).flatten=jP ms.length:=Fw _;show eZ fz r (.cells ((jP ms.length).map gZ).flatten.length (Tr.fill ((jP ms.length).map gZ).flatten 0 .nil) [])<|.cells ((jP ms.length).map gZ).flatten.length (Tr.fill ((jP ms.length).map gZ).flatten 0 .nil) [];rw[e];refine eZ.cells (by rw[M4];unfold top;omega) (UO hr fun x hx=>?_)<|M3 _;obtain⟨i,hi,rfl⟩:=List.mem_map.1 hx;exact⟨_,rfl,by have:=List.mem_range.1 hi;omega⟩
 ·obtain⟨_,_,m,e⟩:=HI hp;rw[e];exact⟨rfl,fun _ _ _ _ _ k=>uF k⟩
theorem Dt{r:Nat->Nat}(hr:∀k,k<270->r k=k):∀p∈ar,p.1<270/\∀y,p.2=some y->y.jO=true/\eZ fz r y y:=fun p hp=>by
 have h1:(ar.all fun p=>Nat.blt p.1 270&&(match p.2 with|some x=>x.jO|none=>true))=true:=by as_aux_lemma=>kernel_rfl
 obtain⟨a,b⟩:=and_true.1<|List.all_eq_true.1 h1 p hp;refine⟨(blt_eq _ _).mp a,fun y hy=>?_⟩;rw[hy] at b;exact⟨b,(EX (nx:=270) hr bY p hp y hy).z⟩
theorem Pg(h:de ms){nx:Nat}(cv:279<=nx){r:Nat->Nat}(hr:∀k,k<nx->r k=k){more less:List<|Nat×ae}(hm:∀p∈more,p.1<nx/\p.2.jO=true/\∃x,(p.1,x)∈less/\fK x p.2/\eZ fz r x p.2):
 ∀p∈ar++aW (dL ms cap++more),p.1<nx/\∀y,p.2=some y->y.jO=true/\∃x,(p.1,some x)∈ar++aW (dL ms cap++less)/\fK x y/\eZ fz r x y:=fun p hp=>by
 rcases List.mem_append.1 hp with hp|hp
 ·obtain⟨a,b⟩:=Dt (fz:=fz) (fun k hk=>hr k ab) p hp;refine⟨by omega,fun y hy=>?_⟩;obtain⟨c,d⟩:=b y hy;exact⟨c,y,List.mem_append_left _ (by rw[←hy];exact hp),fK.refl _,d⟩
 ·rw[wF] at hp;obtain⟨q,hq,rfl⟩:=List.mem_map.1 hp;rcases List.mem_append.1 hq with hq|hq
  ·obtain⟨a,b,c⟩:=OA h (fz:=fz) (fun k hk=>hr k ab) q hq;refine⟨by show q.1<nx;omega,fun y hy=>?_⟩;cases hy;exact⟨b,_,List.mem_append_right _ (by rw[wF];exact List.mem_map.2 ⟨q,List.mem_append_left _ hq,rfl⟩),fK.refl _,c⟩
  ·obtain⟨a,b,x,c,d,e⟩:=hm q hq;refine⟨a,fun y hy=>?_⟩;cases hy;exact⟨b,x,List.mem_append_right _ (by rw[wF];exact List.mem_map.2 ⟨(q.1,x),List.mem_append_right _ c,rfl⟩),d,e⟩
theorem QN(mc:Mt LA B)(h:de ms)(H:gQ B 271 ms (nV ms.length cap 0)<|cR ms cap [])(k:(((pS ms.length cap 0).map (fun q=>some q.2)=(pS ms.length cap 0).map (fun q=>some q.2))/\((ar++aW (dL ms cap++[(279,xL [])])).map (fun q=>q.2)=(ar++aW (dL ms cap++[(279,xL [])])).map (fun q=>q.2))/\hI FU 271 280 (pS ms.length cap 0) (ar++aW (dL ms cap++[(279,xL [])])) (pS ms.length cap 0) (oA ms cap []) 280/\(nV ms.length cap 0=nV ms.length cap 0/\cR ms cap []=cR ms cap []))=
 wp (oV LA) 900 6 (.fr 43 kr (cO 43 []) (dt [.ptr<|some (270,0)])<|ah (ar++aW (dL ms cap)) 279) (.st 14<|.rn (pS ms.length cap 0) (ar++aW (dL ms cap++[(279,xL [])])) (pS ms.length cap 0) (oA ms cap []) 280 280 .no) (az Tryz.f43) (fun y s _=>RA ms y s) (fun fr s1 _=>fr=nV ms.length cap 0/\s1=cR ms cap []):=by as_aux_lemma=>kernel_rfl):
 gQ B 271 ms ⟨43,dt [.ptr<|some (270,0)],kr,(cO 43 []),[],none⟩ (ah (ar++aW (dL ms cap)) 279):=
 B4 mc (fun fr s1 _ hC=>by obtain⟨rfl,rfl⟩:=hC;exact H) _ ⟨rfl,rfl,JN (fz:=[]) ab ab dZ (fun r hr ht p hp=>by
  simp only[pS,List.mem_cons,List.not_mem_nil,or_false] at hp;rcases hp with rfl|rfl|rfl|rfl
  ·exact⟨by unfold top;omega,_,mi 0,(ba.map<|hr 279 ab).z⟩
  ·exact⟨by unfold top;omega,_,mi 1,(ba.slice<|hr 271 ab).z⟩
  ·exact⟨by unfold top;omega,_,mi 2,vi⟩
  ·exact⟨by unfold top;omega,_,mi 3,vi⟩) (fun r hr ht=>Pg h ab hr fun p hp=>by
   rw[List.mem_singleton] at hp;subst hp;exact⟨by show 279<280;omega,rfl,_,List.mem_singleton.2 rfl,Od,Pb List.nodup_nil⟩) (fun p hp=>by cases hp),rfl,rfl⟩ k bY
theorem PT(mc:Mt LA B)(hd:dU d)(hm:dU<|ms.getD i [])(H:gQ B 271 ms (nV ms.length cap<|i+1)<|cR ms cap<|fj d<|ms.getD i [])(hi:272+i<279)(hk:pC 270 dF dT (cR ms cap d)=true:=by as_aux_lemma=>kernel_rfl)(ha:Nat.blt 279 (dA 270 dF dT<|cR ms cap d).nx=true:=by as_aux_lemma=>kernel_rfl)(hb:Nat.blt (272+i) (dA 270 dF dT<|cR ms cap d).nx=true:=by as_aux_lemma=>kernel_rfl)(g1:(dA 270 dF dT<|cR ms cap d).h.get 279=some (bz d):=by as_aux_lemma=>kernel_rfl)(g2:(dA 270 dF dT<|cR ms cap d).h.get (272+i)=some (bz<|ms.getD i []):=by as_aux_lemma=>kernel_rfl)(k:(aZ pg (sp LA) FU 6 (.fn 61) [.map<|some 279,.map<|some<|272+i] (cR ms cap d)= .ok (.tuple []) (Qz 279 (272+i) d (ms.getD i [])<|cR ms cap d)/\((pS ms.length cap<|i+1).map (fun q=>some q.2)=(pS ms.length cap<|i+1).map (fun q=>some q.2))/\((oA ms cap<|fj d<|ms.getD i []).map (fun q=>q.2)=(oA ms cap<|fj d<|ms.getD i []).map (fun q=>q.2))/\(nV ms.length cap (i+1)=nV ms.length cap (i+1)/\cR ms cap (fj d<|ms.getD i [])=cR ms cap (fj d<|ms.getD i [])))=
 wp (oV LA) 900 6 (.fr 43 kr KA (aE<|pS ms.length cap i)<|cR ms cap d) (.st 9<|.rg<|.go 2<|.cu (.tuple []) (Qz 279 (272+i) d (ms.getD i [])<|cR ms cap d)<|.en<|.st 3<|.ls (pS ms.length cap<|i+1) (oA ms cap<|fj d<|ms.getD i []) 280 .no) (az Tryz.f43) (fun y s _=>RA ms y s) (fun fr s1 _=>fr=nV ms.length cap (i+1)/\s1=cR ms cap (fj d<|ms.getD i [])):=by as_aux_lemma=>kernel_rfl):
 gQ B 271 ms (nV ms.length cap i) (cR ms cap d):=
 B4 mc (fun fr s1 _ hC=>by obtain⟨rfl,rfl⟩:=hC;exact H) _ ⟨Ur (P:=pg) (sp:=sp LA) aV hk ab ha hb Gh Gh g1 g2 hd hm,rfl,rfl,rfl,rfl⟩ k bY
theorem adZ{l:bg}(h:i<l.length):l.getD i []∈l:=by rw[List.getD_eq_getElem?_getD,List.getElem?_eq_getElem h];exact List.getElem_mem h
theorem M5(mc:Mt LA B)(h:de ms)(hd:dU d)(hi:i<ms.length)(H:gQ B 271 ms (nV ms.length cap<|i+1)<|cR ms cap<|fj d<|ms.getD i []):gQ B 271 ms (nV ms.length cap i)<|cR ms cap d:=by
 have hm:=h.2 _<|adZ hi;have h7:=h.1.2;rcases(FQ h.1).imp (fun q=>fP ⟨h.1.1,q⟩) id with(⟨m0,rfl⟩|⟨m0,m1,rfl⟩|⟨m0,m1,m2,rfl⟩|⟨m0,m1,m2,m3,rfl⟩|⟨m0,m1,m2,m3,m4,rfl⟩|⟨m0,m1,m2,m3,m4,m5,rfl⟩)|⟨m0,m1,m2,m3,m4,m5,m6,rfl⟩
 all_goals
  simp only[List.length_cons,List.length_nil] at hi;obtain rfl|rfl|rfl|rfl|rfl|rfl|rfl:i=0\/i=1\/i=2\/i=3\/i=4\/i=5\/i=6:=by omega
  all_goals first|(exfalso;omega)|exact PT mc hd hm H ab
def KN:List Item:=[.code<|aS pg 43 [1,1,1,1,1,0,1,0,0,1],.inLoop<|aS pg 43 [1,1,1,1,1,0,1,0,0],.inBlock 2,.code<|aS pg 43 [1,1,1,1,1,1]]
def fp(t:Tr AV):AF:=⟨43,t,kr,.code (aS pg 43 [1,1,1,1,1,0,1,0,0,0])::KN,[],none⟩
def fF(t:Tr AV)(v:AV)(b:Bool):AF:=⟨43,(t.put 27<|some v).put 28<|some<|.bool b,kr,KN,[],none⟩
def oL(ms:bg)(cap:bW)(D left:List<|Int×Int)(cur:Option<|AV×AV):List<|Nat×ae:=dL ms cap++[(279,.iw),(280,.iter 279 (cq D) false (cq left) cur)]
def oO:List (Int×Int)->List (Nat×ae)
 |[]=>[]
 |p::r=>[(281,aA aX<|p::r)]
def aiq:List (Int×Int)->AV
 |[]=>.slice none 0<|.known 0
 |p::r=>.slice (some (281,0)) (p::r).length<|.aq (p::r).length 2
def nO:List (Int×Int)->Nat
 |[]=>281
 |_::_=>282
def hU(ms:bg)(cap:bW)(D left:List<|Int×Int)(cur:Option<|AV×AV)(out:List<|Int×Int):AS:=ah (ar++aW (oL ms cap D left cur++oO out))<|nO out
def ep(out:List<|Int×Int):List<|Nat×AV:=[(3,.map<|some 279),(6,aiq out),(25,.map<|some 279),(26,.ptr<|some (280,0))]
def uh:Oper:=(opsOf<|aS pg 43 [1,1,1,1,1,0,1,0,0,0]).toList.headD default
def tO:Array Oper:=opsOf<|aS pg 43 [1,1,1,1,1,0,1,0,0,0]
def tj:List Oper:=(opsOf<|aS pg 43 [1,1,1,1,1,0,1,0,0,0]).toList.tail
def nh:Env:=xS pg 270 dT dF LA 281 true
theorem asks(t:Tr AV):Ap (fp t)=some (.tmp 26,uh,tO,tj,KN):=by kernel_rfl
def fy(ms:bg)(cap:bW)(D out:List<|Int×Int):AS:=ah (ar++(aW (dL ms cap++[(279,bz D)])++((280,none)::aW (oO out))))<|nO out
theorem uW{p:bg->Prop}(h:de ms)(h1:∀m0,p [m0])(h2:∀m0 m1,p [m0,m1])(h3:∀m0 m1 m2,p [m0,m1,m2])(h4:∀m0 m1 m2 m3,p [m0,m1,m2,m3])(h5:∀m0 m1 m2 m3 m4,p [m0,m1,m2,m3,m4])(h6:∀m0 m1 m2 m3 m4 m5,p [m0,m1,m2,m3,m4,m5])(h7:∀m0 m1 m2 m3 m4 m5 m6,p [m0,m1,m2,m3,m4,m5,m6]):p ms:=by
 rcases(FQ h.1).imp (fun q=>fP ⟨h.1.1,q⟩) id with(⟨m0,rfl⟩|⟨m0,m1,rfl⟩|⟨m0,m1,m2,rfl⟩|⟨m0,m1,m2,m3,rfl⟩|⟨m0,m1,m2,m3,m4,rfl⟩|⟨m0,m1,m2,m3,m4,m5,rfl⟩)|⟨m0,m1,m2,m3,m4,m5,m6,rfl⟩
 ·exact h1 _
 ·exact h2 _ _
 ·exact h3 _ _ _
 ·exact h4 _ _ _ _
 ·exact h5 _ _ _ _ _
 ·exact h6 _ _ _ _ _ _
 ·exact h7 _ _ _ _ _ _ _
section
variable {D left out:List<|Int×Int} {cur:Option<|AV×AV} {k v:Int}
theorem Wa(h:de ms):qU (fp<|aE<|ep out) (.tmp 26) (hU ms cap D left cur out)= .ok (280,.iter 279 (cq D) false (cq left) cur) (hU ms cap D left cur out):=by revert h;intro h;cases out<;>(refine uW (p:=fun ms=>qU (fp<|aE<|ep _) (.tmp 26) (hU ms cap D left cur _)= .ok (280,.iter 279 (cq D) false (cq left) cur) (hU ms cap D left cur _)) h ?_ ?_ ?_ ?_ ?_ ?_ ?_<;>intros<;>kernel_rfl)
theorem ag7(h:de ms){Yw:aK}:np pg Yw (fp<|aE<|ep out) 280 279 (cq D) false uh tO tj KN (hU ms cap D left cur out)= .ok (fF (aE<|ep out) (.tuple [.bool false]) false) (fy ms cap D out):=by cases out<;>(refine uW (p:=fun ms=>np pg Yw (fp<|aE<|ep _) 280 279 (cq D) false uh tO tj KN (hU ms cap D left cur _)= .ok (fF (aE<|ep _) (.tuple [.bool false]) false) (fy ms cap D _)) h ?_ ?_ ?_ ?_ ?_ ?_ ?_<;>intros<;>kernel_rfl)
theorem isA(h:de ms){Yw:aK}:nr pg Yw (fp<|aE<|ep out) 280 (.iter 279 (cq D) false (cq r)<|some (.int .i64 k,.int .i64 v)) uh tO tj KN (.tuple [.bool true,.int .i64 k,.int .i64 v]) (hU ms cap D left cur out)= .ok (fF (aE<|ep out) (.tuple [.bool true,.int .i64 k,.int .i64 v]) true) (hU ms cap D r (some (.int .i64 k,.int .i64 v)) out):=by cases out<;>(refine uW (p:=fun ms=>nr pg Yw (fp<|aE<|ep _) 280 (.iter 279 (cq D) false (cq r)<|some (.int .i64 k,.int .i64 v)) uh tO tj KN (.tuple [.bool true,.int .i64 k,.int .i64 v]) (hU ms cap D left cur _)= .ok (fF (aE<|ep _) (.tuple [.bool true,.int .i64 k,.int .i64 v]) true) (hU ms cap D r (some (.int .i64 k,.int .i64 v)) _)) h ?_ ?_ ?_ ?_ ?_ ?_ ?_<;>intros<;>kernel_rfl)
end
def CM(l0:List<|Nat×AV)(o0:List<|Nat×Option ae)(n:Nat):xO:=fun fr s _=>(fr.fn=43/\fr.nt=kr/\fr.todo=(fp .nil).todo/\fr.defers=[]/\fr.round=none)/\l0.map (fun q=>fr.tmps.get q.1)=l0.map (fun q=>some q.2)/\o0.map (fun q=>s.h.get q.1)=o0.map (fun q=>q.2)/\s.nx=n
abbrev MX(l0:List<|Nat×AV)(o0:List<|Nat×Option ae)(n:Nat):Prop:=((fp .nil).fn=43/\(fp .nil).nt=kr/\(fp .nil).todo=(fp .nil).todo/\(fp .nil).defers=[]/\(fp .nil).round=none)/\(l0.map (fun q=>some q.2)=l0.map (fun q=>some q.2))/\(o0.map (fun q=>q.2)=o0.map (fun q=>q.2))/\n=n
theorem mx{l0:List<|Nat×AV}{n:Nat}:MX l0 o0 n:=⟨⟨rfl,rfl,rfl,rfl,rfl⟩,rfl,rfl,rfl⟩
theorem Ng{α β:Type}{f g:α->β}:∀{l:List α},l.map f=l.map g->∀p∈l,f p=g p
 |a::l,h,p,hp=>by
  simp only[List.map_cons,List.cons.injEq] at h;rcases List.mem_cons.1 hp with rfl|hp
  ·exact h.1
  ·exact Ng h.2 p hp
def kV(a len:Nat):List<|Nat×AV:=[(3,.map<|some 279),(6,.slice (some (a,0)) len<|.aq len 2),(25,.map<|some 279),(26,.ptr<|some (280,0))]
def oM(ms:bg)(cap:bW)(D left:List<|Int×Int)(cur:Option<|AV×AV):List<|Nat×Option ae:=ar++aW (oL ms cap D left cur)
theorem Vu{l:List<|Int×Int}:qv<|cq l:=fun p hp=>by obtain⟨q,_,rfl⟩:=List.mem_map.1 hp;exact⟨_,_,rfl⟩
section
variable {D left out:List<|Int×Int} {k v:Int}
theorem Vv(h:de ms):∀p∈oM ms cap D left (some (.int .i64 k,.int .i64 v)),p.1<281/\∀y,p.2=some y->Fix 281 (oM ms cap D left<|some (.int .i64 k,.int .i64 v)) y:=fun p hp=>by
 have hp':=hp;unfold oM oL at hp;rcases List.mem_append.1 hp with hp|hp
 ·refine⟨by have:=(Dt (fz:=[]) (r:=id) (fun _ _=>rfl) p hp).1;omega,fun y hy=>.inl ⟨((Dt (fz:=[]) (r:=id) (fun _ _=>rfl) p hp).2 y hy).1,fun r hr _=>((Dt (fun k hk=>hr k ab) p hp).2 y hy).2⟩⟩
 ·rw[wF] at hp;obtain⟨q,hq,rfl⟩:=List.mem_map.1 hp;rcases List.mem_append.1 hq with hq|hq
  ·obtain⟨a,b,_⟩:=OA h (fz:=[]) (r:=id) (fun _ _=>rfl) q hq;refine⟨by show q.1<281;omega,fun y hy=>?_⟩;cases hy;exact .inl ⟨b,fun r hr _=>(OA h (fun k hk=>hr k ab) q hq).2.2⟩
  ·simp only[List.mem_cons,List.not_mem_nil,or_false] at hq;rcases hq with rfl|rfl
   ·exact⟨by show 279<281;omega,fun y hy=>by cases hy;exact .inr<|.inl rfl⟩
   ·refine⟨by show 280<281;omega,fun y hy=>?_⟩;cases hy;refine .inr (.inr ⟨279,_,_,_,_,rfl,by omega,?_,Vu,Vu,fun x hx=>?_⟩)
    ·unfold oM oL;exact List.mem_append_right _ (by rw[wF];exact List.mem_map.2 ⟨(279,.iw),List.mem_append_right _ List.mem_cons_self,rfl⟩)
    ·cases hx;intro p hp;rw[List.mem_singleton] at hp;subst hp;exact⟨_,_,rfl⟩
theorem ag8{p:Int×Int}{cur:Option<|AV×AV}:hU ms cap D left cur (p::r)=ah (oM ms cap D left cur++[(281,some<|aA aX<|p::r)]) 282:=by unfold hU oM oO nO;rw[wF,wF,List.map_append, ←List.append_assoc];rfl
theorem Yd(h:de ms){a n:Nat}(ha:281<=a/\a<290)(hn:n<290)(hl:(q::r).length<=1000000)(H:gQ B 281 ms (fp<|aE<|ep<|q::r)<|hU ms cap D left (some (.int .i64 k,.int .i64 v))<|q::r):
 ∀fr s p,CM (kV a (q::r).length) (oM ms cap D left (some (.int .i64 k,.int .i64 v))++[(a,some<|aA aX<|q::r)]) n fr s p->gQ B 281 ms fr s:=by
 rintro ⟨_,t,_,_,_,_⟩ s _ ⟨⟨rfl,rfl,rfl,rfl,rfl⟩,c1,c2,rfl⟩;rw[ag8] at H;have c2:=Ng c2;refine au.mv (a:=a) (x:=aA aX<|q::r) (os:=oM ms cap D left<|some (.int .i64 k,.int .i64 v)) (l0:=kV a (q::r).length) (l:=ep<|q::r) (Nat.le_trans gS ab) dZ ⟨ha.1,by unfold top;omega⟩ dZ (Ng c1) (fun p hp=>c2 p<|List.mem_append_left _ hp) (c2 _<|List.mem_append_right _<|List.mem_singleton.2 rfl) (fun p hp=>(Vv h p hp).1) (fun p hp=>?_) (fun f r1 r2 r3 p hp=>?_) (fun p hp=>(Vv h p hp).2) ⟨rfl,fun f hf=>?_⟩ H
 ·simp only[ep,List.mem_cons,List.not_mem_nil,or_false] at hp;rcases hp with rfl|rfl|rfl|rfl
  ·show 3<top;unfold top;omega
  ·show 6<top;unfold top;omega
  ·show 25<top;unfold top;omega
  ·show 26<top;unfold top;omega
 ·simp only[ep,List.mem_cons,List.not_mem_nil,or_false] at hp;rcases hp with rfl|rfl|rfl|rfl
  ·exact⟨_,mi 0,(ba.map<|r1 279 ab).z⟩
  ·exact⟨_,mi 1,(ba.slice r3).z⟩
  ·exact⟨_,mi 2,(ba.map<|r1 279 ab).z⟩
  ·exact⟨_,mi 3,(ba.ptr<|r1 280 ab).z⟩
 ·exact(kL.aA (fun x=>⟨rfl,rfl⟩)<|E4 hl).z
end
section
variable {D left out:List<|Int×Int} {k v:Int}
theorem O7(mc:Mt LA B)(h:de ms)(H:gQ B 281 ms (fp<|aE<|ep [(k,v)])<|hU ms cap D left (some (.int .i64 k,.int .i64 v)) [(k,v)]):gQ B 281 ms (fF (aE<|ep []) (.tuple [.bool true,.int .i64 k,.int .i64 v]) true)<|hU ms cap D left (some (.int .i64 k,.int .i64 v)) []:=by have hC:=Yd (cap:=cap) (D:=D) (left:=left) h (q:=(k,v)) (r:=[]) (a:=282) (n:=283) ab ab (by simp) H;clear H;have key:∀x,x=wp nh 900 6 (.fr 43 kr KN (fF (aE<|ep []) (.tuple [.bool true,.int .i64 k,.int .i64 v]) true).tmps<|hU ms cap D left (some (.int .i64 k,.int .i64 v)) []) (.st 10<|.cut .no) (az Tryz.f43) (fun y s _=>RA ms y s) (CM (kV 282 1) (oM ms cap D left (some (.int .i64 k,.int .i64 v))++[(282,some<|aA aX [(k,v)])]) 283)->x->gQ B 281 ms (fF (aE<|ep []) (.tuple [.bool true,.int .i64 k,.int .i64 v]) true) (hU ms cap D left (some (.int .i64 k,.int .i64 v)) []):=fun x e hx=>wp_cut (E:=nh) eQ rfl bH mc.2.2.1 mc.2.2.2 (Nat.le_trans gS ab) rfl mc.1 hC 900 _ hx e bU;refine key (MX (kV 282 1) (oM ms cap D left (some (.int .i64 k,.int .i64 v))++[(282,some<|aA aX [(k,v)])]) 283) ?_ mx;clear key hC;refine uW (p:=fun ms=>MX (kV 282 1) (oM ms cap D left (some (.int .i64 k,.int .i64 v))++[(282,some<|aA aX [(k,v)])]) 283=wp nh 900 6 (.fr 43 kr KN (fF (aE<|ep []) (.tuple [.bool true,.int .i64 k,.int .i64 v]) true).tmps<|hU ms cap D left (some (.int .i64 k,.int .i64 v)) []) (.st 10<|.cut .no) (az Tryz.f43) (fun y s _=>RA ms y s) (CM (kV 282 1) (oM ms cap D left (some (.int .i64 k,.int .i64 v))++[(282,some<|aA aX [(k,v)])]) 283)) h ?_ ?_ ?_ ?_ ?_ ?_ ?_<;>intros<;>kernel_rfl
end
section
variable {D left out:List<|Int×Int} {k v:Int}
abbrev AX(l:List<|Int×Int)(c:Int×Int)(X:Prop):Prop:=l.length=l.length/\l.length=l.length/\some (aA aX l)=some (aA aX l)/\some (ae.cells (aX c).length (Tr.fill (aX c) 0 .nil) [])=some (ae.cells (aX c).length (Tr.fill (aX c) 0 .nil) [])/\(∀x,(aX x).length=2/\(aX x).all AV.bQ=true)/\2*(l.length+1)*16+4096*16<=room/\(l.length+1)*2<=Rn.top/\X
theorem O8(mc:Mt LA B)(h:de ms)(hl:(q::r).length<100000)(H:gQ B 281 ms (fp<|aE<|ep<|q::(r++[(k,v)]))<|hU ms cap D left (some (.int .i64 k,.int .i64 v))<|q::(r++[(k,v)])):gQ B 281 ms (fF (aE<|ep<|q::r) (.tuple [.bool true,.int .i64 k,.int .i64 v]) true)<|hU ms cap D left (some (.int .i64 k,.int .i64 v))<|q::r:=by
 have e1:(q::(r++[(k,v)])).length=(q::r).length+1:=by simp
 have hC:=Yd (cap:=cap) (D:=D) (left:=left) h (q:=q) (r:=r++[(k,v)]) (a:=283) (n:=284) ab ab ab H;clear H;have key:∀x,x=wp nh 900 6 (.fr 43 kr KN (fF (aE<|ep<|q::r) (.tuple [.bool true,.int .i64 k,.int .i64 v]) true).tmps<|hU ms cap D left (some (.int .i64 k,.int .i64 v))<|q::r) (.st 6<|.rg<|.go 5<|.ap (Int×Int) aX (q::r) (k,v)<|.go 1<|.en<|.st 3<|.cut .no) (az Tryz.f43) (fun y s _=>RA ms y s) (CM (kV 283 ((q::r)++[(k,v)]).length) (oM ms cap D left (some (.int .i64 k,.int .i64 v))++[(283,some<|aA aX<|(q::r)++[(k,v)])]) 284)->x->gQ B 281 ms (fF (aE<|ep<|q::r) (.tuple [.bool true,.int .i64 k,.int .i64 v]) true) (hU ms cap D left (some (.int .i64 k,.int .i64 v))<|q::r):=fun x e hx=>wp_cut (E:=nh) eQ rfl bH mc.2.2.1 mc.2.2.2 (Nat.le_trans gS ab) rfl mc.1 hC 900 _ hx e bU;refine key (AX (q::r) (k,v)<|MX (kV 283 ((q::r)++[(k,v)]).length) (oM ms cap D left (some (.int .i64 k,.int .i64 v))++[(283,some<|aA aX<|(q::r)++[(k,v)])]) 284) ?_<|Qq aX (q::r) (k,v) (K:=2) (nf:=16) W0 (by unfold room;omega) dZ<|mx (l0:=kV 283 ((q::r)++[(k,v)]).length) (o0:=oM ms cap D left (some (.int .i64 k,.int .i64 v))++[(283,some<|aA aX<|(q::r)++[(k,v)])]) (n:=284);clear key hC;refine uW (p:=fun ms=>AX (q::r) (k,v) (MX (kV 283 ((q::r)++[(k,v)]).length) (oM ms cap D left (some (.int .i64 k,.int .i64 v))++[(283,some<|aA aX<|(q::r)++[(k,v)])]) 284)=wp nh 900 6 (.fr 43 kr KN (fF (aE<|ep<|q::r) (.tuple [.bool true,.int .i64 k,.int .i64 v]) true).tmps<|hU ms cap D left (some (.int .i64 k,.int .i64 v))<|q::r) (.st 6<|.rg<|.go 5<|.ap (Int×Int) aX (q::r) (k,v)<|.go 1<|.en<|.st 3<|.cut .no) (az Tryz.f43) (fun y s _=>RA ms y s) (CM (kV 283 ((q::r)++[(k,v)]).length) (oM ms cap D left (some (.int .i64 k,.int .i64 v))++[(283,some<|aA aX<|(q::r)++[(k,v)])]) 284)) h ?_ ?_ ?_ ?_ ?_ ?_ ?_<;>intros<;>kernel_rfl
end
def kX(v:AV):AF:=⟨43,aE [(2,v)],kr,(cO 43 [1,1,1,1,1,1,1,1]),[],none⟩
def oE(ms:bg)(cap:bW):List<|Nat×Option ae:=ar++aW (dL ms cap++[])
theorem air(mc:Mt LA B)(h:de ms)(hc:oC ms.length cap):gQ B 281 ms (kX<|ax aX<|dP<|allM ms)<|ah (oE ms cap) 281:=lW (E:=nh) eQ rfl bH mc.2.2.1 mc.2.2.2 900 (.rt 1 .no) (T:=oH 3 (ax aX<|dP<|allM ms) (bI ms) (ah (oE ms cap) 281)<|ax aX<|dP<|allM ms) (by unfold oE;rw[List.append_nil];exact Ke 281 h hc _)
abbrev En(ms:bg)(cap:bW)(v v':AV)(more:List<|Nat×ae)(bw:Nat):Prop:=(([(2,v)]:List<|Nat×AV).map (fun q=>some q.2)=([(2,v)]:List<|Nat×AV).map (fun q=>some q.2))/\((ar++aW (dL ms cap++more)).map (fun q=>q.2)=(ar++aW (dL ms cap++more)).map (fun q=>q.2))/\hI FU 281 bw [(2,v)] (ar++aW (dL ms cap++more)) [(2,v')] (oE ms cap) 281/\(kX v'=kX v'/\ah (oE ms cap) 281=ah (oE ms cap) 281)
section
variable {D left out:List<|Int×Int} {k v:Int}
theorem O9(mc:Mt LA B)(h:de ms)(H:gQ B 281 ms (kX<|ax aX [])<|ah (oE ms cap) 281):gQ B 281 ms (fF (aE<|ep []) (.tuple [.bool false]) false)<|fy ms cap D []:=by have key:∀x,x=wp nh 900 6 (.fr 43 kr KN (fF (aE<|ep []) (.tuple [.bool false]) false).tmps<|fy ms cap D []) (.st 4<|.rg<|.go 1<|.cu (.tuple []) (fy ms cap D [])<|.en<|.st 2<|.rn [(2,.slice none 0<|.known 0)] (oE ms cap) [(2,ax aX [])] (oE ms cap) 281 281 .no) (az Tryz.f43) (fun y s _=>RA ms y s) (fun fr s1 _=>fr=kX (ax aX [])/\s1=ah (oE ms cap) 281)->x->gQ B 281 ms (fF (aE<|ep []) (.tuple [.bool false]) false) (fy ms cap D []):=fun x e hx=>wp_cut (E:=nh) eQ rfl bH mc.2.2.1 mc.2.2.2 (Nat.le_trans gS ab) rfl mc.1 mK 900 _ hx e bU;refine key (aZ pg (sp LA) FU 6 (.fn 62) [.slice none 0<|.known 0,.func (.func 63) [] []] (fy ms cap D [])= .ok (.tuple []) (fy ms cap D [])/\En ms cap (.slice none 0<|.known 0) (ax aX []) [] 281) ?_ ⟨acn (P:=pg) (sp:=sp LA) aV,rfl,rfl,JN (fz:=[]) ab ab dZ (fun r hr ht p hp=>by rw[List.mem_singleton] at hp;subst hp;exact⟨by show 2<top;unfold top;omega,_,mi 0,It⟩) (fun r hr ht=>Pg h ab hr fun p hp=>by cases hp) (fun p hp=>by cases hp),rfl,rfl⟩;clear key H;refine uW (p:=fun ms=>(aZ pg (sp LA) FU 6 (.fn 62) [.slice none 0<|.known 0,.func (.func 63) [] []] (fy ms cap D [])= .ok (.tuple []) (fy ms cap D [])/\En ms cap (.slice none 0<|.known 0) (ax aX []) [] 281)=wp nh 900 6 (.fr 43 kr KN (fF (aE<|ep []) (.tuple [.bool false]) false).tmps<|fy ms cap D []) (.st 4<|.rg<|.go 1<|.cu (.tuple []) (fy ms cap D [])<|.en<|.st 2<|.rn [(2,.slice none 0<|.known 0)] (oE ms cap) [(2,ax aX [])] (oE ms cap) 281 281 .no) (az Tryz.f43) (fun y s _=>RA ms y s) (fun fr s1 _=>fr=kX (ax aX [])/\s1=ah (oE ms cap) 281)) h ?_ ?_ ?_ ?_ ?_ ?_ ?_<;>intros<;>kernel_rfl
abbrev QO(ms:bg)(cap:bW)(D out:List<|Int×Int):AS:=fm 281 (some<|aA aX<|dP out)<|aT 281<|fy ms cap D out
abbrev Ye(ms:bg)(cap:bW)(D out:List<|Int×Int):Pl:=.st 4<|.rg<|.go 1<|.cu (.tuple []) (QO ms cap D out)<|.en<|.st 2<|.rn [(2,.slice (some (281,0)) out.length<|.aq out.length 2)] (ar++aW (dL ms cap++[(281,aA aX<|dP out)])) [(2,ax aX<|dP out)] (oE ms cap) 282 281 .no
theorem Pa(mc:Mt LA B)(h:de ms)(hl:(q::r).length<100000)(nd:((q::r).map (·.1)).Nodup)(H:gQ B 281 ms (kX<|ax aX<|dP<|q::r)<|ah (oE ms cap) 281):gQ B 281 ms (fF (aE<|ep<|q::r) (.tuple [.bool false]) false)<|fy ms cap D<|q::r:=by
 have key:∀x,x=wp nh 900 6 (.fr 43 kr KN (fF (aE<|ep<|q::r) (.tuple [.bool false]) false).tmps<|fy ms cap D<|q::r) (Ye ms cap D<|q::r) (az Tryz.f43) (fun y s _=>RA ms y s) (fun fr s1 _=>fr=kX (ax aX<|dP<|q::r)/\s1=ah (oE ms cap) 281)->x->gQ B 281 ms (fF (aE<|ep<|q::r) (.tuple [.bool false]) false) (fy ms cap D<|q::r):=fun x e hx=>wp_cut (E:=nh) eQ rfl bH mc.2.2.1 mc.2.2.2 (Nat.le_trans gS ab) rfl mc.1 mK 900 _ hx e bU;have hz:∀fz:kN,∀f:Nat->Nat,(∀k,top<=k->f k=k)->(281,nm ((dP<|q::r).map aX).flatten,((dP<|q::r).map aX).flatten)∈fz->jz fz f (.slice (some (281,0)) (q::r).length<|.aq (q::r).length 2) (ax aX<|dP<|q::r):=fun fz f hf hm=>by have:=Fa (cap:=.aq (q::r).length 2) hm hf rfl;rw[Aj] at this;exact this
 have hg:(fy ms cap D<|q::r).nx=282/\(fy ms cap D<|q::r).h.get 281=some (aA aX<|q::r):=⟨rfl,by refine uW (p:=fun ms=>(fy ms cap D<|q::r).h.get 281=some (aA aX<|q::r)) h ?_ ?_ ?_ ?_ ?_ ?_ ?_<;>intros<;>kernel_rfl⟩;refine key (aZ pg (sp LA) FU 6 (.fn 62) [.slice (some (281,0)) (q::r).length<|.aq (q::r).length 2,.func (.func 63) [] []] (fy ms cap D<|q::r)= .ok (.tuple []) (QO ms cap D<|q::r)/\En ms cap (.slice (some (281,0)) (q::r).length<|.aq (q::r).length 2) (ax aX<|dP<|q::r) [(281,aA aX<|dP<|q::r)] 282) ?_ ⟨aba (P:=pg) (sp:=sp LA) aV (by rw[hg.1];rfl) Gh hg.2 ab nd,rfl,rfl,JN (fz:=[(281,nm ((dP<|q::r).map aX).flatten,((dP<|q::r).map aX).flatten)]) ab ab dZ (fun r' hr ht p hp=>by
  rw[List.mem_singleton] at hp;subst hp;exact⟨by show 2<top;unfold top;omega,_,mi 0,hz _ _ ht<|List.mem_singleton.2 rfl⟩) (fun r hr ht=>Pg h ab hr fun p hp=>by cases hp) (fun p hp=>by
  rw[List.mem_singleton] at hp;subst hp;exact⟨Nat.le_refl _,Fb zA (by rw[Aj];unfold top;omega) 281 dZ<|List.mem_append_right _ (by rw[wF];exact List.mem_map.2 ⟨(281,_),List.mem_append_right _ List.mem_cons_self,rfl⟩)⟩),rfl,rfl⟩
 clear key H hg hz;refine uW (p:=fun ms=>(aZ pg (sp LA) FU 6 (.fn 62) [.slice (some (281,0)) (q::r).length<|.aq (q::r).length 2,.func (.func 63) [] []] (fy ms cap D<|q::r)= .ok (.tuple []) (QO ms cap D<|q::r)/\En ms cap (.slice (some (281,0)) (q::r).length<|.aq (q::r).length 2) (ax aX<|dP<|q::r) [(281,aA aX<|dP<|q::r)] 282)=wp nh 900 6 (.fr 43 kr KN (fF (aE<|ep<|q::r) (.tuple [.bool false]) false).tmps<|fy ms cap D<|q::r) (Ye ms cap D<|q::r) (az Tryz.f43) (fun y s _=>RA ms y s) (fun fr s1 _=>fr=kX (ax aX<|dP<|q::r)/\s1=ah (oE ms cap) 281)) h ?_ ?_ ?_ ?_ ?_ ?_ ?_<;>intros<;>kernel_rfl
end
theorem abb{D out:List<|Int×Int}(hk:dU D)(hp:out.Perm D):dP out=dP D:=TP hk ((Cm out).trans hp)<|Nf out
theorem abc{D out:List<|Int×Int}(mc:Mt LA B)(h:de ms)(hc:oC ms.length cap)(hD:D=allM ms)(hk:dU D)(hp:out.Perm D)(hl:D.length<100000):gQ B 281 ms (fF (aE<|ep out) (.tuple [.bool false]) false)<|fy ms cap D out:=by
 have e:dP out=dP (allM ms):=by rw[abb hk hp,hD]
 have H:=air mc h hc;rw[←e] at H;cases out with
 |nil=>exact O9 mc h (by rw[show ax aX ([]:List<|Int×Int)=ax aX (dP []) by unfold dP;rw[List.mergeSort_nil]];exact H)
 |cons q r=>exact Pa mc h (by rw[hp.length_eq];exact hl) ((hp.map (·.1)).nodup_iff.2 hk) H
theorem ag9{D:List<|Int×Int}(mc:Mt LA B)(h:de ms)(hc:oC ms.length cap)(hD:D=allM ms)(hk:dU D)(hl:D.length<100000):∀(n:Nat) (left out:List<|Int×Int) (cur:Option<|AV×AV),left.length=n->D.Perm (out++left)->
 gQ B 281 ms (fp<|aE<|ep out) (hU ms cap D left cur out):=by
 have n281:∀(D left:List<|Int×Int) cur out,281<=(hU ms cap D left cur out).nx:=fun _ _ _ out=>by
  show 281<=nO out;cases out with
  |nil=>exact Nat.le_refl _
  |cons _ _=>show 281<=282;omega
 intro n;induction n with
 |zero=>intro left out cur hn hp;have kQ:=List.eq_nil_of_length_eq_zero hn;subst kQ;rw[List.append_nil] at hp;exact au.next mc.2.2.1 mc.2.2.2 (asks _) (n281 _ _ _ _) (Wa h) (fun _=>⟨_,_,ag7 h,abc mc h hc hD hk hp.symm hl⟩) (fun x r h=>by cases h)
 |succ n ih=>
  intro left out cur hn hp;refine au.next mc.2.2.1 mc.2.2.2 (asks _) (n281 _ _ _ _) (Wa h) (fun h=>by rw[CP h] at hn;cases hn) fun x r hx=>?_;obtain⟨p,l',rfl,rfl,B7⟩:=HH hx;have hlen:l'.length=n:=by have:=B7.length_eq;rw[List.length_cons] at this;omega
  have fe:D.Perm<|(out++[p])++l':=by rw[List.append_assoc];exact hp.trans<|B7.append_left out
  refine⟨_,_,isA h,?_⟩;have key:=ih l' (out++[p]) (some (.int .i64 p.1,.int .i64 p.2)) hlen fe;cases out with
  |nil=>exact O7 mc h key
  |cons q r=>exact O8 mc h (by have:=hp.length_eq;rw[List.length_append] at this;omega) key
def uo:AF:=⟨43,aE [(3,.map<|some 279)],kr,[.code<|aS pg 43 [1,1,1,1,0],.code<|aS pg 43 [1,1,1,1,1]],[],none⟩
theorem ais{D:List<|Int×Int}(mc:Mt LA B)(h:de ms)(H:gQ B 271 ms (fp<|aE<|ep [])<|hU ms cap D D none []):gQ B 271 ms uo<|cR ms cap D:=by have key:∀x,x=wp (oV LA) 900 6 (.fr 43 kr uo.todo uo.tmps<|cR ms cap D) (.st 7<|.cut .no) (az Tryz.f43) (fun y s _=>RA ms y s) (fun fr s1 _=>fr=fp (aE<|ep [])/\s1=hU ms cap D D none [])->x->gQ B 271 ms uo (cR ms cap D):=fun x e hx=>B4 mc (fun fr s1 _ hC=>by obtain⟨rfl,rfl⟩:=hC;exact H) _ hx e bY;refine key (fp (aE<|ep [])=fp (aE<|ep [])/\hU ms cap D D none []=hU ms cap D D none []) ?_ ⟨rfl,rfl⟩;clear key H;refine uW (p:=fun ms=>(fp (aE<|ep [])=fp (aE<|ep [])/\hU ms cap D D none []=hU ms cap D D none [])=wp (oV LA) 900 6 (.fr 43 kr uo.todo uo.tmps<|cR ms cap D) (.st 7<|.cut .no) (az Tryz.f43) (fun y s _=>RA ms y s) (fun fr s1 _=>fr=fp (aE<|ep [])/\s1=hU ms cap D D none [])) h ?_ ?_ ?_ ?_ ?_ ?_ ?_<;>intros<;>kernel_rfl
abbrev Yf(ms:bg)(cap:bW)(D:List<|Int×Int):Prop:=(([(3,.map<|some 279)]:List<|Nat×AV).map (fun q=>some q.2)=([(3,.map<|some 279)]:List<|Nat×AV).map (fun q=>some q.2))/\((oA ms cap D).map (fun q=>q.2)=(oA ms cap D).map (fun q=>q.2))/\(uo=uo/\cR ms cap D=cR ms cap D)
theorem ait{D:List<|Int×Int}(mc:Mt LA B)(h:de ms)(H:gQ B 271 ms uo<|cR ms cap D):gQ B 271 ms (nV ms.length cap ms.length)<|cR ms cap D:=by have key:∀x,x=wp (oV LA) 900 6 (.fr 43 kr KA (aE<|pS ms.length cap ms.length)<|cR ms cap D) (.st 6<|.ls [(3,.map<|some 279)] (oA ms cap D) 280 .no) (az Tryz.f43) (fun y s _=>RA ms y s) (fun fr s1 _=>fr=uo/\s1=cR ms cap D)->x->gQ B 271 ms (nV ms.length cap ms.length) (cR ms cap D):=fun x e hx=>B4 mc (fun fr s1 _ hC=>by obtain⟨rfl,rfl⟩:=hC;exact H) _ hx e bY;refine key (Yf ms cap D) ?_ ⟨rfl,rfl,rfl,rfl⟩;clear key H;refine uW (p:=fun ms=>Yf ms cap D=wp (oV LA) 900 6 (.fr 43 kr KA (aE<|pS ms.length cap ms.length)<|cR ms cap D) (.st 6<|.ls [(3,.map<|some 279)] (oA ms cap D) 280 .no) (az Tryz.f43) (fun y s _=>RA ms y s) (fun fr s1 _=>fr=uo/\s1=cR ms cap D)) h ?_ ?_ ?_ ?_ ?_ ?_ ?_<;>intros<;>kernel_rfl
theorem go_says(mc:Mt LA B)(h:de ms)(H:gQ B 271 ms (nV ms.length cap 0)<|cR ms cap []):gQ B 271 ms ⟨43,dt [.ptr<|some (270,0)],kr,(cO 43 []),[],none⟩<|ah (ar++aW (dL ms cap)) 279:=by
 rcases(FQ h.1).imp (fun q=>fP ⟨h.1.1,q⟩) id with(⟨m0,rfl⟩|⟨m0,m1,rfl⟩|⟨m0,m1,m2,rfl⟩|⟨m0,m1,m2,m3,rfl⟩|⟨m0,m1,m2,m3,m4,rfl⟩|⟨m0,m1,m2,m3,m4,m5,rfl⟩)|⟨m0,m1,m2,m3,m4,m5,m6,rfl⟩
 all_goals exact QN mc h H
theorem TQ(mc:Mt LA B)(h:de ms)(H:gQ B 271 ms (nV ms.length cap ms.length)<|cR ms cap<|allM ms):∀(r:bg) (i:Nat) (d:List<|Int×Int),i<=ms.length->ms.drop i=r->dU d->r.foldl fj d=allM ms->gQ B 271 ms (nV ms.length cap i) (cR ms cap d)
 |[],i,d,hn,hr,hd,e=>by have hi:ms.length<=i:=List.drop_eq_nil_iff.1 hr;have e:d=allM ms:=e;subst e;rw[Nat.le_antisymm hn hi];exact H
 |m::r,i,d,_,hr,hd,e=>by
  have hi:i<ms.length:=by
   by_cases q:i<ms.length
   ·exact q
   ·rw[List.drop_of_length_le ab] at hr;cases hr
  have hm:ms.getD i []=m:=by have:=congrArg (fun q=>q[0]?) hr;simp only[List.getElem?_drop,List.getElem?_cons_zero,Nat.add_zero] at this;rw[List.getD_eq_getElem?_getD,this];rfl
  have j0:ms.drop (i+1)=r:=by have:=congrArg (List.drop 1) hr;rw[List.drop_drop] at this;exact this
  exact M5 mc h hd hi<|TQ mc h H r (i+1) (fj d<|ms.getD i []) hi j0 (dU.merge hd) (by rw[hm];exact e)
theorem aco(mc:Mt LA B)(h:de ms)(hc:oC ms.length cap)(hl:(allM ms).length<100000):gQ B 271 ms ⟨43,dt [.ptr<|some (270,0)],kr,(cO 43 []),[],none⟩<|ah (ar++aW (dL ms cap)) 279:=
 have hk:dU<|allM ms:=LY List.nodup_nil
 go_says mc h (TQ mc h (ait mc h<|ais mc h<|nM.Kf ab (fun _ _ _ _ q=>q)<|ag9 mc h hc rfl hk hl _ (allM ms) [] none rfl<|List.Perm.refl _) ms 0 [] (Nat.zero_le _) rfl List.nodup_nil rfl)
end
def Ph:bg->List AV->Option AV
 |a,[]=>if(allM a).length<100000 then some (ax aX<|dP<|allM a) else none
 |_,_=>none
open DO
def Pj:FuncId×KE:=(43,.raw<|oK 3<|oy bI Ph)
theorem acp(hP:bR pg)(hs:C5 pg 62 63){L:bO}(h:aY L):aY<|Pj::L:=by
 refine Ic yj hP gS qZ jQ ji me lQ h (Vo hP<|acm dc hs) Tryz.func43 (body:=aS pg 43 []) aV aV fun v rest y e=>?_;obtain⟨a,rfl,e1⟩:=HN e;unfold Ph at e1;split at e1<;>(try split at e1)<;>cases e1;rename_i q;refine⟨aM.1 aV,fun L hx=>?_⟩;generalize hv:bI a=v at hx;cases hx with
 |buf b hb cap hc=>have:=sq _ _ hv;subst this;exact⟨279,by omega,aM.1 aV,MZ hb,fun B mc=>aco mc hb hc q⟩
end
end vI
end
section
open Go Go.Rn Go.RowKit Go.Proofs
namespace zB
open ch fT eX ij mI mA vC xC tL xD eO cG dj B5 cQ di fW fD gH gP gV gi gj hJ iA iB iR jc jV ki kO jW fO iz mf vH nM zx qA
def Du:St->Int| .mk _ t _ _ _ _=>t
def kY:Nat->List St->Prop
 |0,l=>l=[]
 |d+1,l=>l.length<=1000000/\∀s∈l,(1<=fB s/\fB s<=8)/\(0<=Du s/\Du s<8)/\kY d (bF s)/\kY d (bE s)
theorem UP:∀d,kY d []
 |0=>rfl
 |d+1=>⟨Nat.zero_le _,fun s h=>by cases h⟩
def o7:List Fr->Nat
 |[]=>0
 |f::r=>o7 r+(if f.bV=true then 1 else 0)
def vJ:List Fr->Prop
 |[]=>True
 |f::r=>kY (6 - r.length) f.block/\(0<=f.ak/\f.ak<=(f.block.length:Int))/\(0<=f.turns/\f.turns<=7)/\f.kept.length=8/\(f.bV=true->r≠[]/\∃ol,f.other=some ol/\kY (6 - r.length) ol)/\vJ r
structure Inv (st:List Fr) (b:bg):Prop where
 wf:vJ st
 len:b.length=o7 st+1
 buf:de b
theorem ad1{d:Nat}{l:List St}(h:kY d l):l.length<=1000000:=by
 cases d with
 |zero=>have:l=[]:=h;subst this;exact Nat.zero_le _
 |succ d=>exact h.1
def vK:List Fr->Nat
 |[]=>0
 |f::r=>vK r+f.turns.toNat+1
theorem Ew:∀(k:Nat) (st:List Fr) (b:bg),Inv st b->vK st<k->∃aU b',ia k st b=some (aU,b')/\Inv aU b'/\aU.length<=st.length
 |0,_,_,_,h=>by omega
 |k+1,[],b,hi,_=>⟨[],b,rfl,hi,Nat.le_refl _⟩
 |k+1,f::r,b,hi,hm=>by
  obtain⟨⟨h1,h2,h3,h4,h5,h6⟩,hl,hb⟩:=hi;unfold ia;by_cases c1:f.ak<(f.block.length:Int)
  ·rw[if_pos c1];exact⟨_,_,rfl,⟨⟨h1,h2,h3,h4,h5,h6⟩,hl,hb⟩,Nat.le_refl _⟩
  ·rw[if_neg c1];by_cases c2:0<f.turns
   ·rw[if_pos c2];have i2:Inv ({f with ak:=0,turns:=f.turns - 1}::r) b:=⟨⟨h1,⟨by show(0:Int)<=0;omega,by show(0:Int)<=_;omega⟩,⟨by show 0<=f.turns - 1;omega,by show f.turns - 1<=7;omega⟩,h4,h5,h6⟩,hl,hb⟩;by_cases c3:0<(f.block.length:Int)
    ·rw[if_pos c3];exact⟨_,_,rfl,i2,Nat.le_refl _⟩
    ·rw[if_neg c3];exact Ew k _ b i2 (by show vK r+(f.turns - 1).toNat+1<k;have:vK (f::r)=vK r+f.turns.toNat+1:=rfl;omega)
   ·rw[if_neg c2];have fc:vK r<k:=by have:vK (f::r)=vK r+f.turns.toNat+1:=rfl;omega
    have hlen:b.length=o7 r+(if f.bV=true then 1 else 0)+1:=hl;by_cases c4:f.bV=true
    ·rw[if_pos c4];rw[if_pos c4] at hlen;have c5:2<=b.length:=by omega
     rw[if_pos c5];obtain⟨aU,b',e,i,l⟩:=Ew k r (ga b) ⟨h6,by have:=Hi b c5;omega,H8 hb c5⟩ fc;exact⟨aU,b',e,i,by rw[List.length_cons];omega⟩
    ·rw[if_neg c4];rw[if_neg c4] at hlen;obtain⟨aU,b',e,i,l⟩:=Ew k r b ⟨h6,hlen,hb⟩ fc;exact⟨aU,b',e,i,by rw[List.length_cons];omega⟩
theorem NT:∀{st:List Fr},vJ st->vK st<=8*st.length
 |[],_=>Nat.le_refl _
 |f::r,h=>by have:=NT h.2.2.2.2.2;have h3:=h.2.2.1;show vK r+f.turns.toNat+1<=8*(r.length+1);omega
theorem Vx:∀{st:List Fr},vJ st->o7 st+1<=st.length\/o7 st=0
 |[],_=>.inr rfl
 |f::r,h=>by
  rcases Vx h.2.2.2.2.2 with q|q
  ·left;show o7 r+(if f.bV=true then 1 else 0)+1<=r.length+1;split<;>omega
  ·by_cases c:f.bV=true
   ·obtain⟨hr,_⟩:=h.2.2.2.2.1 c;left;show o7 r+(if f.bV=true then 1 else 0)+1<=r.length+1;rw[if_pos c];cases r with
    |nil=>exact absurd rfl hr
    |cons a r=>rw[List.length_cons];omega
   ·right;show o7 r+(if f.bV=true then 1 else 0)=0;rw[if_neg c];exact q
structure mg (a:dE):Prop where
 inv:Inv a.fs.reverse a.b
 l:a.l.length=8
 top:a.fs.reverse=[]\/∃f r,a.fs.reverse=f::r/\f.ak<(f.block.length:Int)
 aD:a.aD.length<=1000
 vars:1<=a.vars/\a.vars<=32
theorem A6{f:Fr}{r:List Fr}(h:vJ<|f::r)(ht:f.ak<(f.block.length:Int)):∃d s,6 - r.length=d+1/\f.block[f.ak.toNat]? =some s/\(1<=fB s/\fB s<=8)/\(0<=Du s/\Du s<8)/\kY d (bF s)/\kY d (bE s):=by
 have h0:=h.2.1.1;have bZ:f.ak.toNat<f.block.length:=by omega
 have hb:=h.1;cases e:6 - r.length with
 |zero=>rw[e] at hb;have:f.block=[]:=hb;rw[this] at bZ;simp at bZ
 |succ d=>rw[e] at hb;obtain⟨q1,q2,q3,q4⟩:=hb.2 _<|List.getElem_mem bZ;exact⟨d,_,rfl,List.getElem?_eq_getElem bZ,q1,q2,q3,q4⟩
theorem Vy:∀{st:List Fr},vJ st->∀f∈st,((0<=f.turns/\f.turns<=1000000)/\f.kept.length=8)/\(0<=f.ak/\f.ak<=1000000)
 |[],_,f,h=>by cases h
 |g::r,h,f,hf=>by
  rcases List.mem_cons.1 hf with rfl|hf
  ·have:=ad1 h.1;have:=h.2.1;have:=h.2.2.1;exact⟨⟨by omega,h.2.2.2.1⟩,by omega⟩
  ·exact Vy h.2.2.2.2.2 f hf
section
variable {a:dE}
theorem mg.fP(h:mg a):a.fs.length<=6:=by
 rw[←List.length_reverse];rcases h.top with e|⟨f,r,e,ht⟩
 ·rw[e];exact Nat.zero_le _
 ·rw[e];have hw:=h.inv.wf;rw[e] at hw;obtain⟨d,_,hd,_⟩:=A6 hw ht;rw[List.length_cons];omega
theorem mg.b6(h:mg a):a.b.length<=6:=by have h6:=h.fP;rw[←List.length_reverse] at h6;have:=h.inv.len;rcases Vx h.inv.wf with q|q<;>omega
theorem mg.pG(h:mg a)(hs:0<=a.steps/\a.steps<=1000000000000):Good a:=by have hw:=Vy h.inv.wf;exact⟨⟨h.l,h.inv.buf,by have:=h.fP;omega,h.aD,h.vars⟩,fun f hf=>(hw f<|List.mem_reverse.2 hf).1,h.fP,h.b6,hs,fun f hf=>(hw f<|List.mem_reverse.2 hf).2⟩
theorem mg.ask(h:mg a)(hs:0<=a.steps/\a.steps<=1000000000000):Oz a:=by
 refine⟨h.pG hs,?_⟩;rcases h.top with e|⟨f,r,e,ht⟩
 ·exact .inl<|List.reverse_eq_nil_iff.1 e
 ·have hw:=h.inv.wf;rw[e] at hw;obtain⟨d,s,_,q,_⟩:=A6 hw ht;exact .inr ⟨f,r,s,e,hw.2.1.1,q⟩
end
theorem Nh:∀{st:List Fr} {g:Fr} {r':List Fr},vJ st->below st=some (g,r')->vJ (g::r')/\g.bV=true/\o7 st=o7 r'+1/\r'.length<st.length
 |[],_,_,_,h=>by cases h
 |f::r,g,r',hw,h=>by
  unfold mf.below at h;by_cases c:f.bV=true
  ·rw[if_pos c] at h;injection h with h;injection h with h1 h2
   subst h1;subst h2;exact⟨hw,c,by show o7 r+(if f.bV=true then 1 else 0)=_;rw[if_pos c],by rw[List.length_cons];omega⟩
  ·rw[if_neg c] at h;obtain⟨a1,a2,a3,a4⟩:=Nh hw.2.2.2.2.2 h;exact⟨a1,a2,by show o7 r+(if f.bV=true then 1 else 0)=_;rw[if_neg c];exact a3,by rw[List.length_cons];omega⟩
theorem wG{a:dE}{st:List Fr}{b:bg}(hl:a.l.length=8)(hg:a.aD.length<=1000)(hv:1<=a.vars/\a.vars<=32)(hi:Inv st b)(hn:st.length<=8):∃a',fin a st b=some a'/\mg a'/\a'.steps=a.steps/\a'.vars=a.vars/\a'.aD=a.aD:=by
 have hm:=NT hi.wf;obtain⟨aU,b',e,i,l⟩:=Ew 1000 st b hi ab;refine⟨{a with fs:=aU.reverse,b:=b'},by unfold fin;rw[e],⟨?_,hl,?_,hg,hv⟩,rfl,rfl,rfl⟩
 ·show Inv aU.reverse.reverse b';rw[List.reverse_reverse];exact i
 ·show aU.reverse.reverse=[]\/∃f r,aU.reverse.reverse=f::r/\_;rw[List.reverse_reverse];exact Cl _ _ _ _ _ e
theorem Hv(b:bg)(v x:Int):(kH b v x).length=b.length:=by
 rcases List.eq_nil_or_concat b with rfl|⟨l,m,rfl⟩
 ·rfl
 ·rw[List.concat_eq_append,Sd,List.length_append,List.length_append];rfl
section
variable {a:dE}
theorem abd(h:mg a):dX a=(1,0,0)\/(∃v,dX a=(2,v,0)/\0<=v/\v<a.vars)\/(∃x,dX a=(3,0,x))\/dX a=(4,0,0):=by
 unfold dX;rcases h.top with e|⟨f,r,e,ht⟩
 ·rw[e];exact .inr<|.inr<|.inl ⟨0,rfl⟩
 ·have hw:=h.inv.wf;rw[e] at hw ⊢;obtain⟨d,⟨kind,to,ea,eb,bd,el⟩,_,q,_⟩:=A6 hw ht;simp only[q]
  repeat' split
  ·exact .inr<|.inr<|.inl ⟨_,rfl⟩
  ·exact .inr<|.inr<|.inr rfl
  ·exact .inr<|.inl ⟨_,rfl,UI h.vars.1⟩
  ·exact .inl rfl
theorem MM(h:mg a)(hs:0<=a.steps/\a.steps<=1000000000000)(hk:dX a=(1,0,0)):Ib a/\∃a',qk a=some a'/\mg a'/\a'.steps=a.steps+1/\a'.vars=a.vars/\a'.aD=a.aD:=by
 rcases h.top with e|⟨f,r,e,ht⟩
 ·exfalso;unfold dX at hk;rw[e] at hk;injection hk with q _;omega
 have hw:=h.inv.wf;have hlen:=h.inv.len;rw[e] at hw hlen;have h6:=h.fP;rw[←List.length_reverse,e,List.length_cons] at h6;obtain⟨d,⟨kind,to,ea,eb,bd,el⟩,hd,q,k1,k2,k3,k4⟩:=A6 hw ht;have k1:1<=kind/\kind<=8:=k1;have k2:0<=to/\to<8:=k2;have k3:kY d bd:=k3;have k4:kY d el:=k4;have kj:=hk;unfold dX at kj;rw[e] at kj;simp only[q] at kj;have n8:kind≠8:=fun c=>by rw[if_pos c] at kj;injection kj with z _;omega
 rw[if_neg n8] at kj;have n6:kind=6->below (f::r)≠none:=fun c z=>by rw[if_pos ⟨c,z⟩] at kj;injection kj with z _;omega
 have w1:vJ<|{f with ak:=f.ak+1}::r:=⟨hw.1,⟨by show 0<=f.ak+1;have:=hw.2.1.1;omega,by show f.ak+1<=(f.block.length:Int);omega⟩,hw.2.2⟩;have i1:∀b:bg,de b->b.length=a.b.length->Inv ({f with ak:=f.ak+1}::r) b:=fun b hb hl=>⟨w1,by rw[hl];exact hlen,hb⟩;have QP:6 - (r.length+1)=d:=by omega
 have push:∀(g:Fr) (b:bg),kY d g.block->g.ak=0->(0<=g.turns/\g.turns<=7)->g.kept.length=8->g.bV=false->de b->b.length=a.b.length->Inv (g::{f with ak:=f.ak+1}::r) b:=fun g b g1 g2 g3 g4 g5 hb hl=>⟨⟨by rw[List.length_cons,QP];exact g1,by rw[g2];omega,g3,g4,fun c=>(by rw[g5] at c;cases c),w1⟩,by show b.length=o7 ({f with ak:=f.ak+1}::r)+(if g.bV=true then 1 else 0)+1;rw[g5,hl];exact hlen,hb⟩;refine⟨⟨h.pG hs,hk,f,r,kind,to,ea,eb,bd,el,e,q,⟨hw.2.1.1,fun _=>k2,fun c g r' hb=>?_⟩⟩,?_⟩
 ·obtain⟨b1,b2,b3,_⟩:=Nh hw hb;obtain⟨b4,_⟩:=b1.2.2.2.2.1 b2;exact⟨b4,by omega⟩
 ·unfold qk;rw[e];simp only[q];have l8:∀(z:Int),(a.l.set to.toNat z).length=8:=fun z=>by rw[List.length_set];exact h.l
  by_cases c1:kind=1
  ·rw[if_pos c1];exact wG (a:={a with l:=a.l.set to.toNat<|du a ea,steps:=a.steps+1}) (l8 _) h.aD h.vars (i1 _ h.inv.buf rfl) Gi
  rw[if_neg c1];by_cases c2:kind=2
  ·rw[if_pos c2];exact wG (a:={a with l:=a.l.set to.toNat (ku a.b<|iK (du a ea) a.vars).1,steps:=a.steps+1}) (l8 _) h.aD h.vars (i1 _ h.inv.buf rfl) Gi
  rw[if_neg c2];by_cases c3:kind=3
  ·rw[if_pos c3];exact wG (a:={a with steps:=a.steps+1}) h.l h.aD h.vars (i1 _ (Mx h.inv.buf _ _)<|Hv _ _ _) Gi
  rw[if_neg c3];by_cases c4:kind=4
  ·rw[if_pos c4];exact wG (a:={a with steps:=a.steps+1}) h.l h.aD h.vars (push _ _ (by show kY d (if _ then bd else el);split;exact k3;exact k4) rfl ⟨by show(0:Int)<=0;omega,by show(0:Int)<=7;omega⟩ rfl rfl h.inv.buf rfl) PI
  rw[if_neg c4];by_cases c5:kind=5
  ·rw[if_pos c5];by_cases z:0<kF (du a ea)
   ·rw[if_pos z];have:=Nc<|du a ea;exact wG (a:={a with steps:=a.steps+1}) h.l h.aD h.vars (push _ _ k3 rfl ⟨by show 0<=kF _ - 1;omega,by show kF _ - 1<=7;omega⟩ rfl rfl h.inv.buf rfl) PI
   ·rw[if_neg z];exact wG (a:={a with steps:=a.steps+1}) h.l h.aD h.vars (i1 _ h.inv.buf rfl) Gi
  rw[if_neg c5];by_cases c6:kind=6
  ·rw[if_pos c6];cases hb:below (f::r) with
   |none=>exact absurd hb<|n6 c6
   |some p=>
    obtain⟨⟨fb,fa,ft,fo,kept,QQ⟩,r'⟩:=p;obtain⟨b1,b2,b3,b4⟩:=Nh hw hb;obtain⟨b5,ol,b6,b7⟩:=b1.2.2.2.2.1 b2;have b6:QQ=some ol:=b6;subst b6;have QM:kept.length=8:=b1.2.2.2.1;refine wG (a:={a with l:=kept,steps:=a.steps+1}) QM h.aD h.vars ⟨⟨b7,⟨by show(0:Int)<=0;omega,by show(0:Int)<=_;omega⟩,⟨by show(0:Int)<=0;omega,by show(0:Int)<=7;omega⟩,rfl,fun c=>(by cases c),b1.2.2.2.2.2⟩,?_,NM h.inv.buf ab⟩ ?_
    ·rw[List.length_dropLast];show _=o7 r'+(if false=true then 1 else 0)+1;rw[if_neg (by intro c;cases c)];omega
    ·rw[List.length_cons];rw[List.length_cons] at b4;omega
  rw[if_neg c6];by_cases c7:kind=7
  ·rw[if_pos c7];have Yb:=h.b6;refine wG (a:={a with steps:=a.steps+1}) h.l h.aD h.vars ⟨⟨by rw[List.length_cons,QP];exact k3,⟨by show(0:Int)<=0;omega,by show(0:Int)<=_;omega⟩,⟨by show(0:Int)<=0;omega,by show(0:Int)<=7;omega⟩,h.l,fun _=>⟨(by intro c;cases c),el,rfl,by rw[List.length_cons,QP];exact k4⟩,w1⟩,?_,NL h.inv.buf ab⟩ PI;rw[List.length_append];show a.b.length+1=o7 ({f with ak:=f.ak+1}::r)+(if true=true then 1 else 0)+1;rw[if_pos rfl,hlen];rfl
  ·exact absurd k1.2 ab
theorem ad2(h:mg a)(hs:0<=a.steps/\a.steps<=1000000000000){v:Int}(hk:dX a=(2,v,0))(x:Int):Jp a/\∃a',nq a x=some a'/\mg a'/\a'.steps=a.steps+1/\a'.vars=a.vars/\a'.aD=a.aD:=by
 rcases h.top with e|⟨f,r,e,ht⟩
 ·exfalso;unfold dX at hk;rw[e] at hk;injection hk with q _;omega
 have hw:=h.inv.wf;have hlen:=h.inv.len;rw[e] at hw hlen;have h6:=h.fP;rw[←List.length_reverse,e,List.length_cons] at h6;obtain⟨d,⟨kind,to,ea,eb,bd,el⟩,hd,q,k1,k2,k3,k4⟩:=A6 hw ht;have k2:0<=to/\to<8:=k2;have w1:vJ<|{f with ak:=f.ak+1}::r:=⟨hw.1,⟨by show 0<=f.ak+1;have:=hw.2.1.1;omega,by show f.ak+1<=(f.block.length:Int);omega⟩,hw.2.2⟩;refine⟨⟨h.pG hs,⟨v,hk⟩,f,r,kind,to,ea,eb,bd,el,e,hw.2.1.1,q,k2.1,k2.2⟩,?_⟩;unfold nq;rw[e];simp only[q];exact wG (a:={a with l:=a.l.set to.toNat x,steps:=a.steps+1}) (by rw[List.length_set];exact h.l) h.aD h.vars ⟨w1,hlen,h.inv.buf⟩ Gi
end
end zB
end
section
open Go Go.Rn Go.RowKit Go.Proofs
namespace W1
open ch fT eX ij O6 vD tL xD eO cG dj cQ di fW fD gH gP gV gi gj hJ iA iB iR jc jV ki kO jW fO iz mY nL lR oJ mf vH nM zx qA
variable {B:aJ} {vars:Int} {tx:List St} {q G m2 c2:Nat} {aD:List Int} {u2:AV} {bj:List Fr} {A2:MN}
noncomputable abbrev yV(tx:List St):AV:=.U (nm (tx.map aL).flatten) 0 tx.length
theorem ad3(mc:Mt [DM,CJ,Dn,oi 60,yI] B)(hv:vars<1\/vars>32):au pg B 270 (Rn.Fin pg (az Tryz.f13) fun y _=>y= .tuple [.ptr none,.int .i64 1]) (sF 13 Tryz.f13 [(yV tx),(i6 vars),(.U G q aD.length)])<|ah ar 270:=by exact wS mc (.st 5<|.rg<|.go 1<|.fk (.go 5<|.en<|.rt 4 .no)<|.go 2<|.fk (.go 2<|.en<|.rt 4 .no)<|.no)<|aR (vars<1) (fun _=>(show((.tuple [(.ptr none),(i6<|.ofNat 1)]):AV)= .tuple [.ptr none,.int .i64 1] from rfl)) fun _=>(aR (vars>32) (fun _=>(show((.tuple [(.ptr none),(i6<|.ofNat 1)]):AV)= .tuple [.ptr none,.int .i64 1] from rfl)) fZ)
theorem acq(mc:Mt [DM,CJ,Dn,oi 60,yI] B)(pF:bf (aP zf) [(yV tx),.int .i64 (aD.length:Int)]=some (.bool false))(hv:1<=vars/\vars<=32):au pg B 270 (Rn.Fin pg (az Tryz.f13) fun y _=>y= .tuple [.ptr none,.int .i64 4]) (sF 13 Tryz.f13 [(yV tx),(i6 vars),(.U G q aD.length)])<|ah ar 270:=by exact wS mc (.st 5<|.rg<|.go 1<|.fk (.no)<|.go 2<|.fk (.no)<|.go 2<|.en<|.st 2<|.rg<|.go 3<|.kn (.bool false)<|.go 2<|.en<|.rt 4 .no)<|aR (vars<1) fZ fun _=>(aR (vars>32) fZ fun _=>(ai pF (show((.tuple [(.ptr none),(i6<|.ofNat 4)]):AV)= .tuple [.ptr none,.int .i64 4] from rfl)))
noncomputable abbrev C6(A2:MN)(m2 c2:Nat)(u2:AV)(bj:List Fr):List<|Nat×Option ae:=ar++[(270,some<|.cells 13 (Tr.fill (A2.row (.ptr<|some (271,0)) (.slice (some (272,0)) (m2)<|.aq c2 13)<|i6 A2.steps) 0 .nil) []),(271,some<|.tok 3 u2),(272,some<|aA aI bj)]
theorem aha(mc:Mt [DM,CJ,Dn,oi 60,yI] B):au pg B 270 (Rn.Fin pg (az Tryz.f13) fun y s'=>y= .tuple [.ptr<|some (270,0),.int .i64 0]/\∀m o,(m,o)∈dB 270 3 (⟨⟨A2.pre,m2,(.aq c2 13),[(i6 A2.steps)]⟩,u2,(bj.map aI).flatten⟩:VS)->s'.h.get m=some o) (⟨13,aE [(6,(.ptr<|some (270,0))),(7,i0)],34,(cO 13 [1,1,1,1,1]),[],none⟩:AF)<|ah (C6 A2 m2 c2 u2 bj) 273:=by exact wS mc (.rt 1 .no)<|mG (st:=(⟨⟨A2.pre,m2,(.aq c2 13),[(i6 A2.steps)]⟩,u2,(bj.map aI).flatten⟩:VS)) (s:=ah (ar++[(270,some<|.cells 13 (Tr.fill (A2.row (.ptr<|some (271,0)) (.slice (some (272,0)) (m2)<|.aq c2 13)<|i6 A2.steps) 0 .nil) []),(271,(some<|.tok 3 u2)),(272,(some<|aA aI bj))]) 273) (show((.tuple [(.ptr<|some (270,0)),i0]):AV)= .tuple [.ptr<|some (270,0),.int .i64 0] from rfl) bU bU bU
noncomputable abbrev A7(vars:Int)(aD:List Int)(tx:List St):VS:=(⟨⟨[(i6 vars),(.U (nm (aD.map encI).flatten) 0 aD.length),i0,i0,i0,i0,i0,i0,i0,i0],1,(.aq 1 13),[.int .i64 0]⟩,(bI [[]]),(([(⟨tx,0,0,false,[0,0,0,0,0,0,0,0],none⟩:Fr)]).map aI).flatten⟩:VS)
noncomputable abbrev OB(u2:AV)(A2:MN)(m2 c2:Nat)(bj:List Fr):List<|Nat×Option ae:=ar++[(270,(some<|.tok 3 u2)),(271,some<|.cells 13 (Tr.fill (A2.row (.ptr<|some (270,0)) (.slice (some (274,0)) (m2)<|.aq c2 13)<|i6 A2.steps) 0 .nil) []),(274,(some<|aA aI bj))]
theorem afu(mc:Mt [DM,CJ,Dn,oi 60,yI] B)(pF:bf (aP zf) [(yV tx),.int .i64 (aD.length:Int)]=some (.bool true))(hv:1<=vars/\vars<=32)(oQ:bf (aP AZ) [(.U G q aD.length)]=some (.U (nm (aD.map encI).flatten) 0 aD.length))(QR:bf (aP<|p7 60) [(yV tx)]=some (yV tx))(GP:rz Pc []=some (some<|bI [[]],fun p=>p))(hlen:bj.length<=1000000)(nG:(AV.U A2.G A2.q A2.lg).cM=true)(k0:bD 10 (A7 vars aD tx)=true)(k1:dH eG (A7 vars aD tx) []=some (.tuple [],(⟨⟨A2.pre,m2,(.aq c2 13),[.int .i64 A2.steps]⟩,u2,(bj.map aI).flatten⟩:VS)))(k2:bD 10 (⟨⟨A2.pre,m2,(.aq c2 13),[.int .i64 A2.steps]⟩,u2,(bj.map aI).flatten⟩:VS)=true):au pg B 270 (Rn.Fin pg (az Tryz.f13) fun y s'=>y= .tuple [.ptr<|some (270,0),.int .i64 0]/\∀m o,(m,o)∈dB 270 3 (⟨⟨A2.pre,m2,(.aq c2 13),[(i6 A2.steps)]⟩,u2,(bj.map aI).flatten⟩:VS)->s'.h.get m=some o) (sF 13 Tryz.f13 [(yV tx),(i6 vars),(.U G q aD.length)])<|ah ar 270:=by have ht:top=549755813888:=rfl;exact wC mc (C:=(fun fr s1 _=>fr=(⟨13,aE [(6,(.ptr<|some (270,0))),(7,i0)],34,(cO 13 [1,1,1,1,1]),[],none⟩:AF)/\s1=(ah (C6 A2 m2 c2 u2 bj) 273))) (fun fr s1 p hC=>by obtain⟨rfl,rfl⟩:=hC;exact aha mc) (.st 5<|.rg<|.go 1<|.fk (.no)<|.go 2<|.fk (.no)<|.go 2<|.en<|.st 2<|.rg<|.go 3<|.kn (.bool true)<|.go 2<|.en<|.st 4<|.rg<|.go 2<|.kn (.U (nm (aD.map encI).flatten) 0 aD.length)<|.nt (some<|bI [[]]) (fun p=>p)<|.go 3<|.en<|.st 1<|.rg<|.go 2<|.kn (yV tx)<|.go 1<|.il<|.st 4<|.rg<|.go 1<|.cg (.tuple []) (JM 270 dF dT 3 271 270 274 (⟨⟨A2.pre,m2,(.aq c2 13),[.int .i64 A2.steps]⟩,u2,(bj.map aI).flatten⟩:VS)) (F0 270 dF dT 3 271 270 274<|A7 vars aD tx)<|.en<|.rt 1<|.en<|.st 2<|.rn [(6,(.ptr<|some (271,0))),(7,i0)] (OB u2 A2 m2 c2 bj) [(6,(.ptr<|some (270,0))),(7,i0)] (C6 A2 m2 c2 u2 bj) 275 273 .no)<|aR (vars<1) fZ fun _=>(aR (vars>32) fZ fun _=>(ai pF<|ai oQ<|ai GP<|ai QR<|ai (NN (P:=pg) (F:=FU) (sp:=sp [DM,CJ,Dn,oi 60,yI]) (g:=41) (J:=270) (h0:=dF) (ns:=dT) (rest:=[]) (n:=5) (kp:=10) (k:=3) (val:=dH eG) (a:=271) (r1:=270) (r2:=274) (st:=(A7 vars aD tx)) (aU:=(⟨⟨A2.pre,m2,(.aq c2 13),[.int .i64 A2.steps]⟩,u2,(bj.map aI).flatten⟩:VS)) (y:=.tuple []) bU bU bU bU rfl k0 k1 bU k2)<|afi (a:=bS<|dO ((A7 vars aD tx)).R 270 274) (b:=.tok 3 ((A7 vars aD tx)).u) (c:=bS ((A7 vars aD tx)).row)<|ai (mS [(6,(.ptr<|some (271,0))),(7,i0)])<|ai (mO<|OB u2 A2 m2 c2 bj)<|ai (show hI FU 270 275 [(6,(.ptr<|some (271,0))),(7,i0)] (OB u2 A2 m2 c2 bj) [(6,(.ptr<|some (270,0))),(7,i0)] (C6 A2 m2 c2 u2 bj) 273 from JL (ps:=[(270,271),(271,270),(272,274)]) (lo:=270) (bw:=275) ab bU bU (fun r hr ht=>⟨⟨by unfold top;omega,_,(mi 0),((ba.ptr<|rq hr)).z⟩,⟨⟨by unfold top;omega,_,(mi 1),vi⟩,trivial⟩⟩) fun r hr ht=>⟨rY (mi 1) (rq hr) wQ<|afe (l:=[(i6 A2.vars),(.U A2.G A2.q A2.lg),(i6 A2.x0),(i6 A2.x1),(i6 A2.x2),(i6 A2.x3),(i6 A2.x4),(i6 A2.x5),(i6 A2.x6),(i6 A2.x7),(.ptr<|some (270,0)),(.slice (some (274,0)) (m2)<|.aq c2 13),(i6 A2.steps)]) (m:=[(i6 A2.vars),(.U A2.G A2.q A2.lg),(i6 A2.x0),(i6 A2.x1),(i6 A2.x2),(i6 A2.x3),(i6 A2.x4),(i6 A2.x5),(i6 A2.x6),(i6 A2.x7),(.ptr<|some (271,0)),(.slice (some (272,0)) (m2)<|.aq c2 13),(i6 A2.steps)]) ⟨vi,⟨((Oc ht (by first|rfl|exact aM.2 (cF _)|assumption))).z,⟨vi,⟨vi,⟨vi,⟨vi,⟨vi,⟨vi,⟨vi,⟨vi,⟨((ba.ptr<|rq hr)).z,⟨((ba.slice<|rq hr)).z,⟨vi,trivial⟩⟩⟩⟩⟩⟩⟩⟩⟩⟩⟩⟩⟩,⟨rY (mi 0) (rq hr) (fK.refl _) UM,⟨rY (mi 2) (rq hr) (fK.refl _)<|Ix ht hlen,trivial⟩⟩⟩) (show(⟨13,aE [(6,(.ptr<|some (270,0))),(7,i0)],34,(cO 13 [1,1,1,1,1]),[],none⟩:AF)=(⟨13,aE [(6,(.ptr<|some (270,0))),(7,i0)],34,(cO 13 [1,1,1,1,1]),[],none⟩:AF)/\(ah (C6 A2 m2 c2 u2 bj) 273)=(ah (C6 A2 m2 c2 u2 bj) 273) from⟨rfl,rfl⟩)))
end W1
end
section
open Go Go.Rn Go.RowKit Go.Proofs
namespace Bf
open ch fT eX ij O6 vD mI mA tJ rk vC tL xD eO cG dj cQ di fW fD gH gP gV gi gj hJ iA iB iR jc jV ki kO jW fO iz mY nL lR oJ mf vH nM zx qA W1
variable {p:Option AV×(AV->AV)}
noncomputable section
theorem sX(l:List St):nm (bx l)=nm (l.map aL).flatten:=by rw[uB]
def tu(tx:List St):Fr:=⟨tx,0,0,false,Z8,none⟩
def xU(e:Int)(p:AV):AV:=.tuple [p,.int .i64 e]
def zh(args:List AV)(p:Option AV×(AV->AV)):Prop:=∃(tx:List St) (vars:Int) (aD:List Int) (G q:Nat),args=[.U (nm (tx.map aL).flatten) 0 tx.length,.int .i64 vars,.U G q aD.length]/\dm encI 1 (.U G q aD.length) aD/\aD.length<=1000/\(((vars<1\/vars>32)/\p=(none,xU 1))\/((1<=vars/\vars<=32)/\qi 60 tx=true/\ks 60 tx=true/\∃b,tM tx (aD.length:Int) b/\((b=false/\p=(none,xU 4))\/(b=true/\pt 60 tx=true/\∃st bb,ia 1000 [tu tx] [[]]=some (st,bb)/\p=(some<|eg ⟨vars,aD,Z8,bb,st.reverse,0⟩,xU 0)))))
theorem TS{l:List St}{n:Int}{b b':Bool}(h:tM l n b)(h':tM l n b'):b=b':=by
 obtain⟨c1,c2,p,a1,a2,a3⟩:=h;obtain⟨c1',c2',p',b1,b2,b3⟩:=h';rw[a1] at b1;injection b1 with b1;injection b1 with _ q1 q2 _
 injection q1 with _ q1;injection q2 with _ q2
 rw[a2] at b2;injection b2 with b2
 rw[a3,b3,q1,q2,b2]
theorem zh.bM{args:List AV}{p':Option AV×(AV->AV)}(h:zh args p)(h':zh args p'):p=p':=by
 obtain⟨tx,vars,aD,G,q,rfl,i1,_,h⟩:=h;obtain⟨Yg,vars',Ka,G',q',e,i2,_,h'⟩:=h';simp only[List.cons.injEq,AV.U.injEq,AV.int.injEq,true_and,_root_.and_true] at e;obtain⟨⟨e1,e2⟩,rfl,rfl,rfl,e3⟩:=e;rw[←sX, ←sX] at e1;have e1:=sf _ _<|sM (lG _) (lG _) e1;subst e1;rw[←e3] at i2;have e4:=dm.inj qT i1 (by rw[e3] at i2 ⊢;exact i2);subst e4;rcases h with⟨a,rfl⟩|⟨a,_,_,b,m,h⟩<;>rcases h' with⟨a',rfl⟩|⟨a',_,_,b',m',h'⟩
 ·rfl
 ·omega
 ·omega
 ·have eb:=TS m m';subst eb;rcases h with⟨x,rfl⟩|⟨x,_,st,bb,s1,rfl⟩<;>rcases h' with⟨x',rfl⟩|⟨x',_,aU,bb',s2,rfl⟩
  ·rfl
  ·rw[x] at x';cases x'
  ·rw[x] at x';cases x'
  ·rw[s1] at s2;injection s2 with s2;injection s2 with g1 g2
   rw[g1,g2]
open Classical in
def xH(args:List AV):Option<|Option AV×(AV->AV):=if h:∃p,zh args p then some h.choose else none
theorem abe{args:List AV}(h:xH args=some p):zh args p:=by
 unfold xH at h;split at h
 ·rename_i q;injection h with h;rw[←h];exact q.choose_spec
 ·cases h
theorem Ni{args:List AV}(h:zh args p):xH args=some p:=by unfold xH;have q:∃p,zh args p:=⟨p,h⟩;rw[dif_pos q];exact congrArg some<|zh.bM q.choose_spec h
def Wb:FuncId×KE:=(13,.new 4 xH)
theorem acr(tx:List St):im [tu tx]:=fun f hf=>by rw[List.mem_singleton] at hf;subst hf;exact⟨⟨by show(0:Int)<=0;omega,by show(0:Int)<=1000000;omega⟩,rfl⟩
theorem acs(hP:bR pg){L:bO}(h:aY L):aY<|Wb::L:=by
 refine Ul yj hP gS (aM.1 aV) jQ ji h (adz hP<|Z3 hP<|ab5 hP<|S5 hP 60<|Sf hP dc) Tryz.func13 (body:=aS pg 13 []) aV aV fun args p e=>?_;obtain⟨tx,vars,aD,G,q,rfl,i1,hl,h⟩:=abe e;have cM:[AV.U (nm (tx.map aL).flatten) 0 tx.length,.int .i64 (aD.length:Int)].all AV.hi=true:=by rw[List.all_cons, ←sX,rf];rfl
 have hm:∀b,qi 60 tx=true->ks 60 tx=true->tM tx (aD.length:Int) b->bf (aP zf) [.U (nm (tx.map aL).flatten) 0 tx.length,.int .i64 (aD.length:Int)]=some (.bool b):=fun b h1 h2 h3=>eP (eK zf.bM ⟨tx,_,b,by rw[sX],h1,h2,h3,rfl⟩) cM rfl;refine⟨aM.1 aV,fun e0 B mc=>?_,fun v e0=>?_⟩
 ·rw[←ib];rcases h with⟨a,rfl⟩|⟨a,d1,d2,b,m,h⟩
  ·exact ad3 mc a
  ·rcases h with⟨rfl,rfl⟩|⟨_,_,_,_,_,rfl⟩
   ·exact acq mc (hm _ d1 d2 m) a
   ·cases e0
 ·rcases h with⟨a,rfl⟩|⟨a,d1,d2,b,m,h⟩
  ·cases e0
  rcases h with⟨rfl,rfl⟩|⟨rfl,gc,st,bb,hs,rfl⟩
  ·cases e0
  injection e0 with e0
  subst e0;refine⟨yZ.tup rfl,fun B mc=>?_⟩;rw[←ib];let A:MN:=⟨vars,nm (aD.map y9).flatten,0,aD.length,aD,0,0,0,0,0,0,0,0,0⟩;have m0:cY A 1 1 [tu tx] [[]]:=⟨dm.ax KS aD,Oh,acr tx,Nat.le_refl 1,Nat.le_refl 1,by show 1<=1000000;omega,a⟩;obtain⟨n',cW,d⟩:=qW (st:=[tu tx]) m0 rfl hs;have oQ:bf (aP AZ) [.U G q aD.length]=some (.U (nm (aD.map encI).flatten) 0 aD.length):=eP (eK AZ.bM ⟨G,q,aD,rfl,i1,by omega,rfl⟩) (by rw[List.all_cons,i1.hi];rfl) (dm.ax eI aD).hi;have QR:bf (aP<|p7 60) [.U (nm (tx.map aL).flatten) 0 tx.length]=some (.U (nm (tx.map aL).flatten) 0 tx.length):=eP (eK p7.bM ⟨tx,by rw[sX],gc,by rw[sX]⟩) (by rw[List.all_cons, ←sX,rf];rfl) (by rw[←sX];exact rf tx);have ok:xd ⟨vars,aD,Z8,bb,st.reverse,0⟩:=by refine⟨rfl,d.eh.buf,?_,hl,a⟩;show st.reverse.length<=1000;rw[←d.eq,List.reverse_reverse,List.length_take];have:=d.le;omega
  have key:=afu (vars:=vars) (G:=G) (q:=q) (tx:=tx) (aD:=aD) (A2:=A) (m2:=n') (c2:=1) (u2:=bI bb) (bj:=cW) mc (hm _ d1 d2 m) a oQ QR rfl d.eh.len d.eh.aD.cM PH PH PH;have e1:cW.take n'=st.reverse:=by rw[←d.eq,List.reverse_reverse]
  have fw:(st.reverse).length=n':=by rw[←e1,List.length_take];have:=d.eh.mL;omega
  have e2:cW=st.reverse++cW.drop n':=by rw[←e1,List.take_append_drop]
  refine Kf (Nat.le_refl _) (WU fun y1 s' q=>⟨q.1,gz ⟨vars,aD,Z8,bb,st.reverse,0⟩ (cW.drop n') 1,XT.tF _ ok _ _ ⟨by rw[fw];exact d.eh.pR,by rw[←e2];exact d.eh.len,fun f hf=>d.eh.nT f<|List.mem_of_mem_drop hf⟩,?_⟩) key;have hx:=q.2;have e3:=TO ⟨vars,aD,Z8,bb,st.reverse,0⟩ (cW.drop n') 1;rw[←e3];show ∀m o,(m,o)∈dB 270 3 (cX _ (st.reverse).length 1 (st.reverse++cW.drop n') bb)->_;rw[fw, ←e2];exact hx
end
end Bf
end
section
open Go Go.Rn Go.RowKit Go.Proofs
namespace Dv
open ch fT eX ij mI mA vC xC tL xD eO cG dj B5 vB xA uf rk cQ di fW fD gH gP gV gi gj hJ iA iB iR jc jV ki kO jW fO iz mf vH nM zx qA zB Bf
variable {tx:List St}
def zC:Nat->Int->List St->Prop
 |0,_,_=>False
 |k+1,n,l=>∀s∈l,mr s n=true/\zC k n (bF s)/\zC k n (bE s)
theorem UQ{k:Nat}{n:Int}(he:∀l p,fC gw k l (.int .i64 n) (.bool false)=some p->p.ret=true->zC k n l):∀r p,kz (fC gw k) gw r (.int .i64 n) (.bool false)=some p->p.ret=true->∀s∈r,mr s n=true/\zC k n (bF s)/\zC k n (bE s)
 |[],_,_,_,s,hs=>by cases hs
 |t::r,p,h,hp,s,hs=>by
  unfold kz at h;split at h
  ·cases h
  rename_i p1 e1;obtain⟨n',⟨fw,_⟩,hq⟩:=NJ e1;injection fw with _ fw
  subst fw;cases QS:mr t n with
  |false=>
   rw[QS,if_neg (by intro q;cases q)] at hq;subst hq;have h:some (pN n)=some p:=h;injection h with h;subst h
   cases hp
  |true=>
   rw[QS,if_pos rfl] at hq;subst hq;have h:(match fC gw k (bF t) (.int .i64 n) (.bool false) with
    |none=>none
    |some q=>match q.ret with
     |false=>some q
     |true=>match fC gw k (bE t) q.v1 q.v2 with
      |none=>none
      |some u=>match u.ret with
       |false=>some u
       |true=>kz (fC gw k) gw r u.v1 u.v2)=some p:=h
   split at h
   ·cases h
   rename_i q2 e2;rcases Ah k _ _ e2 with rfl|rfl
   ·have h:(match fC gw k (bE t) (.int .i64 n) (.bool false) with
     |none=>none
     |some u=>match u.ret with
      |false=>some u
      |true=>kz (fC gw k) gw r u.v1 u.v2)=some p:=h
    split at h
    ·cases h
    rename_i q3 e3;rcases Ah k _ _ e3 with rfl|rfl
    ·have h:kz (fC gw k) gw r (.int .i64 n) (.bool false)=some p:=h;rcases List.mem_cons.1 hs with rfl|hs
     ·exact⟨QS,he _ _ e2 rfl,he _ _ e3 rfl⟩
     ·exact UQ he r p h hp s hs
    ·have h:some (pN n)=some p:=h;injection h with h;subst h;cases hp
   ·have h:some (pN n)=some p:=h;injection h with h;subst h;cases hp
theorem As{n:Int}:∀k l p,fC gw k l (.int .i64 n) (.bool false)=some p->p.ret=true->zC k n l
 |0,_,_,h,_=>by cases h
 |k+1,l,p,h,hp=>by
  unfold fC at h;split at h
  ·exact UQ (As k) l p h hp
  ·cases h
theorem IM(x y:Int):x<=cK x y/\y<=cK x y:=by
 unfold cK;split<;>rename_i q
 ·have:=of_decide_eq_true q;omega
 ·have:=of_decide_eq_false q;omega
theorem Pk{k:Nat}:∀(l:List St) (m:Int),m<=l.foldl (fun m s=>jr (bF s).length (bE s).length m (fq k<|bF s)<|fq k<|bE s) m/\∀s∈l,(bF s≠[]->fq k (bF s)<=l.foldl (fun m s=>jr (bF s).length (bE s).length m (fq k<|bF s)<|fq k<|bE s) m)/\(bE s≠[]->fq k (bE s)<=l.foldl (fun m s=>jr (bF s).length (bE s).length m (fq k<|bF s)<|fq k<|bE s) m)
 |[],m=>⟨Int.le_refl _,fun s h=>by cases h⟩
 |t::l,m=>by
  have one:m<=jr (bF t).length (bE t).length m (fq k<|bF t) (fq k<|bE t)/\(bF t≠[]->fq k (bF t)<=jr (bF t).length (bE t).length m (fq k<|bF t) (fq k<|bE t))/\(bE t≠[]->fq k (bE t)<=jr (bF t).length (bE t).length m (fq k<|bF t) (fq k<|bE t)):=by
   have g1:=IM m<|fq k<|bF t;have g2:=IM (cK m<|fq k<|bF t)<|fq k<|bE t;have g3:=IM m<|fq k<|bE t;unfold jr;by_cases c1:0<(bE t).length<;>by_cases c2:0<(bF t).length
   ·rw[if_pos c1,if_pos c2];exact⟨by omega,fun _=>by omega,fun _=>by omega⟩
   ·rw[if_pos c1,if_neg c2];exact⟨by omega,fun q=>absurd (List.length_pos_iff.2 q) c2,fun _=>by omega⟩
   ·rw[if_neg c1,if_pos c2];exact⟨by omega,fun _=>by omega,fun q=>absurd (List.length_pos_iff.2 q) c1⟩
   ·rw[if_neg c1,if_neg c2];exact⟨Int.le_refl _,fun q=>absurd (List.length_pos_iff.2 q) c2,fun q=>absurd (List.length_pos_iff.2 q) c1⟩
  obtain⟨a1,a2⟩:=Pk (k:=k) l<|jr (bF t).length (bE t).length m (fq k<|bF t)<|fq k<|bE t;rw[List.foldl_cons];refine⟨Int.le_trans one.1 a1,fun s hs=>?_⟩;rcases List.mem_cons.1 hs with rfl|hs
  ·exact⟨fun q=>Int.le_trans (one.2.1 q) a1,fun q=>Int.le_trans (one.2.2 q) a1⟩
  ·exact a2 s hs
theorem Zn{s:St}{n:Int}(h:mr s n=true)(hk:0<=fB s):(1<=fB s/\fB s<=8)/\(0<=Du s/\Du s<8):=by
 obtain⟨kind,to,a,b,bd,el⟩:=s;have h:zS (pQ kind) to a b bd el n=true:=h;have hk:0<=kind:=hk;show(1<=kind/\kind<=8)/\(0<=to/\to<8);have G1:∀l,zS l to a b bd el n=true->0<=to/\to<8:=fun l h=>by
  unfold zS at h;split at h
  ·obtain⟨_,h⟩:=and_true.1 h;obtain⟨h,_⟩:=and_true.1 h;exact of_decide_eq_true h
  ·cases h
 refine⟨?_,G1 _ h⟩;by_cases c:kind<=8
 ·refine⟨?_,c⟩;by_cases c0:kind=0
  ·subst c0;exfalso;have e:pQ 0=[false,false,false,false,false,false]:=rfl;rw[e] at h;cases h
  ·omega
 ·exfalso;have e:pQ kind=[false,false,false,false,false,false]:=by unfold pQ;rw[List.getD_eq_getElem?_getD,List.getElem?_eq_none (show KU.length<=kind.toNat by show 9<=kind.toNat;omega)];rfl
  rw[e] at h;cases h
def Gs:Nat->List St->Prop
 |0,_=>True
 |k+1,l=>∀s∈l,0<=fB s/\Gs k (bF s)/\Gs k (bE s)
theorem Pm{n:Int}:∀(d k:Nat) (l:List St),ks k l=true->zC k n l->Gs k l->fq k l<=d->kY d l
 |_,0,_,h,_,_,_=>by cases h
 |0,k+1,l,_,_,_,h=>by have h:l.foldl _ 0+1<=(0:Int):=h;have:=(Pk (k:=k) l 0).1;omega
 |d+1,k+1,l,hc,ha,hp,h=>by
  have h:l.foldl (fun m s=>jr (bF s).length (bE s).length m (fq k<|bF s)<|fq k<|bE s) 0+1<=((d+1:Nat):Int):=h;obtain⟨c1,c2⟩:=and_true.1 (show(decide (l.length<=1000000)&&l.all fun s=>ks k (bF s)&&ks k (bE s))=true from hc);refine⟨of_decide_eq_true c1,fun s hs=>?_⟩;obtain⟨a1,a2,a3⟩:=ha s hs;obtain⟨p1,p2,p3⟩:=hp s hs;obtain⟨e1,e2⟩:=and_true.1<|List.all_eq_true.1 c2 s hs;obtain⟨g1,g2⟩:=(Pk (k:=k) l 0).2 s hs;obtain⟨q1,q2⟩:=Zn a1 p1;refine⟨q1,q2,?_,?_⟩
  ·by_cases z:bF s=[]
   ·rw[z];exact UP d
   ·have:=g1 z;exact Pm d k _ e1 a2 p2 ab
  ·by_cases z:bE s=[]
   ·rw[z];exact UP d
   ·have:=g2 z;exact Pm d k _ e2 a3 p3 ab
theorem afv{n:Int}(h:tM tx n true)(hc:ks 60 tx=true)(hp:Gs 60 tx):kY 6 tx:=by obtain⟨c1,c2,p,_,e,hb⟩:=h;obtain⟨h1,h2⟩:=and_true.1 hb.symm;obtain⟨h2,_⟩:=and_true.1 h2;have h1:=of_decide_eq_true h1;exact Pm 6 60 tx hc (As 60 tx p e h2) hp h1.2.2.1
theorem ad4{vars:Int}{aD:List Int}(h:kY 6 tx)(hg:aD.length<=1000)(hv:1<=vars/\vars<=32):∃st bb,ia 1000 [tu tx] [[]]=some (st,bb)/\mg ⟨vars,aD,Z8,bb,st.reverse,0⟩:=by
 have hi:Inv [tu tx] [[]]:=⟨⟨h,⟨by show(0:Int)<=0;omega,by show(0:Int)<=_;omega⟩,⟨by show(0:Int)<=0;omega,by show(0:Int)<=7;omega⟩,rfl,fun c=>(by cases c),trivial⟩,rfl,Oh⟩;obtain⟨aU,b',e,i,_⟩:=Ew 1000 _ _ hi (by have:=NT hi.wf;have l1:[tu tx].length=1:=rfl;omega);refine⟨aU,b',e,?_,rfl,?_,hg,hv⟩
 ·show Inv aU.reverse.reverse b';rw[List.reverse_reverse];exact i
 ·show aU.reverse.reverse=[]\/∃f r,aU.reverse.reverse=f::r/\_;rw[List.reverse_reverse];exact Cl _ _ _ _ _ e
end Dv
end
section
open Go Go.Rn Go.RowKit Go.Proofs
namespace DP
open ch eO fT nM qA DO vI
variable {L:bO}
noncomputable section
abbrev tG(n:Nat):AS->AS:=WY 270 dF dT n
abbrev tQ(k n:Nat)(u:AV):AS->Prop:=WX 270 dF dT k n u
theorem tR{T:Prop}(L:bO)(g k n:Nat)(val:AV->List AV->Option AV)(rest:List AV)(v y:AV)(hv:val v rest=some y)(t:T)(h4:y.hi=true)(h1:sp L g=some (oK k val 270 dT dF):=by as_aux_lemma=>kernel_rfl)(h2:(rest.all AV.hi&&Nat.ble 270 n)=true:=by as_aux_lemma=>kernel_rfl)(h3:Nat.blt n top=true:=by as_aux_lemma=>kernel_rfl):
 (∀s,tQ k n v s->aZ pg (sp L) FU 6 (.fn g) (.ptr (some (n,0))::rest) s= .ok y (tG n s))/\(true=true/\true=true/\some (ae.tok k v)=some (.tok k v))/\T:=
 ⟨adX (P:=pg) (F:=FU) (m:=5) h1 h2 h3 hv h4,⟨rfl,rfl,rfl⟩,t⟩
theorem Wc{a:dE}{bh:List Fr}{c:Nat}{s:AS}(h0:s.h.get 270=some (aA gZ<|FN a c))(h1:s.h.get 271=some (.tok 3<|bI a.b))(h2:s.h.get 272=some (aA aI<|a.fs++bh)):∀m o,(m,o)∈gz a bh c->s.h.get m=some o:=fun m o h=>by simp only[gz,List.mem_cons,List.not_mem_nil,or_false,Prod.mk.injEq] at h;rcases h with⟨rfl,rfl⟩|⟨rfl,rfl⟩|⟨rfl,rfl⟩<;>assumption
section
variable {B:aJ} {a:dE} {bh:List Fr} {c:Nat}
theorem afw(mc:Mt [Pj] B)(h:xd a)(hj:mw a bh c)(hl:(allM a.b).length<100000)(g0:(tG 271<|ah (ar++aW (gz a bh c)) 273).h.get 270=some (aA gZ<|FN a c):=by as_aux_lemma=>kernel_rfl)(g1:(tG 271<|ah (ar++aW (gz a bh c)) 273).h.get 271=some (.tok 3<|bI a.b):=by as_aux_lemma=>kernel_rfl)(g2:(tG 271<|ah (ar++aW (gz a bh c)) 273).h.get 272=some (aA aI<|a.fs++bh):=by as_aux_lemma=>kernel_rfl):
 au pg B 271 (iQ XT pg (az Tryz.f17) 4 (ax aX<|dP<|allM a.b)<|eg a) (sF 17 Tryz.f17 [.ptr<|some (270,0)]) (ah (ar++aW (gz a bh c)) 273):=
 Ed mc (R:=fun y s=>oH 4 (ax aX<|dP<|allM a.b) (eg a) s y) (.st 8<|.rg<|.go 4<|.cg (ax aX<|dP<|allM a.b) (tG 271) (tQ 3 271<|bI a.b)<|.go 1<|.en<|.rt 1 .no) (tR [Pj] 43 3 271 (oy bI Ph) [] (bI a.b) (ax aX<|dP<|allM a.b) (by rw[Ie sq];exact if_pos hl) (T:=oH 4 (ax aX<|dP<|allM a.b) (eg a) (tG 271<|ah (ar++aW (gz a bh c)) 273)<|ax aX<|dP<|allM a.b) ⟨rfl,_,.tF a h bh c hj,Wc g0 g1 g2⟩<|aM.2<|cF _) bY bY
theorem afx(mc:Mt [] B)(h:xd a)(hj:mw a bh c)(g0:(ah (ar++aW (gz a bh c)) 273).h.get 270=some (aA gZ<|FN a c):=by as_aux_lemma=>kernel_rfl)(g1:(ah (ar++aW (gz a bh c)) 273).h.get 271=some (.tok 3<|bI a.b):=by as_aux_lemma=>kernel_rfl)(g2:(ah (ar++aW (gz a bh c)) 273).h.get 272=some (aA aI<|a.fs++bh):=by as_aux_lemma=>kernel_rfl):
 au pg B 271 (iQ XT pg (az Tryz.f18) 4 (.int .i64 a.steps)<|eg a) (sF 18 Tryz.f18 [.ptr<|some (270,0)]) (ah (ar++aW (gz a bh c)) 273):=
 Ed mc (R:=fun y s=>oH 4 (.int .i64 a.steps) (eg a) s y) (.rt 10 .no) (T:=oH 4 (.int .i64 a.steps) (eg a) (ah (ar++aW (gz a bh c)) 273)<|.int .i64 a.steps) ⟨rfl,_,.tF a h bh c hj,Wc g0 g1 g2⟩ bY bY
end
def G5:dE->List AV->Option AV
 |a,[]=>if(allM a.b).length<100000 then some (ax aX<|dP<|allM a.b) else none
 |_,_=>none
def Eo:dE->List AV->Option AV
 |a,[]=>some<|.int .i64 a.steps
 |_,_=>none
def W2:FuncId×KE:=(17,.raw<|oK 4<|oy eg G5)
def W3:FuncId×KE:=(18,.raw<|oK 4<|oy eg Eo)
theorem ad5(hP:bR pg)(hs:C5 pg 62 63)(h:aY L):aY<|W2::L:=by
 refine Ic yj hP gS qZ jQ ji me lQ h (acp hP hs dc) Tryz.func17 (body:=aS pg 17 []) aV aV fun v rest y e=>?_;obtain⟨a,rfl,e1⟩:=HN e;unfold G5 at e1;split at e1<;>(try split at e1)<;>cases e1;rename_i q;refine⟨aM.1 aV,fun L hx=>?_⟩;generalize hv:eg a=v at hx;cases hx with
 |tF b hb bh c hj=>have:=uC _ _ hv;subst this;exact⟨273,by omega,aM.1 aV,Fh,fun B mc=>afw mc hb hj q⟩
theorem ad6(hP:bR pg)(h:aY L):aY<|W3::L:=by
 refine Ic yj hP gS qZ jQ ji me lQ h dc Tryz.func18 (body:=aS pg 18 []) aV aV fun v rest y e=>?_;obtain⟨a,rfl,e1⟩:=HN e;unfold Eo at e1;split at e1<;>cases e1;refine⟨aM.1 aV,fun L hx=>?_⟩;generalize hv:eg a=v at hx;cases hx with
 |tF b hb bh c hj=>have:=uC _ _ hv;subst this;exact⟨273,by omega,aM.1 aV,Fh,fun B mc=>afx mc hb hj⟩
end
end DP
end
section
open Go Go.Rn Go.RowKit Go.Proofs
namespace DQ
open ch fT vD
variable {P L:Nat} {i:Int}
noncomputable section
def mM(l:List Int)(ws:List<|Int×Int):List Int:=ws.foldl (fun l p=>l.set p.1.toNat p.2) l
theorem Fj:∀(ws:List<|Int×Int) (l:List Int),(mM l ws).length=l.length
 |[],_=>rfl
 |p::ws,l=>(Fj ws<|l.set p.1.toNat p.2).trans List.length_set
def KW:List Item:=[.code<|aS pg 19 [1,1,0,1,0,0],.inLoop<|aS pg 19 [1,1,0,1,0,0],.inBlock 0,.code<|aS pg 19 [1,1,1]]
abbrev QT:Nat:=max Tryz.f19.ntmps 2
def wk(P L len:Nat)(i:Int):List<|Nat×AV:=[(5,.slice (some (271,0)) len<|.aq len 1),(10,.U P 0 L),(11,.int .i64 (L:Int)),(12,.int .i64 i)]
def pT(l:List Int):List<|Nat×Option ae:=[(271,some<|aA encI l)]
def uq(P L len:Nat)(i:Int):AF:=⟨19,aE<|wk P L len i,QT,KW,[],none⟩
def ur(l:List Int):AS:=ah (pT l) 272
abbrev Cd(B:aJ)(v:AV)(fr:AF)(s:AS):Prop:=au pg B 270 (Fin pg (az Tryz.f19) fun y _=>y=v) fr s
abbrev LsW(P L len:Nat)(i:Int)(l:List Int):Prop:=((wk P L len i).map (fun q=>some q.2)=(wk P L len i).map (fun q=>some q.2))/\((pT l).map (fun q=>q.2)=(pT l).map (fun q=>q.2))/\(uq P L len i=uq P L len i/\ur l=ur l)
abbrev BkW(P L len:Nat)(i:Int)(l:List Int):Prop:=((wk P L len i).map (fun q=>some q.2)=(wk P L len i).map (fun q=>some q.2))/\((pT l).map (fun q=>q.2)=(pT l).map (fun q=>q.2))/\pE 272 (wk P L len i) (pT l)/\(uq P L len i=uq P L len i/\ur l=ur l)
section
variable {B:aJ} {v:AV}
theorem aiu{len:Nat}{l:List Int}(hP:top<=P)(hl:l.length<=100000):pE 272 (wk P L len i)<|pT l:=by
 intro r r1 r2;refine⟨fun p hp=>?_,fun p hp y hy=>?_⟩
 ·simp only[wk,List.mem_cons,List.not_mem_nil,or_false] at hp;rcases hp with rfl|rfl|rfl|rfl
  ·exact ba.slice<|r1 271 ab
  ·exact ba.U (r2 _ hP) r2
  ·exact ba.int _ _
  ·exact ba.int _ _
 ·rw[pT,List.mem_singleton] at hp;subst hp;cases hy;exact kL.aA (fun x=>⟨rfl,rfl⟩) (by rw[eI.length];unfold top;omega)
theorem QN(mc:Mt [] B){l:List Int}{N o m:Nat}(hlen:l.length<=100000)(hf:top<=N/\cr FU N o ((m+1)*1)=some (l.map encI).flatten/\m+1=l.length)(H:Cd B v (uq P L ([]++l).length 0)<|ur<|[]++l):
 Cd B v ⟨19,dt [.U N o<|m+1,.U P 0 L],QT,(cO 19 []),[],none⟩ (ah ar 270):=
 wC mc (L:=[]) (C:=fun fr s1 _=>fr=uq P L ([]++l).length 0/\s1=ur ([]++l)) DE (.st 3<|.rg<|.go 1<|.il<|.st 8<|.rg<|.go 2<|.al Int encI [] l<|.go 1<|.en<|.rt 1<|.go 1<|.en<|.st 5<|.ls (wk P L ([]++l).length 0) (pT<|[]++l) 272 .no) (GW encI [] l (K:=1) (nf:=8) hf (fun x=>⟨rfl,rfl⟩) PF PG (show LsW P L ([]++l).length 0 ([]++l) from⟨rfl,rfl,rfl,rfl⟩))
theorem aiv(mc:Mt [] B){l:List Int}{len:Nat}{ak x c:Int}(hP:top<=P)(hlen:l.length<=100000)(hl:l.length=len)(h0:0<=i)(h1:i<(L:Int))(hL:L<=100000)(ha:0<=ak/\ak<(len:Int))(hc:l[ak.toNat]? =some c)(hx:cr FU P (0+i.toNat*2+0) 2=some [.int .i64 ak,.int .i64 x])(H:Cd B v (uq P L len<|i+1)<|ur<|l.set ak.toNat x):
 Cd B v (uq P L len i) (ur l):=
 wC mc (L:=[]) (C:=fun fr s1 _=>fr=uq P L len (i+1)/\s1=ur (l.set ak.toNat x)) DE (.st 1<|.rg<|.fk (.en<|.st 6<|.rg<|.eB<|.eC [.int .i64 ak,.int .i64 x]<|.go 2<|.en<|.rg<|.go 5<|.ix<|.mj (aA encI<|l.set ak.toNat x)<|.en<|.st 1<|.rg<|.vl (i6<|i+1)<|.go 1<|.en<|.st 1<|.bk (wk P L len<|i+1) (pT<|l.set ak.toNat x) 272 .no) .no) (aR (i<(L:Int)) (fun _=>And.intro (show(0:Int)<=i from h0)<|ai (show i<(L:Int) from h1)<|ai hP<|ai hx<|ai (show(0:Int)<=ak from ha.1)<|ai (show ak<(len:Int) from ha.2)<|ai (ph (enc:=encI) (K:=1) (fun _=>rfl) dZ hc (c':=x) (r:=[.int .i64 x]) 0 rfl rfl rfl)<|ai (congrArg (AV.int .i64) (show IntKind.wrap .i64 (i+1)=i+1 from Ab ab)) (show BkW P L len (i+1) (l.set ak.toNat x) from⟨rfl,rfl,aiu hP (by rw[List.length_set];exact hlen),rfl,rfl⟩)) (fun h=>show False from h h1))
def K7(l:List Int):AF:=⟨19,aE [(4,ax encI l)],QT,(cO 19 [1,1,1,1]),[],none⟩
theorem mG(mc:Mt [] B)(l:List Int):Cd B (ax encI l) (K7 l)<|ah [] 270:=wS mc (L:=[]) (R:=fun y _=>y=ax encI l) (.rt 1 .no) (T:=ax encI l=ax encI l) rfl
theorem enW(mc:Mt [] B){l:List Int}{len:Nat}(hlen:l.length<=100000)(hl:l.length=len)(h1:(L:Int)<=i):Cd B (ax encI l) (uq P L len i)<|ur l:=by subst hl;exact wC mc (L:=[]) (C:=fun fr s1 _=>fr=K7 l/\s1=ah [] 270) (fun fr s1 _ hC=>by obtain⟨rfl,rfl⟩:=hC;exact mG mc l) (.st 1<|.rg<|.fk .no<|.en<|.st 5<|.rn [(4,.slice (some (271,0)) l.length<|.aq l.length 1)] (pT l) [(4,ax encI l)] [] 272 270 .no)<|aR (i<(L:Int)) (fun h=>show False by omega) (fun _=>show(([(4,.slice (some (271,0)) l.length<|.aq l.length 1)]:List<|Nat×AV).map (fun q=>some q.2)=([(4,.slice (some (271,0)) l.length<|.aq l.length 1)]:List<|Nat×AV).map (fun q=>some q.2))/\((pT l).map (fun q=>q.2)=(pT l).map (fun q=>q.2))/\hI FU 270 272 [(4,.slice (some (271,0)) l.length<|.aq l.length 1)] (pT l) [(4,ax encI l)] [] 270/\(K7 l=K7 l/\ah [] 270=ah [] 270) from⟨rfl,rfl,I5 (j:=4) (bw:=272) eI l rfl dZ dZ dZ dZ,rfl,rfl⟩)
end
def Dw(args:List AV)(v:AV):Prop:=∃(N o:Nat) (l:List Int) (ws:List<|Int×Int),args=[.U N o l.length,ax aX ws]/\dm encI 1 (.U N o l.length) l/\(1<=l.length/\l.length<=100000/\ws.length<=100000)/\(∀p∈ws,0<=p.1/\p.1<(l.length:Int))/\v=ax encI (mM l ws)
theorem zA:l9 2 aX:=⟨fun _=>rfl,fun _=>rfl⟩
theorem abf{l m:List<|Int×Int}(h:ax aX l=ax aX m):l=m:=by
 have e:dm aX 2 (ax aX l) m:=by rw[h];exact dm.ax zA m
 exact dm.inj aa6 (dm.ax zA l) e
theorem Dw.bM(args:List AV)(v v':AV)(h:Dw args v)(h':Dw args v'):v=v':=by
 obtain⟨N,o,l,ws,rfl,hl,_,_,rfl⟩:=h;obtain⟨N',o',l',QU,h1,kQ,_,_,rfl⟩:=h';injection h1 with h1 h2
 injection h2 with h2 _
 rw[h1] at hl;rw[hl.inj qT kQ,abf h2]
def Wd:FuncId×KE:=(19,.val<|aP Dw)
theorem acu(hP:bR pg){L:bO}(h:aY L):aY<|Wd::L:=by
 refine gO hP h dc Tryz.func19 fun args v e=>?_;obtain⟨N,o,l,ws,rfl,hl,hlen,hw,rfl⟩:=fV e;refine⟨aM.1 aV,fun B mc=>?_⟩;rw[←ib];obtain⟨m,hm⟩:∃m,l.length=m+1:=⟨l.length - 1,by omega⟩;have hf:cr FU N o ((m+1)*1)=some (l.map encI).flatten:=by
  rcases E9 eI.len hl with q|q
  ·rw[←hm];exact q
  ·rw[q] at hm;cases hm
 have hN:=hl.len.2.1;have key:∀(r:List<|Int×Int) (i:Nat) (l':List Int),ws.drop i=r->l'.length=l.length->mM l' r=mM l ws->
  Cd B (ax encI<|mM l ws) (uq (nm (ws.map aX).flatten) ws.length l.length i) (ur l'):=by
  intro r;induction r with
  |nil=>intro i l' hr h1 h2;have hi:ws.length<=i:=List.drop_eq_nil_iff.1 hr;have h2:l'=mM l ws:=h2;rw[←h2];exact enW mc ab h1 ab
  |cons p r ih=>
   intro i l' hr h1 h2;have hl:i<ws.length:=by
    by_cases q:i<ws.length
    ·exact q
    ·rw[List.drop_of_length_le ab] at hr;cases hr
   have ha:ws[i]? =some p:=by have:=congrArg (fun q=>q[0]?) hr;simp only[List.getElem?_drop,List.getElem?_cons_zero,Nat.add_zero] at this;exact this
   have j0:ws.drop (i+1)=r:=by have:=congrArg (List.drop 1) hr;rw[List.drop_drop] at this;exact this
   obtain⟨w1,w2⟩:=hw p<|List.mem_of_getElem? ha;have hx:=sL zA ha 0 2 ab;have bZ:p.1.toNat<l'.length:=by omega
   refine aiv (c:=l'[p.1.toNat]) (x:=p.2) (ak:=p.1) mc (cF _) ab h1 ab ab ab ⟨w1,w2⟩ (List.getElem?_eq_getElem bZ) (by rw[show 0+(i:Int).toNat*2+0=i*2+0 by omega];exact hx) ?_;have:=ih (i+1) (l'.set p.1.toNat p.2) j0 (by rw[List.length_set];exact h1) h2;rw[show(((i+1:Nat)):Int)=(i:Int)+1 by omega] at this;exact this
 have:=QN (l:=l) (N:=N) (o:=o) (m:=m) (P:=nm (ws.map aX).flatten) (L:=ws.length) mc hlen.2.1 ⟨hN,hf,hm.symm⟩<|key ws 0 ([]++l) rfl rfl rfl;rw[←hm] at this;exact this
end
end DQ
end
