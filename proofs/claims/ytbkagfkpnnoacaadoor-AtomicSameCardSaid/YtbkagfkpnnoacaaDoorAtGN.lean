import Derived.Test.YtbkagfkpnnoacaaDoorAtGM
import Derived.Test.YtbkagfkpnnoacaaDoorRnGH
import Derived.Test.YtbkagfkpnnoacaaDoorAtGL
import Derived.Test.YtbkagfkpnnoacaaDoorAtGK
set_option maxRecDepth 100000
set_option maxHeartbeats 8000000
set_option linter.unusedSimpArgs false
set_option linter.unusedVariables false
section
open Go Go.Rn Go.RowKit Go.Proofs
namespace zA
open ch fT eX iq eO cG dj cQ di fW fD gH gQ gW gj gk hU iC iD iT jd jW kj kS jX fO iB nh nS lV oX mj vN nT
variable {b b':bf} {fs:List Fr} {s:Int} {A:MN}
theorem len8{l:List Int}(h:l.length=8):∃a b c d e f g i,l=[a,b,c,d,e,f,g,i]:=⟨_,_,_,_,_,_,_,_,Jp l h⟩
theorem N6{a:dF}(h:a.l.length=8){to z:Int}(h0:0<=to)(h8:to<8):MN.im {mn a with steps:=s} to z=mn ⟨a.vars,a.aA,a.l.set to.toNat z,b,fs,s⟩:=by obtain⟨vars,aA,l,b0,fs0,st⟩:=a;obtain⟨x0,x1,x2,x3,x4,x5,x6,x7,rfl⟩:=len8 h;rcases UU h0 h8 with rfl|rfl|rfl|rfl|rfl|rfl|rfl|rfl<;>rfl
theorem Fc{A':MN}{n c k:Nat}{g:Fr}(m:cY A n c fs b)(hk:k<=fs.length)(hl:fs.length<=1000)(e1:A'.G=A.G/\A'.q=A.q/\A'.lg=A.lg/\A'.aA=A.aA/\A'.vars=A.vars)(hg:(0<=g.turns/\g.turns<=1000000)/\g.kept.length=8)(hb:de b'):
 cY A' (k+1) (k+1) (qe fs k g) b'/\((qe fs k g).take<|k+1).reverse=g::(fs.take k).reverse:=by
 have hlen:(qe fs k g).length=k+1:=by rw[List.length_append,List.length_take];simp only[List.length_cons,List.length_nil];omega
 obtain⟨q1,q2,q3,q4,q5⟩:=e1;refine⟨⟨by rw[q1,q2,q3,q4];exact m.aA,hb,ir.app (ir.take m.nY k) fun f hf=>?_,by rw[hlen];omega,Nat.le_refl _,by rw[hlen];omega,by rw[q5];exact m.vars⟩,?_⟩
 ·rw[List.mem_singleton] at hf;subst hf;exact hg
 ·rw[List.take_of_length_le (by rw[hlen];omega)];simp only[List.reverse_append,List.reverse_cons,List.reverse_nil,List.nil_append,List.cons_append]
structure uO (a:dF) (f:Fr) (r:List Fr) (kind to:Int):Prop where
 ak:0<=f.ak
 to:kind=1\/kind=2->0<=to/\to<8
 ahn:kind=6->∀g r',below (f::r)=some (g,r')->r'≠[]/\2<=a.b.length
theorem uP{a a':dF}{st:List Fr}(h:fin a st b=some a'):∃aV b',ig 1000 st b=some (aV,b')/\a'={a with fs:=aV.reverse,b:=b'}:=by
 unfold fin at h;split at h
 ·rename_i p e;injection h with h;exact⟨p.1,p.2,e,h.symm⟩
 ·cases h
theorem uQ{a:dF}(h:xj a){l:List Int}{aV:List Fr}{n c n':Nat}{cW:List Fr}(d:jU A n c fs b aV b' n' cW)(hl:l.length=8)(hn:n<=1000):xj ⟨a.vars,a.aA,l,b',aV.reverse,s⟩:=by refine⟨hl,d.ep.buf,?_,h.2.2.2.1,h.2.2.2.2⟩;show aV.reverse.length<=1000;rw[←d.eq,List.reverse_reverse,List.length_take];have:=d.le;omega
theorem Th{f f1:Fr}{r:List Fr}(ho:f1.bV=f.bV):below (f1::r)=if f.bV=true then some (f1,r) else below r:=by show(if f1.bV=true then some (f1,r) else below r)=_;rw[ho]
theorem Nn(z:Int):kJ z<=8:=by
 unfold kJ dW;split<;>rename_i q
 ·omega
 ·have:=of_decide_eq_false q;omega
noncomputable abbrev LS:bO:=[P1,l7,iL,jE,kO,lY,yL,PY,Pn,Ov,Oo,Oq]
section
variable {B:aJ} {a a':dF} {bh:List Fr} {c m:Nat} {f:Fr} {r:List Fr} {kind to:Int} {ea eb:Ex} {bd el:List St}
theorem ad4(mc:Mt LS B)(h:Good a)(hj:mC a bh c)(t:nF a bh f r m)(cz:a.fs.reverse=f::r)(hs:f.block[f.ak.toNat]? =some (.mk 1 to ea eb bd el))(hd:uO a f r 1 to)(hk:dX a=(1,0,0))(hf:fin {a with l:=a.l.set to.toNat<|dx a ea,steps:=a.steps+1} ({f with ak:=f.ak+1}::r) a.b=some a'):
 au pg B 271 (iS XT pg (az Tryd.f14) 4 (.int .i64 0)<|eh a') (sF 14 Tryd.f14 [.ptr<|some (270,0)]) (ah (ar++aX (gz a bh c)) 273):=by
 obtain⟨aV,b',e1,rfl⟩:=uP hf;have h0:=(hd.to<|.inl rfl);have mp:=h.mp hj t;obtain⟨p1,p2,p3⟩:=sK t;obtain⟨op,nn,la⟩:=ea;obtain⟨aF,n2,lb⟩:=eb;obtain⟨n',cW,d⟩:=qY (mp.im (i:=to) (z:=dx a<|.mk op nn la)) p2 e1;have ev:dD {mn a with steps:=a.steps+1} (.mk op nn la)=dx a (.mk op nn la):=l9 h.ok.1 _;have hX:=afD mp (kind:=1) (ea:=.mk op nn la) (eb:=.mk aF n2 lb) (bd:=bd) (el:=el) h0.1 h0.2;rw[ev] at hX;have key:=j1 (.inl ⟨rfl,rfl,rfl⟩) mc (h.ep hj) qB h.fP h.b6 (sI t hd.ak hs) ((tf h t cz _ hs).trans hk) (h.ax t) h.steps mp mp.im d.ep hX d.run;exact te (a':=⟨a.vars,a.aA,a.l.set to.toNat<|dx a<|.mk op nn la,b',aV.reverse,a.steps+1⟩) (N6 h.ok.1 h0.1 h0.2) rfl (uQ h.ok d (by rw[List.length_set];exact h.ok.1) (by have:=h.fP;omega)) d.ep Gr key
theorem ad5(mc:Mt LS B)(h:Good a)(hj:mC a bh c)(t:nF a bh f r m)(cz:a.fs.reverse=f::r)(hs:f.block[f.ak.toNat]? =some (.mk 2 to ea eb bd el))(hd:uO a f r 2 to)(hk:dX a=(1,0,0))(hf:fin {a with l:=a.l.set to.toNat (kz a.b<|iM (dx a ea) a.vars).1,steps:=a.steps+1} ({f with ak:=f.ak+1}::r) a.b=some a'):
 au pg B 271 (iS XT pg (az Tryd.f14) 4 (.int .i64 0)<|eh a') (sF 14 Tryd.f14 [.ptr<|some (270,0)]) (ah (ar++aX (gz a bh c)) 273):=by
 obtain⟨aV,b',e1,rfl⟩:=uP hf;have mp:=h.mp hj t;obtain⟨p1,p2,p3⟩:=sK t;have n6:=h.fP;obtain⟨op,nn,la⟩:=ea;obtain⟨aF,n2,lb⟩:=eb;have ev:dD {mn a with steps:=a.steps+1} (.mk op nn la)=dx a (.mk op nn la):=l9 h.ok.1 _;have uw:dD (mn a) (.mk op nn la)=dx a (.mk op nn la):=l9 h.ok.1 _;have h0:=(hd.to<|.inr rfl);obtain⟨n',cW,d⟩:=qY (mp.im (i:=to) (z:=(kz a.b<|iM (dx a<|.mk op nn la) a.vars).1)) p2 e1;have hX:=ad2 mp h.b6 (kind:=2) (ea:=.mk op nn la) (eb:=.mk aF n2 lb) (bd:=bd) (el:=el) h0.1 h0.2;rw[ev] at hX;have key:=j1 (.inr<|.inl ⟨rfl,rfl,rfl⟩) mc (h.ep hj) qB h.fP h.b6 (sI t hd.ak hs) ((tf h t cz _ hs).trans hk) (h.ax t) h.steps mp mp.im d.ep hX d.run;exact te (a':=⟨a.vars,a.aA,a.l.set to.toNat (kz a.b<|iM (dx a<|.mk op nn la) a.vars).1,b',aV.reverse,a.steps+1⟩) (N6 h.ok.1 h0.1 h0.2) rfl (uQ h.ok d (by rw[List.length_set];exact h.ok.1) ab) d.ep Gr key
theorem ad6(mc:Mt LS B)(h:Good a)(hj:mC a bh c)(t:nF a bh f r m)(cz:a.fs.reverse=f::r)(hs:f.block[f.ak.toNat]? =some (.mk 3 to ea eb bd el))(hd:uO a f r 3 to)(hk:dX a=(1,0,0))(hf:fin {a with steps:=a.steps+1} ({f with ak:=f.ak+1}::r) (kL a.b (iM (dx a ea) a.vars)<|dx a eb)=some a'):
 au pg B 271 (iS XT pg (az Tryd.f14) 4 (.int .i64 0)<|eh a') (sF 14 Tryd.f14 [.ptr<|some (270,0)]) (ah (ar++aX (gz a bh c)) 273):=by
 obtain⟨aV,b',e1,rfl⟩:=uP hf;have mp:=h.mp hj t;obtain⟨p1,p2,p3⟩:=sK t;have n6:=h.fP;obtain⟨op,nn,la⟩:=ea;obtain⟨aF,n2,lb⟩:=eb;have ev:dD {mn a with steps:=a.steps+1} (.mk op nn la)=dx a (.mk op nn la):=l9 h.ok.1 _;have uw:dD (mn a) (.mk op nn la)=dx a (.mk op nn la):=l9 h.ok.1 _;have ev2:dD {mn a with steps:=a.steps+1} (.mk aF n2 lb)=dx a (.mk aF n2 lb):=l9 h.ok.1 _;have mb:cY {mn a with steps:=a.steps+1} (0+a.fs.length) (0+a.fs.length) (gL (a.fs++bh) a.fs.length)<|kL a.b (iM (dx a<|.mk op nn la) a.vars)<|dx a<|.mk aF n2 lb:=⟨mp.aA,MF mp.buf _ _,mp.nY,mp.mR,mp.pV,mp.len,mp.vars⟩;obtain⟨n',cW,d⟩:=qY mb p2 e1;have hX:=acn mp h.b6 (kind:=3) (to:=to) (ea:=.mk op nn la) (eb:=.mk aF n2 lb) (bd:=bd) (el:=el);rw[ev,ev2] at hX;have key:=j1 (.inr<|.inr ⟨rfl,rfl,rfl⟩) mc (h.ep hj) qB h.fP h.b6 (sI t hd.ak hs) ((tf h t cz _ hs).trans hk) (h.ax t) h.steps mp mb d.ep hX d.run;exact te (a':=⟨a.vars,a.aA,a.l,b',aV.reverse,a.steps+1⟩) rfl rfl (uQ h.ok d h.ok.1 ab) d.ep Gr key
theorem acp(mc:Mt LS B)(h:Good a)(hj:mC a bh c)(t:nF a bh f r m)(cz:a.fs.reverse=f::r)(hs:f.block[f.ak.toNat]? =some (.mk 4 to ea eb bd el))(hd:uO a f r 4 to)(hk:dX a=(1,0,0))(hz:dx a ea≠0)(hf:fin {a with steps:=a.steps+1} (⟨bd,0,0,false,Z8,none⟩::{f with ak:=f.ak+1}::r) a.b=some a'):
 au pg B 271 (iS XT pg (az Tryd.f14) 4 (.int .i64 0)<|eh a') (sF 14 Tryd.f14 [.ptr<|some (270,0)]) (ah (ar++aX (gz a bh c)) 273):=by
 obtain⟨aV,b',e1,rfl⟩:=uP hf;have mp:=h.mp hj t;obtain⟨p1,p2,p3⟩:=sK t;have n6:=h.fP;obtain⟨op,nn,la⟩:=ea;obtain⟨aF,n2,lb⟩:=eb;have ev:dD {mn a with steps:=a.steps+1} (.mk op nn la)=dx a (.mk op nn la):=l9 h.ok.1 _;have uw:dD (mn a) (.mk op nn la)=dx a (.mk op nn la):=l9 h.ok.1 _;obtain⟨mE,eE⟩:=Fc (A':={mn a with steps:=a.steps+1}) (k:=0+a.fs.length) (b':=a.b) (g:=⟨bd,0,0,false,Z8,none⟩) mp tJ tJ ⟨rfl,rfl,rfl,rfl,rfl⟩ ⟨⟨by show(0:Int)<=0;omega,by show(0:Int)<=1000000;omega⟩,rfl⟩ mp.buf;rw[p2] at eE;obtain⟨n1,br,d⟩:=qY mE eE e1;obtain⟨n',cW,d2⟩:=d.again e1;have key:=j4y mc (h.ep hj) qB h.fP h.b6 (sI t hd.ak hs) ((tf h t cz _ hs).trans hk) (h.ax t) h.steps mp d.ep d2.ep mE d.run d2.run (by rw[uw];exact hz);exact te (a':=⟨a.vars,a.aA,a.l,b',aV.reverse,a.steps+1⟩) rfl rfl (uQ h.ok d h.ok.1 ab) d2.ep Gq key
theorem acq(mc:Mt LS B)(h:Good a)(hj:mC a bh c)(t:nF a bh f r m)(cz:a.fs.reverse=f::r)(hs:f.block[f.ak.toNat]? =some (.mk 4 to ea eb bd el))(hd:uO a f r 4 to)(hk:dX a=(1,0,0))(hz:dx a ea=0)(hf:fin {a with steps:=a.steps+1} (⟨el,0,0,false,Z8,none⟩::{f with ak:=f.ak+1}::r) a.b=some a'):
 au pg B 271 (iS XT pg (az Tryd.f14) 4 (.int .i64 0)<|eh a') (sF 14 Tryd.f14 [.ptr<|some (270,0)]) (ah (ar++aX (gz a bh c)) 273):=by
 obtain⟨aV,b',e1,rfl⟩:=uP hf;have mp:=h.mp hj t;obtain⟨p1,p2,p3⟩:=sK t;have n6:=h.fP;obtain⟨op,nn,la⟩:=ea;obtain⟨aF,n2,lb⟩:=eb;have ev:dD {mn a with steps:=a.steps+1} (.mk op nn la)=dx a (.mk op nn la):=l9 h.ok.1 _;have uw:dD (mn a) (.mk op nn la)=dx a (.mk op nn la):=l9 h.ok.1 _;obtain⟨mE,eE⟩:=Fc (A':={mn a with steps:=a.steps+1}) (k:=0+a.fs.length) (b':=a.b) (g:=⟨el,0,0,false,Z8,none⟩) mp tJ tJ ⟨rfl,rfl,rfl,rfl,rfl⟩ ⟨⟨by show(0:Int)<=0;omega,by show(0:Int)<=1000000;omega⟩,rfl⟩ mp.buf;rw[p2] at eE;obtain⟨n1,br,d⟩:=qY mE eE e1;obtain⟨n',cW,d2⟩:=d.again e1;have key:=j4n mc (h.ep hj) qB h.fP h.b6 (sI t hd.ak hs) ((tf h t cz _ hs).trans hk) (h.ax t) h.steps mp d.ep d2.ep mE d.run d2.run (by rw[uw];exact hz);exact te (a':=⟨a.vars,a.aA,a.l,b',aV.reverse,a.steps+1⟩) rfl rfl (uQ h.ok d h.ok.1 ab) d2.ep Gq key
theorem acr(mc:Mt LS B)(h:Good a)(hj:mC a bh c)(t:nF a bh f r m)(cz:a.fs.reverse=f::r)(hs:f.block[f.ak.toNat]? =some (.mk 5 to ea eb bd el))(hd:uO a f r 5 to)(hk:dX a=(1,0,0))(hz:0<kJ (dx a ea))(hf:fin {a with steps:=a.steps+1} (⟨bd,0,kJ (dx a ea) - 1,false,Z8,none⟩::{f with ak:=f.ak+1}::r) a.b=some a'):
 au pg B 271 (iS XT pg (az Tryd.f14) 4 (.int .i64 0)<|eh a') (sF 14 Tryd.f14 [.ptr<|some (270,0)]) (ah (ar++aX (gz a bh c)) 273):=by
 obtain⟨aV,b',e1,rfl⟩:=uP hf;have mp:=h.mp hj t;obtain⟨p1,p2,p3⟩:=sK t;have n6:=h.fP;obtain⟨op,nn,la⟩:=ea;obtain⟨aF,n2,lb⟩:=eb;have ev:dD {mn a with steps:=a.steps+1} (.mk op nn la)=dx a (.mk op nn la):=l9 h.ok.1 _;have uw:dD (mn a) (.mk op nn la)=dx a (.mk op nn la):=l9 h.ok.1 _;have h8:=Nn<|dx a<|.mk op nn la;obtain⟨mE,eE⟩:=Fc (A':={mn a with steps:=a.steps+1}) (k:=0+a.fs.length) (b':=a.b) (g:=⟨bd,0,kJ (dx a<|.mk op nn la) - 1,false,Z8,none⟩) mp tJ tJ ⟨rfl,rfl,rfl,rfl,rfl⟩ ⟨⟨by show 0<=kJ _ - 1;omega,by show kJ _ - 1<=1000000;omega⟩,rfl⟩ mp.buf;rw[p2] at eE;obtain⟨n1,br,d⟩:=qY mE eE e1;obtain⟨n',cW,d2⟩:=d.again e1;rw[←uw] at mE d hz h8;have key:=j5t mc (h.ep hj) qB h.fP h.b6 (sI t hd.ak hs) ((tf h t cz _ hs).trans hk) (h.ax t) h.steps mp d.ep d2.ep mE d.run d2.run ⟨hz,h8⟩;exact te (a':=⟨a.vars,a.aA,a.l,b',aV.reverse,a.steps+1⟩) rfl rfl (uQ h.ok d h.ok.1 ab) d2.ep Gq key
theorem acs(mc:Mt LS B)(h:Good a)(hj:mC a bh c)(t:nF a bh f r m)(cz:a.fs.reverse=f::r)(hs:f.block[f.ak.toNat]? =some (.mk 5 to ea eb bd el))(hd:uO a f r 5 to)(hk:dX a=(1,0,0))(hz:¬(0<kJ (dx a ea)))(hf:fin {a with steps:=a.steps+1} ({f with ak:=f.ak+1}::r) a.b=some a'):
 au pg B 271 (iS XT pg (az Tryd.f14) 4 (.int .i64 0)<|eh a') (sF 14 Tryd.f14 [.ptr<|some (270,0)]) (ah (ar++aX (gz a bh c)) 273):=by
 obtain⟨aV,b',e1,rfl⟩:=uP hf;have mp:=h.mp hj t;obtain⟨p1,p2,p3⟩:=sK t;have n6:=h.fP;obtain⟨op,nn,la⟩:=ea;obtain⟨aF,n2,lb⟩:=eb;have ev:dD {mn a with steps:=a.steps+1} (.mk op nn la)=dx a (.mk op nn la):=l9 h.ok.1 _;have uw:dD (mn a) (.mk op nn la)=dx a (.mk op nn la):=l9 h.ok.1 _;obtain⟨n',cW,d⟩:=qY mp p2 e1;have key:=j5o mc (h.ep hj) qB h.fP h.b6 (sI t hd.ak hs) ((tf h t cz _ hs).trans hk) (h.ax t) h.steps mp d.ep (by rw[uw];omega) d.run;exact te (a':=⟨a.vars,a.aA,a.l,b',aV.reverse,a.steps+1⟩) rfl rfl (uQ h.ok d h.ok.1 ab) d.ep Gr key
theorem ad7(mc:Mt LS B)(h:Good a)(hj:mC a bh c)(t:nF a bh f r m)(cz:a.fs.reverse=f::r)(hs:f.block[f.ak.toNat]? =some (.mk 7 to ea eb bd el))(hd:uO a f r 7 to)(hk:dX a=(1,0,0))(hf:fin {a with steps:=a.steps+1} (⟨bd,0,0,true,a.l,some el⟩::{f with ak:=f.ak+1}::r) (a.b++[[]])=some a'):
 au pg B 271 (iS XT pg (az Tryd.f14) 4 (.int .i64 0)<|eh a') (sF 14 Tryd.f14 [.ptr<|some (270,0)]) (ah (ar++aX (gz a bh c)) 273):=by
 obtain⟨aV,b',e1,rfl⟩:=uP hf;have mp:=h.mp hj t;obtain⟨p1,p2,p3⟩:=sK t;have n6:=h.fP;obtain⟨op,nn,la⟩:=ea;obtain⟨aF,n2,lb⟩:=eb;have ev:dD {mn a with steps:=a.steps+1} (.mk op nn la)=dx a (.mk op nn la):=l9 h.ok.1 _;have uw:dD (mn a) (.mk op nn la)=dx a (.mk op nn la):=l9 h.ok.1 _;have h6:a.b.length<7:=by have:=h.b6;omega
 obtain⟨mE,eE⟩:=Fc (A':={mn a with steps:=a.steps+1}) (k:=0+a.fs.length) (b':=a.b++[[]]) (g:=⟨bd,0,0,true,a.l,some el⟩) mp tJ tJ ⟨rfl,rfl,rfl,rfl,rfl⟩ ⟨⟨by show(0:Int)<=0;omega,by show(0:Int)<=1000000;omega⟩,h.ok.1⟩<|NU mp.buf h6;rw[p2] at eE;obtain⟨n1,br,d⟩:=qY mE eE e1;obtain⟨n',cW,d2⟩:=d.again e1;rw[←W6 h.ok.1] at mE d;have key:=j7 mc (h.ep hj) qB h.fP h.b6 (sI t hd.ak hs) ((tf h t cz _ hs).trans hk) (h.ax t) h.steps mp d.ep d2.ep mE d.run d2.run h6;exact te (a':=⟨a.vars,a.aA,a.l,b',aV.reverse,a.steps+1⟩) rfl rfl (uQ h.ok d h.ok.1 ab) d2.ep Gq key
theorem ad8(mc:Mt LS B)(h:Good a)(hj:mC a bh c)(t:nF a bh f r m)(cz:a.fs.reverse=f::r)(hs:f.block[f.ak.toNat]? =some (.mk 6 to ea eb bd el))(hd:uO a f r 6 to)(hk:dX a=(1,0,0)){fb ol:List St}{fa ft:Int}{fo:Bool}{kept:List Int}{r':List Fr}(Ab:below (f::r)=some (⟨fb,fa,ft,fo,kept,some ol⟩,r'))(hf:fin {a with l:=kept,steps:=a.steps+1} (⟨ol,0,0,false,Z8,none⟩::r') a.b.dropLast=some a'):
 au pg B 271 (iS XT pg (az Tryd.f14) 4 (.int .i64 0)<|eh a') (sF 14 Tryd.f14 [.ptr<|some (270,0)]) (ah (ar++aX (gz a bh c)) 273):=by
 obtain⟨aV,b',e1,rfl⟩:=uP hf;have mp:=h.mp hj t;obtain⟨p1,p2,p3⟩:=sK t;have n6:=h.fP;obtain⟨op,nn,la⟩:=ea;obtain⟨aF,n2,lb⟩:=eb;have ev:dD {mn a with steps:=a.steps+1} (.mk op nn la)=dx a (.mk op nn la):=l9 h.ok.1 _;have uw:dD (mn a) (.mk op nn la)=dx a (.mk op nn la):=l9 h.ok.1 _;obtain⟨hr,ye⟩:=hd.ahn rfl _ _ Ab;have P2:∃Yl,below ({f with ak:=f.ak+1}::r)=some ((⟨fb,Yl,ft,fo,kept,some ol⟩:Fr),r'):=by
  rw[Th (f1:={f with ak:=f.ak+1}) (f:=f) (r:=r) rfl];rw[Th (f1:=f) (f:=f) rfl] at Ab;by_cases c:f.bV=true
  ·rw[if_pos c] at Ab ⊢;injection Ab with Ab
   injection Ab with g1 g2
   subst g1;subst g2;exact⟨_,rfl⟩
  ·rw[if_neg c] at Ab ⊢;exact⟨_,Ab⟩
 obtain⟨Yl,P2⟩:=P2;obtain⟨_,hw⟩:=Nl (0+a.fs.length) _ _ tJ p2;obtain⟨i,w1,w2,w3,w4⟩:=hw _ _ P2;have hi:1<=i:=by
  cases i with
  |zero=>exact absurd w4.symm (by rw[List.take_zero];exact hr)
  |succ i=>omega
 have QU:kept.length=8:=(mp.nY _<|List.mem_of_getElem? w3).2;obtain⟨y0,y1,y2,y3,y4,y5,y6,y7,rfl⟩:=len8 QU;have iu:((i:Int)).toNat=i:=by omega
 obtain⟨mE,eE⟩:=Fc (A':={mn a with steps:=a.steps+1,x0:=y0,x1:=y1,x2:=y2,x3:=y3,x4:=y4,x5:=y5,x6:=y6,x7:=y7}) (k:=i) (b':=a.b.dropLast) (g:=⟨ol,0,0,false,Z8,none⟩) mp tJ tJ ⟨rfl,rfl,rfl,rfl,rfl⟩ ⟨⟨by show(0:Int)<=0;omega,by show(0:Int)<=1000000;omega⟩,rfl⟩<|NV mp.buf ye;rw[w4] at eE;obtain⟨n1,br,d⟩:=qY mE eE e1;obtain⟨n',cW,d2⟩:=d.again e1;have hn:i+1<=1000:=by omega
 rw[←iu] at mE d w3;have key:=j6 (wi:=(i:Int)) mc (h.ep hj) qB h.fP h.b6 (sI t hd.ak hs) ((tf h t cz _ hs).trans hk) (h.ax t) h.steps mp d.ep d2.ep mE d.run d2.run w1 ⟨by omega,by omega⟩ w3 ye;exact te (a':=⟨a.vars,a.aA,[y0,y1,y2,y3,y4,y5,y6,y7],b',aV.reverse,a.steps+1⟩) rfl rfl (uQ h.ok d2 rfl (by have:=d.le;omega)) d2.ep Gq key
end
end zA
end
section
open Go Go.Rn Go.RowKit Go.Proofs
namespace qC
open ch fT eX iq eO cG dj cQ di fW fD gH gQ gW gj gk hU iC iD iT jd jW kj kS jX fO iB nh nS lV oX mj vN nT zA
variable {L:bO}
noncomputable section
structure OH (a:dF):Prop where
 pM:Good a
 top:a.fs=[]\/∃f r s,a.fs.reverse=f::r/\0<=f.ak/\f.block[f.ak.toNat]? =some s
structure Ip (a:dF):Prop where
 pM:Good a
 ask:dX a=(1,0,0)
 top:∃f r kind to ea eb bd el,a.fs.reverse=f::r/\f.block[f.ak.toNat]? =some (.mk kind to ea eb bd el)/\uO a f r kind to
structure Jy (a:dF):Prop where
 pM:Good a
 ask:∃v,dX a=(2,v,0)
 top:∃f r kind to ea eb bd el,a.fs.reverse=f::r/\0<=f.ak/\f.block[f.ak.toNat]? =some (.mk kind to ea eb bd el)/\0<=to/\to<8
section
variable {B:aJ} {a a':dF} {bh:List Fr} {c:Nat}
theorem acu(mc:Mt LS B)(h:Ip a)(hj:mC a bh c)(hs:qm a=some a'):
 au pg B 271 (iS XT pg (az Tryd.f14) 4 (.int .i64 0)<|eh a') (sF 14 Tryd.f14 [.ptr<|some (270,0)]) (ah (ar++aX (gz a bh c)) 273):=by
 obtain⟨hg,hk,f,r,kind,to,ea,eb,bd,el,cz,hb,hd⟩:=h;obtain⟨m,t⟩:=OG (bh:=bh) cz;unfold qm at hs;rw[cz] at hs;simp only[hb] at hs;by_cases c1:kind=1
 ·subst c1;rw[if_pos rfl] at hs;exact ad4 mc hg hj t cz hb hd hk hs
 rw[if_neg c1] at hs;by_cases c2:kind=2
 ·subst c2;rw[if_pos rfl] at hs;exact ad5 mc hg hj t cz hb hd hk hs
 rw[if_neg c2] at hs;by_cases c3:kind=3
 ·subst c3;rw[if_pos rfl] at hs;exact ad6 mc hg hj t cz hb hd hk hs
 rw[if_neg c3] at hs;by_cases c4:kind=4
 ·subst c4;rw[if_pos rfl] at hs;by_cases z:dx a ea=0
  ·rw[if_neg fun q=>q z] at hs;exact acq mc hg hj t cz hb hd hk z hs
  ·rw[if_pos z] at hs;exact acp mc hg hj t cz hb hd hk z hs
 rw[if_neg c4] at hs;by_cases c5:kind=5
 ·subst c5;rw[if_pos rfl] at hs;by_cases z:0<kJ (dx a ea)
  ·rw[if_pos z] at hs;exact acr mc hg hj t cz hb hd hk z hs
  ·rw[if_neg z] at hs;exact acs mc hg hj t cz hb hd hk z hs
 rw[if_neg c5] at hs;by_cases c6:kind=6
 ·subst c6;rw[if_pos rfl] at hs;split at hs
  ·rename_i e;exact ad8 mc hg hj t cz hb hd hk e hs
  ·cases hs
 rw[if_neg c6] at hs;by_cases c7:kind=7
 ·subst c7;rw[if_pos rfl] at hs;exact ad7 mc hg hj t cz hb hd hk hs
 rw[if_neg c7] at hs;cases hs
theorem ad9(mc:Mt LS B)(h:Jy a)(hj:mC a bh c){x:Int}(hs:nw a x=some a'):
 au pg B 271 (iS XT pg (az Tryd.f40) 4 (.int .i64 0)<|eh a') (sF 40 Tryd.f40 [.ptr<|some (270,0),.int .i64 x]) (ah (ar++aX (gz a bh c)) 273):=by
 obtain⟨hg,⟨v,hk⟩,f,r,kind,to,ea,eb,bd,el,cz,h0,hb,t0,t8⟩:=h;obtain⟨m,t⟩:=OG (bh:=bh) cz;have k2:kind=2:=by
  have hk:=hk;unfold dX at hk;rw[cz] at hk;simp only[hb] at hk;split at hk
  ·injection hk with q;exact absurd q ab
  split at hk
  ·injection hk with q;exact absurd q ab
  split at hk
  ·rename_i q;exact q.1
  ·injection hk with q;exact absurd q ab
 subst k2;unfold nw at hs;rw[cz] at hs;simp only[hb] at hs;obtain⟨aV,b',e1,rfl⟩:=uP hs;have mp:=hg.mp hj t;obtain⟨p1,p2,p3⟩:=sK t;have n6:=hg.fP;obtain⟨n',cW,d⟩:=qY (mp.im (i:=to) (z:=x)) p2 e1;have ha:=(tf hg t cz _ hb).trans hk;obtain⟨op,nn,la⟩:=ea;obtain⟨aF,n2,lb⟩:=eb;have key:=jA mc (hg.ep hj) qB hg.fP hg.b6 (sI t h0 hb) ha (hg.ax t) hg.steps mp d.ep t0 t8 mp.im d.run;exact te (a':=⟨a.vars,a.aA,a.l.set to.toNat x,b',aV.reverse,a.steps+1⟩) (N6 hg.ok.1 t0 t8) rfl (uQ hg.ok d (by rw[List.length_set];exact hg.ok.1) ab) d.ep Gr key
theorem aea(mc:Mt [l7,iL,jE,kO,lY] B)(h:OH a)(hj:mC a bh c):
 au pg B 271 (iS XT pg (az Tryd.f13) 4 (BD<|dX a)<|eh a) (sF 13 Tryd.f13 [.ptr<|some (270,0)]) (ah (ar++aX (gz a bh c)) 273):=by
 have key:∃o,mH (a.fs++bh) a.fs.length o/\nQ (mn a) (iG (a.fs++bh) a.fs.length) a.b o=dX a:=by
  rcases h.top with e|⟨f,r,s,cz,h0,hb⟩
  ·refine⟨none,.inl ⟨by rw[e];rfl,rfl⟩,?_⟩;unfold dX;rw[e];rfl
  ·obtain⟨m,t⟩:=OG (bh:=bh) cz;exact⟨some s,sI t h0 hb,tf h.pM t cz s hb⟩
 obtain⟨o,h1,h2⟩:=key;have hm:=h.pM.ep hj;have H:=UW mc hm h.pM.fP h.pM.b6 h1;rw[h2] at H;refine te (a':=a) rfl rfl h.pM.ok hm (by rw[List.take_left])<|Kn ab (fun _ _ _ _ q=>q) H
end
open Classical in
def Ga(a:dF)(rest:List AV):Option<|AV×dF:=if rest=[]/\Ip a then(qm a).map fun a'=>(.int .i64 0,a') else none
open Classical in
def zB(a:dF)(rest:List AV):Option<|AV×dF:=match rest with
 |[.int .i64 x]=>if Jy a then(nw a x).map fun a'=>(.int .i64 0,a') else none
 |_=>none
open Classical in
def Ko(a:dF)(rest:List AV):Option<|AV×dF:=if rest=[]/\OH a then some (BD<|dX a,a) else none
def Wk:FuncId×KE:=(14,.tok 4<|gV eh Ga)
def W7:FuncId×KE:=(40,.tok 4<|gV eh zB)
theorem VD(hP:bS pg):aY LS:=ad3 hP<|Ni hP<|CS hP<|Fo hP<|Im hP<|Ma hP<|Sq hP<|adZ hP<|acm hP<|aa9 hP<|aa4 hP<|aa5 hP dc
theorem Fp{a:dF}{bh:List Fr}{c:Nat}:∀p∈gz a bh c,p.1<273:=fun p hp=>by simp only[gz,List.mem_cons,List.not_mem_nil,or_false] at hp;rcases hp with rfl|rfl|rfl<;>(show _<273;simp only;omega)
theorem acv(hP:bS pg)(h:aY L):aY<|Wk::L:=by
 refine NL yo hP gU rf jR jj mh lU h (VD hP) Tryd.func14 (body:=aR pg 14 []) aW aW fun v rest y v' e=>?_;obtain⟨a,a',rfl,e1,rfl⟩:=Ig e;unfold Ga at e1;split at e1
 ·rename_i q;obtain⟨rfl,hd⟩:=q;cases hs:qm a with
  |none=>rw[hs] at e1;cases e1
  |some a2=>
   rw[hs] at e1;injection e1 with e1;injection e1 with e2 e3
   subst e2;subst e3;refine⟨aL.1 aW,fun L hx=>?_⟩;generalize hv:eh a=v at hx;cases hx with
   |tL b hb bh c hj=>have:=uI _ _ hv;subst this;exact⟨273,by omega,aL.1 aW,Fp,fun B mc=>acu mc hd hj hs⟩
 ·cases e1
theorem aeb(hP:bS pg)(h:aY L):aY<|W7::L:=by
 refine NL yo hP gU rf jR jj mh lU h (VD hP) Tryd.func40 (body:=aR pg 40 []) aW aW fun v rest y v' e=>?_;obtain⟨a,a',rfl,e1,rfl⟩:=Ig e;unfold zB at e1;split at e1
 ·rename_i x;split at e1
  ·rename_i hd;cases hs:nw a x with
   |none=>rw[hs] at e1;cases e1
   |some a2=>
    rw[hs] at e1;injection e1 with e1;injection e1 with e2 e3
    subst e2;subst e3;refine⟨aL.1 aW,fun L hx=>?_⟩;generalize hv:eh a=v at hx;cases hx with
    |tL b hb bh c hj=>have:=uI _ _ hv;subst this;exact⟨273,by omega,aL.1 aW,Fp,fun B mc=>ad9 mc hd hj hs⟩
  ·cases e1
 ·cases e1
end
end qC
end
section
open Go Go.Rn Go.RowKit Go.Proofs
namespace DT
open ch cQ fT eX iq cG eO dj jX kj gk hU mj nT qC gj jW
variable {S:Type} {rest:List AV} {f:S->List AV->Option AV} {enc:S->AV}
noncomputable section
def oK(enc:S->AV)(f:S->List AV->Option AV)(v:AV)(rest:List AV):Option AV:=(gV enc (fun a r=>(f a r).map fun y=>(y,a)) v rest).map (·.1)
theorem Ir(inj:∀a b,enc a=enc b->a=b){a:S}:oK enc f (enc a) rest=f a rest:=by unfold oK;rw[AI inj];cases f a rest<;>rfl
theorem H4{v:AV}{y:AV}(h:oK enc f v rest=some y):∃a,v=enc a/\f a rest=some y:=by
 unfold oK at h;cases q:gV enc (fun a r=>(f a r).map fun y=>(y,a)) v rest with
 |none=>rw[q] at h;cases h
 |some p=>
  rw[q] at h;injection h with h;subst h
  obtain⟨y,v'⟩:=p;obtain⟨a,a',e1,e2,e3⟩:=Ig q;refine⟨a,e1,?_⟩;cases q2:f a rest with
  |none=>rw[q2] at e2;cases e2
  |some z=>rw[q2] at e2;injection e2 with e2;injection e2 with e2 _;exact congrArg some e2
def VE:FuncId×KE:=(13,.raw<|oY 4<|oK eh fun a rest=>(Ko a rest).map (·.1))
theorem abf(hP:bS pg){L:bO}(h:aY L):aY<|VE::L:=by
 refine Iq yo hP gU rf jR jj mh lU h (Ni hP<|CS hP<|Fo hP<|Im hP<|Ma hP dc) Tryd.func13 (body:=aR pg 13 []) aW aW fun v rest y e=>?_;obtain⟨a,rfl,e1⟩:=H4 e;unfold Ko at e1;split at e1
 ·rename_i q;obtain⟨rfl,hd⟩:=q;injection e1 with e1
  have e1:BD (dX a)=y:=e1;subst e1;refine⟨aL.1 aW,fun L hx=>?_⟩;generalize hv:eh a=v at hx;cases hx with
  |tL b hb bh c hj=>have:=uI _ _ hv;subst this;exact⟨273,by omega,aL.1 aW,Fp,fun B mc=>aea mc hd hj⟩
 ·cases e1
end
end DT
end
section
open Go Go.Rn Go.RowKit Go.Proofs
namespace tW
open ch eO fT iq PX lV tO gj
variable {r d:List<|Int×Int} {fz:kR} {q:Int×Int} {i:Nat} {o0:List<|Nat×Option ae}
noncomputable section
theorem rG:mf 2 aS:=⟨fun _=>rfl,fun _=>rfl⟩
theorem Xb(x:Int×Int):(aS x).length=2/\(aS x).all AV.bR=true:=⟨rfl,rfl⟩
def allM(ms:bf):List<|Int×Int:=ms.foldl fe []
theorem Mb{ms:bf}(hd:dU d):dU<|ms.foldl fe d:=by
 induction ms generalizing d with
 |nil=>exact hd
 |cons m ms ih=>exact ih<|dU.merge hd
def al6:FuncId×KE:=yv
def afI:FuncId×KE:=(60,.raw fun _ _ _=>tC 61)
abbrev LA:bO:=[yv,afI]
def KA:List Item:=[.code<|aR pg 41 [1,1,1,0,1,0,0],.inLoop<|aR pg 41 [1,1,1,0,1,0,0],.inBlock 0,.code<|aR pg 41 [1,1,1,1]]
def pW(n:Nat)(cap:bW)(i:Nat):List<|Nat×AV:=[(3,.map<|some 279),(15,.slice (some (271,0)) n cap),(16,.int .i64<|.ofNat n),(17,.int .i64<|.ofNat i)]
abbrev kv:Nat:=max Tryd.f41.ntmps 1
def n9(n:Nat)(cap:bW)(i:Nat):AF:=⟨41,aE<|pW n cap i,kv,KA,[],none⟩
abbrev oA(ms:bf)(cap:bW)(d:List<|Int×Int):List<|Nat×Option ae:=ar++aX (dL ms cap++[(279,bz d)])
abbrev cR(ms:bf)(cap:bW)(d:List<|Int×Int):AS:=ah (oA ms cap d) 280
abbrev gR(B:aJ)(lo:Nat)(ms:bf)(fr:AF)(s:AS):Prop:=au pg B lo (iS XT pg (az Tryd.f41) 3 (aw aS<|dP<|allM ms)<|bI ms) fr s
abbrev RA(ms:bf):AV->AS->Prop:=fun y s=>oV 3 (aw aS<|dP<|allM ms) (bI ms) s y
section
variable {B:aJ} {ms:bf} {cap:bW}
theorem JW{lo bw nx:Nat}{l0 l:List<|Nat×AV}{o:List<|Nat×Option ae}(h1:lo<=nx)(h2:nx<=bw)(h3:bw<top)(hs:∀r:Nat->Nat,(∀k,k<nx->r k=k)->(∀k,top<=k->r k=k)->∀p∈l,p.1<top/\∃x,(p.1,x)∈l0/\jC fz r x p.2)(ho:∀r:Nat->Nat,(∀k,k<nx->r k=k)->(∀k,top<=k->r k=k)->∀p∈o,p.1<nx/\∀y,p.2=some y->y.jP=true/\∃x,(p.1,some x)∈o0/\fK x y/\fj fz r x y)(hz:∀p∈fz,nx<=p.1/\p.1<top/\FU p.2.1=some p.2.2/\∃N t z,(p.1,some<|.cells N t z)∈o0/\∀i x,p.2.2[i]? =some x->i<N/\cellAt t z i=some x/\x.bR=true/\x.cM=true):hJ FU lo bw l0 o0 l o nx:=by
 let r:Nat->Nat:=fun k=>if k<nx\/top<=k then k else max k bw
 have r1:∀k,k<nx->r k=k:=fun k hk=>if_pos<|.inl hk;have r2:∀k,top<=k->r k=k:=fun k hk=>if_pos<|.inr hk;refine⟨fz,r,fun k hk=>r1 k ab,fun k a b=>?_,r2,by omega,hs r r1 r2,fun p hp=>?_,fun p hp q hq _ _ e=>?_,fun p hp=>?_,fun p hp q hq _ e=>?_⟩
 ·show bw<=(if _ then _ else _)/\(if _ then _ else _)<top;rw[if_neg ab];omega
 ·obtain⟨a,b⟩:=ho r r1 r2 p hp;exact⟨by omega,fun y hy=>by obtain⟨c1,x,c2,c3,c4⟩:=b y hy;rw[r1 _ a];exact⟨by omega,c1,x,c2,c3,c4⟩⟩
 ·have a:=(ho r r1 r2 p hp).1;have b:=(ho r r1 r2 q hq).1;rw[r1 _ a,r1 _ b] at e;exact e
 ·exact(hz p hp).2
 ·have a:=(ho r r1 r2 q hq).1;rw[r1 _ a] at e;have:=(hz p hp).1;omega
theorem UZ{fz:kR}{r:Nat->Nat}(hr:∀k,k<279->r k=k):∀{l:List AV},(∀x∈l,∃i,x= .map (some i)/\i<279)->kK fz r l l
 |[],_=>trivial
 |x::l,h=>⟨by obtain⟨i,rfl,hi⟩:=h x List.mem_cons_self;exact(bg.map<|hr i hi).z,UZ hr fun y hy=>h y<|List.mem_cons_of_mem _ hy⟩
theorem OI(h:de ms){r:Nat->Nat}(hr:∀k,k<279->r k=k):∀p∈dL ms cap,p.1<279/\p.2.jP=true/\fj fz r p.2 p.2:=fun p hp=>by
 refine⟨Nc h p hp,?_⟩;have h7:=h.1.2;rcases List.mem_cons.1 hp with rfl|hp
 ·exact⟨rfl,fj.cells (l:=[.slice (some (271,0)) ms.length cap]) (m:=[.slice (some (271,0)) ms.length cap]) (by show 1<=top;unfold top;omega) ⟨(bg.slice<|hr 271 ab).z,trivial⟩ rfl⟩
 rcases List.mem_cons.1 hp with rfl|hp
 ·refine⟨rfl,?_⟩;have e:((jQ ms.length).map hI).flatten=jQ ms.length:=FF _;show fj fz r (.cells ((jQ ms.length).map hI).flatten.length (Tr.fill ((jQ ms.length).map hI).flatten 0 .nil) [])<|.cells ((jQ ms.length).map hI).flatten.length (Tr.fill ((jQ ms.length).map hI).flatten 0 .nil) [];rw[e];refine fj.cells (by rw[Ng];unfold top;omega) (UZ hr fun x hx=>?_)<|Nf _;obtain⟨i,hi,rfl⟩:=List.mem_map.1 hx;exact⟨_,rfl,by have:=List.mem_range.1 hi;omega⟩
 ·obtain⟨_,_,m,e⟩:=HV hp;rw[e];exact⟨rfl,fun _ _ _ _ _ k=>uL k⟩
theorem Dy{r:Nat->Nat}(hr:∀k,k<270->r k=k):∀p∈ar,p.1<270/\∀y,p.2=some y->y.jP=true/\fj fz r y y:=fun p hp=>by
 have h1:(ar.all fun p=>Nat.blt p.1 270&&(match p.2 with|some x=>x.jP|none=>true))=true:=by as_aux_lemma=>kernel_rfl
 obtain⟨a,b⟩:=and_true.1<|List.all_eq_true.1 h1 p hp;refine⟨(blt_eq _ _).mp a,fun y hy=>?_⟩;rw[hy] at b;exact⟨b,(E9 (nx:=270) hr bY p hp y hy).z⟩
theorem Pq(h:de ms){nx:Nat}(cr:279<=nx){r:Nat->Nat}(hr:∀k,k<nx->r k=k){more less:List<|Nat×ae}(hm:∀p∈more,p.1<nx/\p.2.jP=true/\∃x,(p.1,x)∈less/\fK x p.2/\fj fz r x p.2):
 ∀p∈ar++aX (dL ms cap++more),p.1<nx/\∀y,p.2=some y->y.jP=true/\∃x,(p.1,some x)∈ar++aX (dL ms cap++less)/\fK x y/\fj fz r x y:=fun p hp=>by
 rcases List.mem_append.1 hp with hp|hp
 ·obtain⟨a,b⟩:=Dy (fz:=fz) (fun k hk=>hr k ab) p hp;refine⟨by omega,fun y hy=>?_⟩;obtain⟨c,d⟩:=b y hy;exact⟨c,y,List.mem_append_left _ (by rw[←hy];exact hp),fK.refl _,d⟩
 ·rw[wM] at hp;obtain⟨q,hq,rfl⟩:=List.mem_map.1 hp;rcases List.mem_append.1 hq with hq|hq
  ·obtain⟨a,b,c⟩:=OI h (fz:=fz) (fun k hk=>hr k ab) q hq;refine⟨by show q.1<nx;omega,fun y hy=>?_⟩;cases hy;exact⟨b,_,List.mem_append_right _ (by rw[wM];exact List.mem_map.2 ⟨q,List.mem_append_left _ hq,rfl⟩),fK.refl _,c⟩
  ·obtain⟨a,b,x,c,d,e⟩:=hm q hq;refine⟨a,fun y hy=>?_⟩;cases hy;exact⟨b,x,List.mem_append_right _ (by rw[wM];exact List.mem_map.2 ⟨(q.1,x),List.mem_append_right _ c,rfl⟩),d,e⟩
theorem QV(mc:Mt LA B)(h:de ms)(H:gR B 271 ms (n9 ms.length cap 0)<|cR ms cap [])(k:(((pW ms.length cap 0).map (fun q=>some q.2)=(pW ms.length cap 0).map (fun q=>some q.2))/\((ar++aX (dL ms cap++[(279,xQ [])])).map (fun q=>q.2)=(ar++aX (dL ms cap++[(279,xQ [])])).map (fun q=>q.2))/\hJ FU 271 280 (pW ms.length cap 0) (ar++aX (dL ms cap++[(279,xQ [])])) (pW ms.length cap 0) (oA ms cap []) 280/\(n9 ms.length cap 0=n9 ms.length cap 0/\cR ms cap []=cR ms cap []))=
 wp (o9 LA) 900 6 (.fr 41 kv (cO 41 []) (dt [.ptr<|some (270,0)])<|ah (ar++aX (dL ms cap)) 279) (.st 14<|.rn (pW ms.length cap 0) (ar++aX (dL ms cap++[(279,xQ [])])) (pW ms.length cap 0) (oA ms cap []) 280 280 .no) (az Tryd.f41) (fun y s _=>RA ms y s) (fun fr s1 _=>fr=n9 ms.length cap 0/\s1=cR ms cap []):=by as_aux_lemma=>kernel_rfl):
 gR B 271 ms ⟨41,dt [.ptr<|some (270,0)],kv,(cO 41 []),[],none⟩ (ah (ar++aX (dL ms cap)) 279):=
 B6 mc (fun fr s1 _ hC=>by obtain⟨rfl,rfl⟩:=hC;exact H) _ ⟨rfl,rfl,JW (fz:=[]) ab ab dZ (fun r hr ht p hp=>by
  simp only[pW,List.mem_cons,List.not_mem_nil,or_false] at hp;rcases hp with rfl|rfl|rfl|rfl
  ·exact⟨by unfold top;omega,_,mi 0,(bg.map<|hr 279 ab).z⟩
  ·exact⟨by unfold top;omega,_,mi 1,(bg.slice<|hr 271 ab).z⟩
  ·exact⟨by unfold top;omega,_,mi 2,vi⟩
  ·exact⟨by unfold top;omega,_,mi 3,vi⟩) (fun r hr ht=>Pq h ab hr fun p hp=>by
   rw[List.mem_singleton] at hp;subst hp;exact⟨by show 279<280;omega,rfl,_,List.mem_singleton.2 rfl,Om,Pk List.nodup_nil⟩) (fun p hp=>by cases hp),rfl,rfl⟩ k bY
theorem P0(mc:Mt LA B)(hd:dU d)(hm:dU<|ms.getD i [])(H:gR B 271 ms (n9 ms.length cap<|i+1)<|cR ms cap<|fe d<|ms.getD i [])(hi:272+i<279)(hk:pK 270 dG dT (cR ms cap d)=true:=by as_aux_lemma=>kernel_rfl)(ha:Nat.blt 279 (dB 270 dG dT<|cR ms cap d).nx=true:=by as_aux_lemma=>kernel_rfl)(hb:Nat.blt (272+i) (dB 270 dG dT<|cR ms cap d).nx=true:=by as_aux_lemma=>kernel_rfl)(g1:(dB 270 dG dT<|cR ms cap d).h.get 279=some (bz d):=by as_aux_lemma=>kernel_rfl)(g2:(dB 270 dG dT<|cR ms cap d).h.get (272+i)=some (bz<|ms.getD i []):=by as_aux_lemma=>kernel_rfl)(k:(bc pg (sp LA) FU 6 (.fn 59) [.map<|some 279,.map<|some<|272+i] (cR ms cap d)= .ok (.tuple []) (QH 279 (272+i) d (ms.getD i [])<|cR ms cap d)/\((pW ms.length cap<|i+1).map (fun q=>some q.2)=(pW ms.length cap<|i+1).map (fun q=>some q.2))/\((oA ms cap<|fe d<|ms.getD i []).map (fun q=>q.2)=(oA ms cap<|fe d<|ms.getD i []).map (fun q=>q.2))/\(n9 ms.length cap (i+1)=n9 ms.length cap (i+1)/\cR ms cap (fe d<|ms.getD i [])=cR ms cap (fe d<|ms.getD i [])))=
 wp (o9 LA) 900 6 (.fr 41 kv KA (aE<|pW ms.length cap i)<|cR ms cap d) (.st 9<|.rg<|.go 2<|.cu (.tuple []) (QH 279 (272+i) d (ms.getD i [])<|cR ms cap d)<|.en<|.st 3<|.ls (pW ms.length cap<|i+1) (oA ms cap<|fe d<|ms.getD i []) 280 .no) (az Tryd.f41) (fun y s _=>RA ms y s) (fun fr s1 _=>fr=n9 ms.length cap (i+1)/\s1=cR ms cap (fe d<|ms.getD i [])):=by as_aux_lemma=>kernel_rfl):
 gR B 271 ms (n9 ms.length cap i) (cR ms cap d):=
 B6 mc (fun fr s1 _ hC=>by obtain⟨rfl,rfl⟩:=hC;exact H) _ ⟨UB (P:=pg) (sp:=sp LA) aW hk ab ha hb Gs Gs g1 g2 hd hm,rfl,rfl,rfl,rfl⟩ k bY
theorem aee{l:bf}(h:i<l.length):l.getD i []∈l:=by rw[List.getD_eq_getElem?_getD,List.getElem?_eq_getElem h];exact List.getElem_mem h
theorem Nh(mc:Mt LA B)(h:de ms)(hd:dU d)(hi:i<ms.length)(H:gR B 271 ms (n9 ms.length cap<|i+1)<|cR ms cap<|fe d<|ms.getD i []):gR B 271 ms (n9 ms.length cap i)<|cR ms cap d:=by
 have hm:=h.2 _<|aee hi;have h7:=h.1.2;rcases(F2 h.1).imp (fun q=>fP ⟨h.1.1,q⟩) id with(⟨m0,rfl⟩|⟨m0,m1,rfl⟩|⟨m0,m1,m2,rfl⟩|⟨m0,m1,m2,m3,rfl⟩|⟨m0,m1,m2,m3,m4,rfl⟩|⟨m0,m1,m2,m3,m4,m5,rfl⟩)|⟨m0,m1,m2,m3,m4,m5,m6,rfl⟩
 all_goals
  simp only[List.length_cons,List.length_nil] at hi;obtain rfl|rfl|rfl|rfl|rfl|rfl|rfl:i=0\/i=1\/i=2\/i=3\/i=4\/i=5\/i=6:=by omega
  all_goals first|(exfalso;omega)|exact P0 mc hd hm H ab
def KN:List Item:=[.code<|aR pg 41 [1,1,1,1,1,0,1,0,0,1],.inLoop<|aR pg 41 [1,1,1,1,1,0,1,0,0],.inBlock 2,.code<|aR pg 41 [1,1,1,1,1,1]]
def fm(t:Tr AV):AF:=⟨41,t,kv,.code (aR pg 41 [1,1,1,1,1,0,1,0,0,0])::KN,[],none⟩
def fF(t:Tr AV)(v:AV)(b:Bool):AF:=⟨41,(t.put 27<|some v).put 28<|some<|.bool b,kv,KN,[],none⟩
def oL(ms:bf)(cap:bW)(D left:List<|Int×Int)(cur:Option<|AV×AV):List<|Nat×ae:=dL ms cap++[(279,.iA),(280,.iter 279 (cn D) false (cn left) cur)]
def oO:List (Int×Int)->List (Nat×ae)
 |[]=>[]
 |p::r=>[(281,aC aS<|p::r)]
def aiJ:List (Int×Int)->AV
 |[]=>.slice none 0<|.known 0
 |p::r=>.slice (some (281,0)) (p::r).length<|.aq (p::r).length 2
def nO:List (Int×Int)->Nat
 |[]=>281
 |_::_=>282
def ia(ms:bf)(cap:bW)(D left:List<|Int×Int)(cur:Option<|AV×AV)(out:List<|Int×Int):AS:=ah (ar++aX (oL ms cap D left cur++oO out))<|nO out
def fx(out:List<|Int×Int):List<|Nat×AV:=[(3,.map<|some 279),(6,aiJ out),(25,.map<|some 279),(26,.ptr<|some (280,0))]
def ur:Oper:=(opsOf<|aR pg 41 [1,1,1,1,1,0,1,0,0,0]).toList.headD default
def tV:Array Oper:=opsOf<|aR pg 41 [1,1,1,1,1,0,1,0,0,0]
def tB:List Oper:=(opsOf<|aR pg 41 [1,1,1,1,1,0,1,0,0,0]).toList.tail
def np:Env:=xX pg 270 dT dG LA 281 true
theorem asks(t:Tr AV):As (fm t)=some (.tmp 26,ur,tV,tB,KN):=by kernel_rfl
def fy(ms:bf)(cap:bW)(D out:List<|Int×Int):AS:=ah (ar++(aX (dL ms cap++[(279,bz D)])++((280,none)::aX (oO out))))<|nO out
theorem u7{p:bf->Prop}(h:de ms)(h1:∀m0,p [m0])(h2:∀m0 m1,p [m0,m1])(h3:∀m0 m1 m2,p [m0,m1,m2])(h4:∀m0 m1 m2 m3,p [m0,m1,m2,m3])(h5:∀m0 m1 m2 m3 m4,p [m0,m1,m2,m3,m4])(h6:∀m0 m1 m2 m3 m4 m5,p [m0,m1,m2,m3,m4,m5])(h7:∀m0 m1 m2 m3 m4 m5 m6,p [m0,m1,m2,m3,m4,m5,m6]):p ms:=by
 rcases(F2 h.1).imp (fun q=>fP ⟨h.1.1,q⟩) id with(⟨m0,rfl⟩|⟨m0,m1,rfl⟩|⟨m0,m1,m2,rfl⟩|⟨m0,m1,m2,m3,rfl⟩|⟨m0,m1,m2,m3,m4,rfl⟩|⟨m0,m1,m2,m3,m4,m5,rfl⟩)|⟨m0,m1,m2,m3,m4,m5,m6,rfl⟩
 ·exact h1 _
 ·exact h2 _ _
 ·exact h3 _ _ _
 ·exact h4 _ _ _ _
 ·exact h5 _ _ _ _ _
 ·exact h6 _ _ _ _ _ _
 ·exact h7 _ _ _ _ _ _ _
section
variable {D left out:List<|Int×Int} {cur:Option<|AV×AV} {k v:Int}
theorem Wl(h:de ms):qW (fm<|aE<|fx out) (.tmp 26) (ia ms cap D left cur out)= .ok (280,.iter 279 (cn D) false (cn left) cur) (ia ms cap D left cur out):=by revert h;intro h;cases out<;>(refine u7 (p:=fun ms=>qW (fm<|aE<|fx _) (.tmp 26) (ia ms cap D left cur _)= .ok (280,.iter 279 (cn D) false (cn left) cur) (ia ms cap D left cur _)) h ?_ ?_ ?_ ?_ ?_ ?_ ?_<;>intros<;>kernel_rfl)
theorem aho(h:de ms){YG:aK}:nu pg YG (fm<|aE<|fx out) 280 279 (cn D) false ur tV tB KN (ia ms cap D left cur out)= .ok (fF (aE<|fx out) (.tuple [.bool false]) false) (fy ms cap D out):=by cases out<;>(refine u7 (p:=fun ms=>nu pg YG (fm<|aE<|fx _) 280 279 (cn D) false ur tV tB KN (ia ms cap D left cur _)= .ok (fF (aE<|fx _) (.tuple [.bool false]) false) (fy ms cap D _)) h ?_ ?_ ?_ ?_ ?_ ?_ ?_<;>intros<;>kernel_rfl)
theorem isA(h:de ms){YG:aK}:ny pg YG (fm<|aE<|fx out) 280 (.iter 279 (cn D) false (cn r)<|some (.int .i64 k,.int .i64 v)) ur tV tB KN (.tuple [.bool true,.int .i64 k,.int .i64 v]) (ia ms cap D left cur out)= .ok (fF (aE<|fx out) (.tuple [.bool true,.int .i64 k,.int .i64 v]) true) (ia ms cap D r (some (.int .i64 k,.int .i64 v)) out):=by cases out<;>(refine u7 (p:=fun ms=>ny pg YG (fm<|aE<|fx _) 280 (.iter 279 (cn D) false (cn r)<|some (.int .i64 k,.int .i64 v)) ur tV tB KN (.tuple [.bool true,.int .i64 k,.int .i64 v]) (ia ms cap D left cur _)= .ok (fF (aE<|fx _) (.tuple [.bool true,.int .i64 k,.int .i64 v]) true) (ia ms cap D r (some (.int .i64 k,.int .i64 v)) _)) h ?_ ?_ ?_ ?_ ?_ ?_ ?_<;>intros<;>kernel_rfl)
end
def CM(l0:List<|Nat×AV)(o0:List<|Nat×Option ae)(n:Nat):xT:=fun fr s _=>(fr.fn=41/\fr.nt=kv/\fr.todo=(fm .nil).todo/\fr.defers=[]/\fr.round=none)/\l0.map (fun q=>fr.tmps.get q.1)=l0.map (fun q=>some q.2)/\o0.map (fun q=>s.h.get q.1)=o0.map (fun q=>q.2)/\s.nx=n
abbrev MX(l0:List<|Nat×AV)(o0:List<|Nat×Option ae)(n:Nat):Prop:=((fm .nil).fn=41/\(fm .nil).nt=kv/\(fm .nil).todo=(fm .nil).todo/\(fm .nil).defers=[]/\(fm .nil).round=none)/\(l0.map (fun q=>some q.2)=l0.map (fun q=>some q.2))/\(o0.map (fun q=>q.2)=o0.map (fun q=>q.2))/\n=n
theorem mx{l0:List<|Nat×AV}{n:Nat}:MX l0 o0 n:=⟨⟨rfl,rfl,rfl,rfl,rfl⟩,rfl,rfl,rfl⟩
theorem Np{α β:Type}{f g:α->β}:∀{l:List α},l.map f=l.map g->∀p∈l,f p=g p
 |a::l,h,p,hp=>by
  simp only[List.map_cons,List.cons.injEq] at h;rcases List.mem_cons.1 hp with rfl|hp
  ·exact h.1
  ·exact Np h.2 p hp
def lf(a len:Nat):List<|Nat×AV:=[(3,.map<|some 279),(6,.slice (some (a,0)) len<|.aq len 2),(25,.map<|some 279),(26,.ptr<|some (280,0))]
def oM(ms:bf)(cap:bW)(D left:List<|Int×Int)(cur:Option<|AV×AV):List<|Nat×Option ae:=ar++aX (oL ms cap D left cur)
theorem VG{l:List<|Int×Int}:qx<|cn l:=fun p hp=>by obtain⟨q,_,rfl⟩:=List.mem_map.1 hp;exact⟨_,_,rfl⟩
section
variable {D left out:List<|Int×Int} {k v:Int}
theorem VH(h:de ms):∀p∈oM ms cap D left (some (.int .i64 k,.int .i64 v)),p.1<281/\∀y,p.2=some y->Fix 281 (oM ms cap D left<|some (.int .i64 k,.int .i64 v)) y:=fun p hp=>by
 have hp':=hp;unfold oM oL at hp;rcases List.mem_append.1 hp with hp|hp
 ·refine⟨by have:=(Dy (fz:=[]) (r:=id) (fun _ _=>rfl) p hp).1;omega,fun y hy=>.inl ⟨((Dy (fz:=[]) (r:=id) (fun _ _=>rfl) p hp).2 y hy).1,fun r hr _=>((Dy (fun k hk=>hr k ab) p hp).2 y hy).2⟩⟩
 ·rw[wM] at hp;obtain⟨q,hq,rfl⟩:=List.mem_map.1 hp;rcases List.mem_append.1 hq with hq|hq
  ·obtain⟨a,b,_⟩:=OI h (fz:=[]) (r:=id) (fun _ _=>rfl) q hq;refine⟨by show q.1<281;omega,fun y hy=>?_⟩;cases hy;exact .inl ⟨b,fun r hr _=>(OI h (fun k hk=>hr k ab) q hq).2.2⟩
  ·simp only[List.mem_cons,List.not_mem_nil,or_false] at hq;rcases hq with rfl|rfl
   ·exact⟨by show 279<281;omega,fun y hy=>by cases hy;exact .inr<|.inl rfl⟩
   ·refine⟨by show 280<281;omega,fun y hy=>?_⟩;cases hy;refine .inr (.inr ⟨279,_,_,_,_,rfl,by omega,?_,VG,VG,fun x hx=>?_⟩)
    ·unfold oM oL;exact List.mem_append_right _ (by rw[wM];exact List.mem_map.2 ⟨(279,.iA),List.mem_append_right _ List.mem_cons_self,rfl⟩)
    ·cases hx;intro p hp;rw[List.mem_singleton] at hp;subst hp;exact⟨_,_,rfl⟩
theorem ahp{p:Int×Int}{cur:Option<|AV×AV}:ia ms cap D left cur (p::r)=ah (oM ms cap D left cur++[(281,some<|aC aS<|p::r)]) 282:=by unfold ia oM oO nO;rw[wM,wM,List.map_append, ←List.append_assoc];rfl
theorem Ym(h:de ms){a n:Nat}(ha:281<=a/\a<290)(hn:n<290)(hl:(q::r).length<=1000000)(H:gR B 281 ms (fm<|aE<|fx<|q::r)<|ia ms cap D left (some (.int .i64 k,.int .i64 v))<|q::r):
 ∀fr s p,CM (lf a (q::r).length) (oM ms cap D left (some (.int .i64 k,.int .i64 v))++[(a,some<|aC aS<|q::r)]) n fr s p->gR B 281 ms fr s:=by
 rintro ⟨_,t,_,_,_,_⟩ s _ ⟨⟨rfl,rfl,rfl,rfl,rfl⟩,c1,c2,rfl⟩;rw[ahp] at H;have c2:=Np c2;refine au.mv (a:=a) (x:=aC aS<|q::r) (os:=oM ms cap D left<|some (.int .i64 k,.int .i64 v)) (l0:=lf a (q::r).length) (l:=fx<|q::r) (Nat.le_trans gU ab) dZ ⟨ha.1,by unfold top;omega⟩ dZ (Np c1) (fun p hp=>c2 p<|List.mem_append_left _ hp) (c2 _<|List.mem_append_right _<|List.mem_singleton.2 rfl) (fun p hp=>(VH h p hp).1) (fun p hp=>?_) (fun f r1 r2 r3 p hp=>?_) (fun p hp=>(VH h p hp).2) ⟨rfl,fun f hf=>?_⟩ H
 ·simp only[fx,List.mem_cons,List.not_mem_nil,or_false] at hp;rcases hp with rfl|rfl|rfl|rfl
  ·show 3<top;unfold top;omega
  ·show 6<top;unfold top;omega
  ·show 25<top;unfold top;omega
  ·show 26<top;unfold top;omega
 ·simp only[fx,List.mem_cons,List.not_mem_nil,or_false] at hp;rcases hp with rfl|rfl|rfl|rfl
  ·exact⟨_,mi 0,(bg.map<|r1 279 ab).z⟩
  ·exact⟨_,mi 1,(bg.slice r3).z⟩
  ·exact⟨_,mi 2,(bg.map<|r1 279 ab).z⟩
  ·exact⟨_,mi 3,(bg.ptr<|r1 280 ab).z⟩
 ·exact(lS.aC (fun x=>⟨rfl,rfl⟩)<|Fe hl).z
end
section
variable {D left out:List<|Int×Int} {k v:Int}
theorem Pf(mc:Mt LA B)(h:de ms)(H:gR B 281 ms (fm<|aE<|fx [(k,v)])<|ia ms cap D left (some (.int .i64 k,.int .i64 v)) [(k,v)]):gR B 281 ms (fF (aE<|fx []) (.tuple [.bool true,.int .i64 k,.int .i64 v]) true)<|ia ms cap D left (some (.int .i64 k,.int .i64 v)) []:=by have hC:=Ym (cap:=cap) (D:=D) (left:=left) h (q:=(k,v)) (r:=[]) (a:=282) (n:=283) ab ab (by simp) H;clear H;have key:∀x,x=wp np 900 6 (.fr 41 kv KN (fF (aE<|fx []) (.tuple [.bool true,.int .i64 k,.int .i64 v]) true).tmps<|ia ms cap D left (some (.int .i64 k,.int .i64 v)) []) (.st 10<|.cut .no) (az Tryd.f41) (fun y s _=>RA ms y s) (CM (lf 282 1) (oM ms cap D left (some (.int .i64 k,.int .i64 v))++[(282,some<|aC aS [(k,v)])]) 283)->x->gR B 281 ms (fF (aE<|fx []) (.tuple [.bool true,.int .i64 k,.int .i64 v]) true) (ia ms cap D left (some (.int .i64 k,.int .i64 v)) []):=fun x e hx=>wp_cut (E:=np) eQ rfl bH mc.2.2.1 mc.2.2.2 (Nat.le_trans gU ab) rfl mc.1 hC 900 _ hx e bU;refine key (MX (lf 282 1) (oM ms cap D left (some (.int .i64 k,.int .i64 v))++[(282,some<|aC aS [(k,v)])]) 283) ?_ mx;clear key hC;refine u7 (p:=fun ms=>MX (lf 282 1) (oM ms cap D left (some (.int .i64 k,.int .i64 v))++[(282,some<|aC aS [(k,v)])]) 283=wp np 900 6 (.fr 41 kv KN (fF (aE<|fx []) (.tuple [.bool true,.int .i64 k,.int .i64 v]) true).tmps<|ia ms cap D left (some (.int .i64 k,.int .i64 v)) []) (.st 10<|.cut .no) (az Tryd.f41) (fun y s _=>RA ms y s) (CM (lf 282 1) (oM ms cap D left (some (.int .i64 k,.int .i64 v))++[(282,some<|aC aS [(k,v)])]) 283)) h ?_ ?_ ?_ ?_ ?_ ?_ ?_<;>intros<;>kernel_rfl
end
section
variable {D left out:List<|Int×Int} {k v:Int}
abbrev AX(l:List<|Int×Int)(c:Int×Int)(X:Prop):Prop:=l.length=l.length/\l.length=l.length/\some (aC aS l)=some (aC aS l)/\some (ae.cells (aS c).length (Tr.fill (aS c) 0 .nil) [])=some (ae.cells (aS c).length (Tr.fill (aS c) 0 .nil) [])/\(∀x,(aS x).length=2/\(aS x).all AV.bR=true)/\2*(l.length+1)*16+4096*16<=room/\(l.length+1)*2<=Rn.top/\X
theorem Pg(mc:Mt LA B)(h:de ms)(hl:(q::r).length<100000)(H:gR B 281 ms (fm<|aE<|fx<|q::(r++[(k,v)]))<|ia ms cap D left (some (.int .i64 k,.int .i64 v))<|q::(r++[(k,v)])):gR B 281 ms (fF (aE<|fx<|q::r) (.tuple [.bool true,.int .i64 k,.int .i64 v]) true)<|ia ms cap D left (some (.int .i64 k,.int .i64 v))<|q::r:=by
 have e1:(q::(r++[(k,v)])).length=(q::r).length+1:=by simp
 have hC:=Ym (cap:=cap) (D:=D) (left:=left) h (q:=q) (r:=r++[(k,v)]) (a:=283) (n:=284) ab ab ab H;clear H;have key:∀x,x=wp np 900 6 (.fr 41 kv KN (fF (aE<|fx<|q::r) (.tuple [.bool true,.int .i64 k,.int .i64 v]) true).tmps<|ia ms cap D left (some (.int .i64 k,.int .i64 v))<|q::r) (.st 6<|.rg<|.go 5<|.ap (Int×Int) aS (q::r) (k,v)<|.go 1<|.en<|.st 3<|.cut .no) (az Tryd.f41) (fun y s _=>RA ms y s) (CM (lf 283 ((q::r)++[(k,v)]).length) (oM ms cap D left (some (.int .i64 k,.int .i64 v))++[(283,some<|aC aS<|(q::r)++[(k,v)])]) 284)->x->gR B 281 ms (fF (aE<|fx<|q::r) (.tuple [.bool true,.int .i64 k,.int .i64 v]) true) (ia ms cap D left (some (.int .i64 k,.int .i64 v))<|q::r):=fun x e hx=>wp_cut (E:=np) eQ rfl bH mc.2.2.1 mc.2.2.2 (Nat.le_trans gU ab) rfl mc.1 hC 900 _ hx e bU;refine key (AX (q::r) (k,v)<|MX (lf 283 ((q::r)++[(k,v)]).length) (oM ms cap D left (some (.int .i64 k,.int .i64 v))++[(283,some<|aC aS<|(q::r)++[(k,v)])]) 284) ?_<|Qy aS (q::r) (k,v) (K:=2) (nj:=16) Xb (by unfold room;omega) dZ<|mx (l0:=lf 283 ((q::r)++[(k,v)]).length) (o0:=oM ms cap D left (some (.int .i64 k,.int .i64 v))++[(283,some<|aC aS<|(q::r)++[(k,v)])]) (n:=284);clear key hC;refine u7 (p:=fun ms=>AX (q::r) (k,v) (MX (lf 283 ((q::r)++[(k,v)]).length) (oM ms cap D left (some (.int .i64 k,.int .i64 v))++[(283,some<|aC aS<|(q::r)++[(k,v)])]) 284)=wp np 900 6 (.fr 41 kv KN (fF (aE<|fx<|q::r) (.tuple [.bool true,.int .i64 k,.int .i64 v]) true).tmps<|ia ms cap D left (some (.int .i64 k,.int .i64 v))<|q::r) (.st 6<|.rg<|.go 5<|.ap (Int×Int) aS (q::r) (k,v)<|.go 1<|.en<|.st 3<|.cut .no) (az Tryd.f41) (fun y s _=>RA ms y s) (CM (lf 283 ((q::r)++[(k,v)]).length) (oM ms cap D left (some (.int .i64 k,.int .i64 v))++[(283,some<|aC aS<|(q::r)++[(k,v)])]) 284)) h ?_ ?_ ?_ ?_ ?_ ?_ ?_<;>intros<;>kernel_rfl
end
def lh(v:AV):AF:=⟨41,aE [(2,v)],kv,(cO 41 [1,1,1,1,1,1,1,1]),[],none⟩
def oE(ms:bf)(cap:bW):List<|Nat×Option ae:=ar++aX (dL ms cap++[])
theorem aiK(mc:Mt LA B)(h:de ms)(hc:oU ms.length cap):gR B 281 ms (lh<|aw aS<|dP<|allM ms)<|ah (oE ms cap) 281:=lZ (E:=np) eQ rfl bH mc.2.2.1 mc.2.2.2 900 (.rt 1 .no) (T:=oV 3 (aw aS<|dP<|allM ms) (bI ms) (ah (oE ms cap) 281)<|aw aS<|dP<|allM ms) (by unfold oE;rw[List.append_nil];exact Km 281 h hc _)
abbrev Et(ms:bf)(cap:bW)(v v':AV)(more:List<|Nat×ae)(bw:Nat):Prop:=(([(2,v)]:List<|Nat×AV).map (fun q=>some q.2)=([(2,v)]:List<|Nat×AV).map (fun q=>some q.2))/\((ar++aX (dL ms cap++more)).map (fun q=>q.2)=(ar++aX (dL ms cap++more)).map (fun q=>q.2))/\hJ FU 281 bw [(2,v)] (ar++aX (dL ms cap++more)) [(2,v')] (oE ms cap) 281/\(lh v'=lh v'/\ah (oE ms cap) 281=ah (oE ms cap) 281)
section
variable {D left out:List<|Int×Int} {k v:Int}
theorem Ph(mc:Mt LA B)(h:de ms)(H:gR B 281 ms (lh<|aw aS [])<|ah (oE ms cap) 281):gR B 281 ms (fF (aE<|fx []) (.tuple [.bool false]) false)<|fy ms cap D []:=by have key:∀x,x=wp np 900 6 (.fr 41 kv KN (fF (aE<|fx []) (.tuple [.bool false]) false).tmps<|fy ms cap D []) (.st 4<|.rg<|.go 1<|.cu (.tuple []) (fy ms cap D [])<|.en<|.st 2<|.rn [(2,.slice none 0<|.known 0)] (oE ms cap) [(2,aw aS [])] (oE ms cap) 281 281 .no) (az Tryd.f41) (fun y s _=>RA ms y s) (fun fr s1 _=>fr=lh (aw aS [])/\s1=ah (oE ms cap) 281)->x->gR B 281 ms (fF (aE<|fx []) (.tuple [.bool false]) false) (fy ms cap D []):=fun x e hx=>wp_cut (E:=np) eQ rfl bH mc.2.2.1 mc.2.2.2 (Nat.le_trans gU ab) rfl mc.1 mQ 900 _ hx e bU;refine key (bc pg (sp LA) FU 6 (.fn 60) [.slice none 0<|.known 0,.func (.func 61) [] []] (fy ms cap D [])= .ok (.tuple []) (fy ms cap D [])/\Et ms cap (.slice none 0<|.known 0) (aw aS []) [] 281) ?_ ⟨acy (P:=pg) (sp:=sp LA) aW,rfl,rfl,JW (fz:=[]) ab ab dZ (fun r hr ht p hp=>by rw[List.mem_singleton] at hp;subst hp;exact⟨by show 2<top;unfold top;omega,_,mi 0,ID⟩) (fun r hr ht=>Pq h ab hr fun p hp=>by cases hp) (fun p hp=>by cases hp),rfl,rfl⟩;clear key H;refine u7 (p:=fun ms=>(bc pg (sp LA) FU 6 (.fn 60) [.slice none 0<|.known 0,.func (.func 61) [] []] (fy ms cap D [])= .ok (.tuple []) (fy ms cap D [])/\Et ms cap (.slice none 0<|.known 0) (aw aS []) [] 281)=wp np 900 6 (.fr 41 kv KN (fF (aE<|fx []) (.tuple [.bool false]) false).tmps<|fy ms cap D []) (.st 4<|.rg<|.go 1<|.cu (.tuple []) (fy ms cap D [])<|.en<|.st 2<|.rn [(2,.slice none 0<|.known 0)] (oE ms cap) [(2,aw aS [])] (oE ms cap) 281 281 .no) (az Tryd.f41) (fun y s _=>RA ms y s) (fun fr s1 _=>fr=lh (aw aS [])/\s1=ah (oE ms cap) 281)) h ?_ ?_ ?_ ?_ ?_ ?_ ?_<;>intros<;>kernel_rfl
abbrev QW(ms:bf)(cap:bW)(D out:List<|Int×Int):AS:=fl 281 (some<|aC aS<|dP out)<|aU 281<|fy ms cap D out
abbrev Yn(ms:bf)(cap:bW)(D out:List<|Int×Int):Pl:=.st 4<|.rg<|.go 1<|.cu (.tuple []) (QW ms cap D out)<|.en<|.st 2<|.rn [(2,.slice (some (281,0)) out.length<|.aq out.length 2)] (ar++aX (dL ms cap++[(281,aC aS<|dP out)])) [(2,aw aS<|dP out)] (oE ms cap) 282 281 .no
theorem Pj(mc:Mt LA B)(h:de ms)(hl:(q::r).length<100000)(nd:((q::r).map (·.1)).Nodup)(H:gR B 281 ms (lh<|aw aS<|dP<|q::r)<|ah (oE ms cap) 281):gR B 281 ms (fF (aE<|fx<|q::r) (.tuple [.bool false]) false)<|fy ms cap D<|q::r:=by
 have key:∀x,x=wp np 900 6 (.fr 41 kv KN (fF (aE<|fx<|q::r) (.tuple [.bool false]) false).tmps<|fy ms cap D<|q::r) (Yn ms cap D<|q::r) (az Tryd.f41) (fun y s _=>RA ms y s) (fun fr s1 _=>fr=lh (aw aS<|dP<|q::r)/\s1=ah (oE ms cap) 281)->x->gR B 281 ms (fF (aE<|fx<|q::r) (.tuple [.bool false]) false) (fy ms cap D<|q::r):=fun x e hx=>wp_cut (E:=np) eQ rfl bH mc.2.2.1 mc.2.2.2 (Nat.le_trans gU ab) rfl mc.1 mQ 900 _ hx e bU;have hz:∀fz:kR,∀f:Nat->Nat,(∀k,top<=k->f k=k)->(281,nm ((dP<|q::r).map aS).flatten,((dP<|q::r).map aS).flatten)∈fz->jC fz f (.slice (some (281,0)) (q::r).length<|.aq (q::r).length 2) (aw aS<|dP<|q::r):=fun fz f hf hm=>by have:=Fi (cap:=.aq (q::r).length 2) hm hf rfl;rw[Am] at this;exact this
 have hg:(fy ms cap D<|q::r).nx=282/\(fy ms cap D<|q::r).h.get 281=some (aC aS<|q::r):=⟨rfl,by refine u7 (p:=fun ms=>(fy ms cap D<|q::r).h.get 281=some (aC aS<|q::r)) h ?_ ?_ ?_ ?_ ?_ ?_ ?_<;>intros<;>kernel_rfl⟩;refine key (bc pg (sp LA) FU 6 (.fn 60) [.slice (some (281,0)) (q::r).length<|.aq (q::r).length 2,.func (.func 61) [] []] (fy ms cap D<|q::r)= .ok (.tuple []) (QW ms cap D<|q::r)/\Et ms cap (.slice (some (281,0)) (q::r).length<|.aq (q::r).length 2) (aw aS<|dP<|q::r) [(281,aC aS<|dP<|q::r)] 282) ?_ ⟨abj (P:=pg) (sp:=sp LA) aW (by rw[hg.1];rfl) Gs hg.2 ab nd,rfl,rfl,JW (fz:=[(281,nm ((dP<|q::r).map aS).flatten,((dP<|q::r).map aS).flatten)]) ab ab dZ (fun r' hr ht p hp=>by
  rw[List.mem_singleton] at hp;subst hp;exact⟨by show 2<top;unfold top;omega,_,mi 0,hz _ _ ht<|List.mem_singleton.2 rfl⟩) (fun r hr ht=>Pq h ab hr fun p hp=>by cases hp) (fun p hp=>by
  rw[List.mem_singleton] at hp;subst hp;exact⟨Nat.le_refl _,Fj rG (by rw[Am];unfold top;omega) 281 dZ<|List.mem_append_right _ (by rw[wM];exact List.mem_map.2 ⟨(281,_),List.mem_append_right _ List.mem_cons_self,rfl⟩)⟩),rfl,rfl⟩
 clear key H hg hz;refine u7 (p:=fun ms=>(bc pg (sp LA) FU 6 (.fn 60) [.slice (some (281,0)) (q::r).length<|.aq (q::r).length 2,.func (.func 61) [] []] (fy ms cap D<|q::r)= .ok (.tuple []) (QW ms cap D<|q::r)/\Et ms cap (.slice (some (281,0)) (q::r).length<|.aq (q::r).length 2) (aw aS<|dP<|q::r) [(281,aC aS<|dP<|q::r)] 282)=wp np 900 6 (.fr 41 kv KN (fF (aE<|fx<|q::r) (.tuple [.bool false]) false).tmps<|fy ms cap D<|q::r) (Yn ms cap D<|q::r) (az Tryd.f41) (fun y s _=>RA ms y s) (fun fr s1 _=>fr=lh (aw aS<|dP<|q::r)/\s1=ah (oE ms cap) 281)) h ?_ ?_ ?_ ?_ ?_ ?_ ?_<;>intros<;>kernel_rfl
end
theorem abk{D out:List<|Int×Int}(hk:dU D)(hp:out.Perm D):dP out=dP D:=T2 hk ((Cq out).trans hp)<|No out
theorem abl{D out:List<|Int×Int}(mc:Mt LA B)(h:de ms)(hc:oU ms.length cap)(hD:D=allM ms)(hk:dU D)(hp:out.Perm D)(hl:D.length<100000):gR B 281 ms (fF (aE<|fx out) (.tuple [.bool false]) false)<|fy ms cap D out:=by
 have e:dP out=dP (allM ms):=by rw[abk hk hp,hD]
 have H:=aiK mc h hc;rw[←e] at H;cases out with
 |nil=>exact Ph mc h (by rw[show aw aS ([]:List<|Int×Int)=aw aS (dP []) by unfold dP;rw[List.mergeSort_nil]];exact H)
 |cons q r=>exact Pj mc h (by rw[hp.length_eq];exact hl) ((hp.map (·.1)).nodup_iff.2 hk) H
theorem ahq{D:List<|Int×Int}(mc:Mt LA B)(h:de ms)(hc:oU ms.length cap)(hD:D=allM ms)(hk:dU D)(hl:D.length<100000):∀(n:Nat) (left out:List<|Int×Int) (cur:Option<|AV×AV),left.length=n->D.Perm (out++left)->
 gR B 281 ms (fm<|aE<|fx out) (ia ms cap D left cur out):=by
 have n281:∀(D left:List<|Int×Int) cur out,281<=(ia ms cap D left cur out).nx:=fun _ _ _ out=>by
  show 281<=nO out;cases out with
  |nil=>exact Nat.le_refl _
  |cons _ _=>show 281<=282;omega
 intro n;induction n with
 |zero=>intro left out cur hn hp;have kV:=List.eq_nil_of_length_eq_zero hn;subst kV;rw[List.append_nil] at hp;exact au.next mc.2.2.1 mc.2.2.2 (asks _) (n281 _ _ _ _) (Wl h) (fun _=>⟨_,_,aho h,abl mc h hc hD hk hp.symm hl⟩) (fun x r h=>by cases h)
 |succ n ih=>
  intro left out cur hn hp;refine au.next mc.2.2.1 mc.2.2.2 (asks _) (n281 _ _ _ _) (Wl h) (fun h=>by rw[CU h] at hn;cases hn) fun x r hx=>?_;obtain⟨p,l',rfl,rfl,B9⟩:=HU hx;have hlen:l'.length=n:=by have:=B9.length_eq;rw[List.length_cons] at this;omega
  have eZ:D.Perm<|(out++[p])++l':=by rw[List.append_assoc];exact hp.trans<|B9.append_left out
  refine⟨_,_,isA h,?_⟩;have key:=ih l' (out++[p]) (some (.int .i64 p.1,.int .i64 p.2)) hlen eZ;cases out with
  |nil=>exact Pf mc h key
  |cons q r=>exact Pg mc h (by have:=hp.length_eq;rw[List.length_append] at this;omega) key
def ux:AF:=⟨41,aE [(3,.map<|some 279)],kv,[.code<|aR pg 41 [1,1,1,1,0],.code<|aR pg 41 [1,1,1,1,1]],[],none⟩
theorem aiL{D:List<|Int×Int}(mc:Mt LA B)(h:de ms)(H:gR B 271 ms (fm<|aE<|fx [])<|ia ms cap D D none []):gR B 271 ms ux<|cR ms cap D:=by have key:∀x,x=wp (o9 LA) 900 6 (.fr 41 kv ux.todo ux.tmps<|cR ms cap D) (.st 7<|.cut .no) (az Tryd.f41) (fun y s _=>RA ms y s) (fun fr s1 _=>fr=fm (aE<|fx [])/\s1=ia ms cap D D none [])->x->gR B 271 ms ux (cR ms cap D):=fun x e hx=>B6 mc (fun fr s1 _ hC=>by obtain⟨rfl,rfl⟩:=hC;exact H) _ hx e bY;refine key (fm (aE<|fx [])=fm (aE<|fx [])/\ia ms cap D D none []=ia ms cap D D none []) ?_ ⟨rfl,rfl⟩;clear key H;refine u7 (p:=fun ms=>(fm (aE<|fx [])=fm (aE<|fx [])/\ia ms cap D D none []=ia ms cap D D none [])=wp (o9 LA) 900 6 (.fr 41 kv ux.todo ux.tmps<|cR ms cap D) (.st 7<|.cut .no) (az Tryd.f41) (fun y s _=>RA ms y s) (fun fr s1 _=>fr=fm (aE<|fx [])/\s1=ia ms cap D D none [])) h ?_ ?_ ?_ ?_ ?_ ?_ ?_<;>intros<;>kernel_rfl
abbrev Yo(ms:bf)(cap:bW)(D:List<|Int×Int):Prop:=(([(3,.map<|some 279)]:List<|Nat×AV).map (fun q=>some q.2)=([(3,.map<|some 279)]:List<|Nat×AV).map (fun q=>some q.2))/\((oA ms cap D).map (fun q=>q.2)=(oA ms cap D).map (fun q=>q.2))/\(ux=ux/\cR ms cap D=cR ms cap D)
theorem aiM{D:List<|Int×Int}(mc:Mt LA B)(h:de ms)(H:gR B 271 ms ux<|cR ms cap D):gR B 271 ms (n9 ms.length cap ms.length)<|cR ms cap D:=by have key:∀x,x=wp (o9 LA) 900 6 (.fr 41 kv KA (aE<|pW ms.length cap ms.length)<|cR ms cap D) (.st 6<|.ls [(3,.map<|some 279)] (oA ms cap D) 280 .no) (az Tryd.f41) (fun y s _=>RA ms y s) (fun fr s1 _=>fr=ux/\s1=cR ms cap D)->x->gR B 271 ms (n9 ms.length cap ms.length) (cR ms cap D):=fun x e hx=>B6 mc (fun fr s1 _ hC=>by obtain⟨rfl,rfl⟩:=hC;exact H) _ hx e bY;refine key (Yo ms cap D) ?_ ⟨rfl,rfl,rfl,rfl⟩;clear key H;refine u7 (p:=fun ms=>Yo ms cap D=wp (o9 LA) 900 6 (.fr 41 kv KA (aE<|pW ms.length cap ms.length)<|cR ms cap D) (.st 6<|.ls [(3,.map<|some 279)] (oA ms cap D) 280 .no) (az Tryd.f41) (fun y s _=>RA ms y s) (fun fr s1 _=>fr=ux/\s1=cR ms cap D)) h ?_ ?_ ?_ ?_ ?_ ?_ ?_<;>intros<;>kernel_rfl
theorem go_says(mc:Mt LA B)(h:de ms)(H:gR B 271 ms (n9 ms.length cap 0)<|cR ms cap []):gR B 271 ms ⟨41,dt [.ptr<|some (270,0)],kv,(cO 41 []),[],none⟩<|ah (ar++aX (dL ms cap)) 279:=by
 rcases(F2 h.1).imp (fun q=>fP ⟨h.1.1,q⟩) id with(⟨m0,rfl⟩|⟨m0,m1,rfl⟩|⟨m0,m1,m2,rfl⟩|⟨m0,m1,m2,m3,rfl⟩|⟨m0,m1,m2,m3,m4,rfl⟩|⟨m0,m1,m2,m3,m4,m5,rfl⟩)|⟨m0,m1,m2,m3,m4,m5,m6,rfl⟩
 all_goals exact QV mc h H
theorem T3(mc:Mt LA B)(h:de ms)(H:gR B 271 ms (n9 ms.length cap ms.length)<|cR ms cap<|allM ms):∀(r:bf) (i:Nat) (d:List<|Int×Int),i<=ms.length->ms.drop i=r->dU d->r.foldl fe d=allM ms->gR B 271 ms (n9 ms.length cap i) (cR ms cap d)
 |[],i,d,hn,hr,hd,e=>by have hi:ms.length<=i:=List.drop_eq_nil_iff.1 hr;have e:d=allM ms:=e;subst e;rw[Nat.le_antisymm hn hi];exact H
 |m::r,i,d,_,hr,hd,e=>by
  have hi:i<ms.length:=by
   by_cases q:i<ms.length
   ·exact q
   ·rw[List.drop_of_length_le ab] at hr;cases hr
  have hm:ms.getD i []=m:=by have:=congrArg (fun q=>q[0]?) hr;simp only[List.getElem?_drop,List.getElem?_cons_zero,Nat.add_zero] at this;rw[List.getD_eq_getElem?_getD,this];rfl
  have j8:ms.drop (i+1)=r:=by have:=congrArg (List.drop 1) hr;rw[List.drop_drop] at this;exact this
  exact Nh mc h hd hi<|T3 mc h H r (i+1) (fe d<|ms.getD i []) hi j8 (dU.merge hd) (by rw[hm];exact e)
theorem acz(mc:Mt LA B)(h:de ms)(hc:oU ms.length cap)(hl:(allM ms).length<100000):gR B 271 ms ⟨41,dt [.ptr<|some (270,0)],kv,(cO 41 []),[],none⟩<|ah (ar++aX (dL ms cap)) 279:=
 have hk:dU<|allM ms:=Mb List.nodup_nil
 go_says mc h (T3 mc h (aiM mc h<|aiL mc h<|nT.Kn ab (fun _ _ _ _ q=>q)<|ahq mc h hc rfl hk hl _ (allM ms) [] none rfl<|List.Perm.refl _) ms 0 [] (Nat.zero_le _) rfl List.nodup_nil rfl)
end
def Pr:bf->List AV->Option AV
 |a,[]=>if(allM a).length<100000 then some (aw aS<|dP<|allM a) else none
 |_,_=>none
open DT
def Ps:FuncId×KE:=(41,.raw<|oY 3<|oK bI Pr)
theorem acA(hP:bS pg)(hs:Da pg 60 61){L:bO}(h:aY L):aY<|Ps::L:=by
 refine Iq yo hP gU rf jR jj mh lU h (VA hP<|acx dc hs) Tryd.func41 (body:=aR pg 41 []) aW aW fun v rest y e=>?_;obtain⟨a,rfl,e1⟩:=H4 e;unfold Pr at e1;split at e1<;>(try split at e1)<;>cases e1;rename_i q;refine⟨aL.1 aW,fun L hx=>?_⟩;generalize hv:bI a=v at hx;cases hx with
 |buf b hb cap hc=>have:=sw _ _ hv;subst this;exact⟨279,by omega,aL.1 aW,Nc hb,fun B mc=>acz mc hb hc q⟩
end
end tW
end
section
open Go Go.Rn Go.RowKit Go.Proofs
namespace zC
open ch fT eX iq mN mG vK xH tS xI eO cG dj B7 cQ di fW fD gH gQ gW gj gk hU iC iD iT jd jW kj kS jX fO iB mj vN nT zA qC
def Dz:St->Int| .mk _ t _ _ _ _=>t
def lk:Nat->List St->Prop
 |0,l=>l=[]
 |d+1,l=>l.length<=1000000/\∀s∈l,(1<=fB s/\fB s<=8)/\(0<=Dz s/\Dz s<8)/\lk d (bF s)/\lk d (bE s)
theorem U0:∀d,lk d []
 |0=>rfl
 |d+1=>⟨Nat.zero_le _,fun s h=>by cases h⟩
def ph:List Fr->Nat
 |[]=>0
 |f::r=>ph r+(if f.bV=true then 1 else 0)
def vO:List Fr->Prop
 |[]=>True
 |f::r=>lk (6 - r.length) f.block/\(0<=f.ak/\f.ak<=(f.block.length:Int))/\(0<=f.turns/\f.turns<=7)/\f.kept.length=8/\(f.bV=true->r≠[]/\∃ol,f.other=some ol/\lk (6 - r.length) ol)/\vO r
structure Inv (st:List Fr) (b:bf):Prop where
 wf:vO st
 len:b.length=ph st+1
 buf:de b
theorem aeg{d:Nat}{l:List St}(h:lk d l):l.length<=1000000:=by
 cases d with
 |zero=>have:l=[]:=h;subst this;exact Nat.zero_le _
 |succ d=>exact h.1
def vP:List Fr->Nat
 |[]=>0
 |f::r=>vP r+f.turns.toNat+1
theorem ED:∀(k:Nat) (st:List Fr) (b:bf),Inv st b->vP st<k->∃aV b',ig k st b=some (aV,b')/\Inv aV b'/\aV.length<=st.length
 |0,_,_,_,h=>by omega
 |k+1,[],b,hi,_=>⟨[],b,rfl,hi,Nat.le_refl _⟩
 |k+1,f::r,b,hi,hm=>by
  obtain⟨⟨h1,h2,h3,h4,h5,h6⟩,hl,hb⟩:=hi;unfold ig;by_cases c1:f.ak<(f.block.length:Int)
  ·rw[if_pos c1];exact⟨_,_,rfl,⟨⟨h1,h2,h3,h4,h5,h6⟩,hl,hb⟩,Nat.le_refl _⟩
  ·rw[if_neg c1];by_cases c2:0<f.turns
   ·rw[if_pos c2];have i2:Inv ({f with ak:=0,turns:=f.turns - 1}::r) b:=⟨⟨h1,⟨by show(0:Int)<=0;omega,by show(0:Int)<=_;omega⟩,⟨by show 0<=f.turns - 1;omega,by show f.turns - 1<=7;omega⟩,h4,h5,h6⟩,hl,hb⟩;by_cases c3:0<(f.block.length:Int)
    ·rw[if_pos c3];exact⟨_,_,rfl,i2,Nat.le_refl _⟩
    ·rw[if_neg c3];exact ED k _ b i2 (by show vP r+(f.turns - 1).toNat+1<k;have:vP (f::r)=vP r+f.turns.toNat+1:=rfl;omega)
   ·rw[if_neg c2];have eY:vP r<k:=by have:vP (f::r)=vP r+f.turns.toNat+1:=rfl;omega
    have hlen:b.length=ph r+(if f.bV=true then 1 else 0)+1:=hl;by_cases c4:f.bV=true
    ·rw[if_pos c4];rw[if_pos c4] at hlen;have c5:2<=b.length:=by omega
     rw[if_pos c5];obtain⟨aV,b',e,i,l⟩:=ED k r (ga b) ⟨h6,by have:=Hw b c5;omega,Il hb c5⟩ eY;exact⟨aV,b',e,i,by rw[List.length_cons];omega⟩
    ·rw[if_neg c4];rw[if_neg c4] at hlen;obtain⟨aV,b',e,i,l⟩:=ED k r b ⟨h6,hlen,hb⟩ eY;exact⟨aV,b',e,i,by rw[List.length_cons];omega⟩
theorem N7:∀{st:List Fr},vO st->vP st<=8*st.length
 |[],_=>Nat.le_refl _
 |f::r,h=>by have:=N7 h.2.2.2.2.2;have h3:=h.2.2.1;show vP r+f.turns.toNat+1<=8*(r.length+1);omega
theorem VI:∀{st:List Fr},vO st->ph st+1<=st.length\/ph st=0
 |[],_=>.inr rfl
 |f::r,h=>by
  rcases VI h.2.2.2.2.2 with q|q
  ·left;show ph r+(if f.bV=true then 1 else 0)+1<=r.length+1;split<;>omega
  ·by_cases c:f.bV=true
   ·obtain⟨hr,_⟩:=h.2.2.2.2.1 c;left;show ph r+(if f.bV=true then 1 else 0)+1<=r.length+1;rw[if_pos c];cases r with
    |nil=>exact absurd rfl hr
    |cons a r=>rw[List.length_cons];omega
   ·right;show ph r+(if f.bV=true then 1 else 0)=0;rw[if_neg c];exact q
structure ml (a:dF):Prop where
 inv:Inv a.fs.reverse a.b
 l:a.l.length=8
 top:a.fs.reverse=[]\/∃f r,a.fs.reverse=f::r/\f.ak<(f.block.length:Int)
 aA:a.aA.length<=1000
 vars:1<=a.vars/\a.vars<=32
theorem Ba{f:Fr}{r:List Fr}(h:vO<|f::r)(ht:f.ak<(f.block.length:Int)):∃d s,6 - r.length=d+1/\f.block[f.ak.toNat]? =some s/\(1<=fB s/\fB s<=8)/\(0<=Dz s/\Dz s<8)/\lk d (bF s)/\lk d (bE s):=by
 have h0:=h.2.1.1;have bZ:f.ak.toNat<f.block.length:=by omega
 have hb:=h.1;cases e:6 - r.length with
 |zero=>rw[e] at hb;have:f.block=[]:=hb;rw[this] at bZ;simp at bZ
 |succ d=>rw[e] at hb;obtain⟨q1,q2,q3,q4⟩:=hb.2 _<|List.getElem_mem bZ;exact⟨d,_,rfl,List.getElem?_eq_getElem bZ,q1,q2,q3,q4⟩
theorem VJ:∀{st:List Fr},vO st->∀f∈st,((0<=f.turns/\f.turns<=1000000)/\f.kept.length=8)/\(0<=f.ak/\f.ak<=1000000)
 |[],_,f,h=>by cases h
 |g::r,h,f,hf=>by
  rcases List.mem_cons.1 hf with rfl|hf
  ·have:=aeg h.1;have:=h.2.1;have:=h.2.2.1;exact⟨⟨by omega,h.2.2.2.1⟩,by omega⟩
  ·exact VJ h.2.2.2.2.2 f hf
section
variable {a:dF}
theorem ml.fP(h:ml a):a.fs.length<=6:=by
 rw[←List.length_reverse];rcases h.top with e|⟨f,r,e,ht⟩
 ·rw[e];exact Nat.zero_le _
 ·rw[e];have hw:=h.inv.wf;rw[e] at hw;obtain⟨d,_,hd,_⟩:=Ba hw ht;rw[List.length_cons];omega
theorem ml.b6(h:ml a):a.b.length<=6:=by have h6:=h.fP;rw[←List.length_reverse] at h6;have:=h.inv.len;rcases VI h.inv.wf with q|q<;>omega
theorem ml.pM(h:ml a)(hs:0<=a.steps/\a.steps<=1000000000000):Good a:=by have hw:=VJ h.inv.wf;exact⟨⟨h.l,h.inv.buf,by have:=h.fP;omega,h.aA,h.vars⟩,fun f hf=>(hw f<|List.mem_reverse.2 hf).1,h.fP,h.b6,hs,fun f hf=>(hw f<|List.mem_reverse.2 hf).2⟩
theorem ml.ask(h:ml a)(hs:0<=a.steps/\a.steps<=1000000000000):OH a:=by
 refine⟨h.pM hs,?_⟩;rcases h.top with e|⟨f,r,e,ht⟩
 ·exact .inl<|List.reverse_eq_nil_iff.1 e
 ·have hw:=h.inv.wf;rw[e] at hw;obtain⟨d,s,_,q,_⟩:=Ba hw ht;exact .inr ⟨f,r,s,e,hw.2.1.1,q⟩
end
theorem Nq:∀{st:List Fr} {g:Fr} {r':List Fr},vO st->below st=some (g,r')->vO (g::r')/\g.bV=true/\ph st=ph r'+1/\r'.length<st.length
 |[],_,_,_,h=>by cases h
 |f::r,g,r',hw,h=>by
  unfold mj.below at h;by_cases c:f.bV=true
  ·rw[if_pos c] at h;injection h with h;injection h with h1 h2
   subst h1;subst h2;exact⟨hw,c,by show ph r+(if f.bV=true then 1 else 0)=_;rw[if_pos c],by rw[List.length_cons];omega⟩
  ·rw[if_neg c] at h;obtain⟨a1,a2,a3,a4⟩:=Nq hw.2.2.2.2.2 h;exact⟨a1,a2,by show ph r+(if f.bV=true then 1 else 0)=_;rw[if_neg c];exact a3,by rw[List.length_cons];omega⟩
theorem wN{a:dF}{st:List Fr}{b:bf}(hl:a.l.length=8)(hg:a.aA.length<=1000)(hv:1<=a.vars/\a.vars<=32)(hi:Inv st b)(hn:st.length<=8):∃a',fin a st b=some a'/\ml a'/\a'.steps=a.steps/\a'.vars=a.vars/\a'.aA=a.aA:=by
 have hm:=N7 hi.wf;obtain⟨aV,b',e,i,l⟩:=ED 1000 st b hi ab;refine⟨{a with fs:=aV.reverse,b:=b'},by unfold fin;rw[e],⟨?_,hl,?_,hg,hv⟩,rfl,rfl,rfl⟩
 ·show Inv aV.reverse.reverse b';rw[List.reverse_reverse];exact i
 ·show aV.reverse.reverse=[]\/∃f r,aV.reverse.reverse=f::r/\_;rw[List.reverse_reverse];exact Cp _ _ _ _ _ e
theorem HH(b:bf)(v x:Int):(kL b v x).length=b.length:=by
 rcases List.eq_nil_or_concat b with rfl|⟨l,m,rfl⟩
 ·rfl
 ·rw[List.concat_eq_append,Sl,List.length_append,List.length_append];rfl
section
variable {a:dF}
theorem abm(h:ml a):dX a=(1,0,0)\/(∃v,dX a=(2,v,0)/\0<=v/\v<a.vars)\/(∃x,dX a=(3,0,x))\/dX a=(4,0,0):=by
 unfold dX;rcases h.top with e|⟨f,r,e,ht⟩
 ·rw[e];exact .inr<|.inr<|.inl ⟨0,rfl⟩
 ·have hw:=h.inv.wf;rw[e] at hw ⊢;obtain⟨d,⟨kind,to,ea,eb,bd,el⟩,_,q,_⟩:=Ba hw ht;simp only[q]
  repeat' split
  ·exact .inr<|.inr<|.inl ⟨_,rfl⟩
  ·exact .inr<|.inr<|.inr rfl
  ·exact .inr<|.inl ⟨_,rfl,US h.vars.1⟩
  ·exact .inl rfl
theorem MV(h:ml a)(hs:0<=a.steps/\a.steps<=1000000000000)(hk:dX a=(1,0,0)):Ip a/\∃a',qm a=some a'/\ml a'/\a'.steps=a.steps+1/\a'.vars=a.vars/\a'.aA=a.aA:=by
 rcases h.top with e|⟨f,r,e,ht⟩
 ·exfalso;unfold dX at hk;rw[e] at hk;injection hk with q _;omega
 have hw:=h.inv.wf;have hlen:=h.inv.len;rw[e] at hw hlen;have h6:=h.fP;rw[←List.length_reverse,e,List.length_cons] at h6;obtain⟨d,⟨kind,to,ea,eb,bd,el⟩,hd,q,k1,k2,k3,k4⟩:=Ba hw ht;have k1:1<=kind/\kind<=8:=k1;have k2:0<=to/\to<8:=k2;have k3:lk d bd:=k3;have k4:lk d el:=k4;have kl:=hk;unfold dX at kl;rw[e] at kl;simp only[q] at kl;have n8:kind≠8:=fun c=>by rw[if_pos c] at kl;injection kl with z _;omega
 rw[if_neg n8] at kl;have n6:kind=6->below (f::r)≠none:=fun c z=>by rw[if_pos ⟨c,z⟩] at kl;injection kl with z _;omega
 have w1:vO<|{f with ak:=f.ak+1}::r:=⟨hw.1,⟨by show 0<=f.ak+1;have:=hw.2.1.1;omega,by show f.ak+1<=(f.block.length:Int);omega⟩,hw.2.2⟩;have i1:∀b:bf,de b->b.length=a.b.length->Inv ({f with ak:=f.ak+1}::r) b:=fun b hb hl=>⟨w1,by rw[hl];exact hlen,hb⟩;have QX:6 - (r.length+1)=d:=by omega
 have push:∀(g:Fr) (b:bf),lk d g.block->g.ak=0->(0<=g.turns/\g.turns<=7)->g.kept.length=8->g.bV=false->de b->b.length=a.b.length->Inv (g::{f with ak:=f.ak+1}::r) b:=fun g b g1 g2 g3 g4 g5 hb hl=>⟨⟨by rw[List.length_cons,QX];exact g1,by rw[g2];omega,g3,g4,fun c=>(by rw[g5] at c;cases c),w1⟩,by show b.length=ph ({f with ak:=f.ak+1}::r)+(if g.bV=true then 1 else 0)+1;rw[g5,hl];exact hlen,hb⟩;refine⟨⟨h.pM hs,hk,f,r,kind,to,ea,eb,bd,el,e,q,⟨hw.2.1.1,fun _=>k2,fun c g r' hb=>?_⟩⟩,?_⟩
 ·obtain⟨b1,b2,b3,_⟩:=Nq hw hb;obtain⟨b4,_⟩:=b1.2.2.2.2.1 b2;exact⟨b4,by omega⟩
 ·unfold qm;rw[e];simp only[q];have l8:∀(z:Int),(a.l.set to.toNat z).length=8:=fun z=>by rw[List.length_set];exact h.l
  by_cases c1:kind=1
  ·rw[if_pos c1];exact wN (a:={a with l:=a.l.set to.toNat<|dx a ea,steps:=a.steps+1}) (l8 _) h.aA h.vars (i1 _ h.inv.buf rfl) Gt
  rw[if_neg c1];by_cases c2:kind=2
  ·rw[if_pos c2];exact wN (a:={a with l:=a.l.set to.toNat (kz a.b<|iM (dx a ea) a.vars).1,steps:=a.steps+1}) (l8 _) h.aA h.vars (i1 _ h.inv.buf rfl) Gt
  rw[if_neg c2];by_cases c3:kind=3
  ·rw[if_pos c3];exact wN (a:={a with steps:=a.steps+1}) h.l h.aA h.vars (i1 _ (MF h.inv.buf _ _)<|HH _ _ _) Gt
  rw[if_neg c3];by_cases c4:kind=4
  ·rw[if_pos c4];exact wN (a:={a with steps:=a.steps+1}) h.l h.aA h.vars (push _ _ (by show lk d (if _ then bd else el);split;exact k3;exact k4) rfl ⟨by show(0:Int)<=0;omega,by show(0:Int)<=7;omega⟩ rfl rfl h.inv.buf rfl) PQ
  rw[if_neg c4];by_cases c5:kind=5
  ·rw[if_pos c5];by_cases z:0<kJ (dx a ea)
   ·rw[if_pos z];have:=Nn<|dx a ea;exact wN (a:={a with steps:=a.steps+1}) h.l h.aA h.vars (push _ _ k3 rfl ⟨by show 0<=kJ _ - 1;omega,by show kJ _ - 1<=7;omega⟩ rfl rfl h.inv.buf rfl) PQ
   ·rw[if_neg z];exact wN (a:={a with steps:=a.steps+1}) h.l h.aA h.vars (i1 _ h.inv.buf rfl) Gt
  rw[if_neg c5];by_cases c6:kind=6
  ·rw[if_pos c6];cases hb:below (f::r) with
   |none=>exact absurd hb<|n6 c6
   |some p=>
    obtain⟨⟨fb,fa,ft,fo,kept,QY⟩,r'⟩:=p;obtain⟨b1,b2,b3,b4⟩:=Nq hw hb;obtain⟨b5,ol,b6,b7⟩:=b1.2.2.2.2.1 b2;have b6:QY=some ol:=b6;subst b6;have QU:kept.length=8:=b1.2.2.2.1;refine wN (a:={a with l:=kept,steps:=a.steps+1}) QU h.aA h.vars ⟨⟨b7,⟨by show(0:Int)<=0;omega,by show(0:Int)<=_;omega⟩,⟨by show(0:Int)<=0;omega,by show(0:Int)<=7;omega⟩,rfl,fun c=>(by cases c),b1.2.2.2.2.2⟩,?_,NV h.inv.buf ab⟩ ?_
    ·rw[List.length_dropLast];show _=ph r'+(if false=true then 1 else 0)+1;rw[if_neg (by intro c;cases c)];omega
    ·rw[List.length_cons];rw[List.length_cons] at b4;omega
  rw[if_neg c6];by_cases c7:kind=7
  ·rw[if_pos c7];have Yk:=h.b6;refine wN (a:={a with steps:=a.steps+1}) h.l h.aA h.vars ⟨⟨by rw[List.length_cons,QX];exact k3,⟨by show(0:Int)<=0;omega,by show(0:Int)<=_;omega⟩,⟨by show(0:Int)<=0;omega,by show(0:Int)<=7;omega⟩,h.l,fun _=>⟨(by intro c;cases c),el,rfl,by rw[List.length_cons,QX];exact k4⟩,w1⟩,?_,NU h.inv.buf ab⟩ PQ;rw[List.length_append];show a.b.length+1=ph ({f with ak:=f.ak+1}::r)+(if true=true then 1 else 0)+1;rw[if_pos rfl,hlen];rfl
  ·exact absurd k1.2 ab
theorem aeh(h:ml a)(hs:0<=a.steps/\a.steps<=1000000000000){v:Int}(hk:dX a=(2,v,0))(x:Int):Jy a/\∃a',nw a x=some a'/\ml a'/\a'.steps=a.steps+1/\a'.vars=a.vars/\a'.aA=a.aA:=by
 rcases h.top with e|⟨f,r,e,ht⟩
 ·exfalso;unfold dX at hk;rw[e] at hk;injection hk with q _;omega
 have hw:=h.inv.wf;have hlen:=h.inv.len;rw[e] at hw hlen;have h6:=h.fP;rw[←List.length_reverse,e,List.length_cons] at h6;obtain⟨d,⟨kind,to,ea,eb,bd,el⟩,hd,q,k1,k2,k3,k4⟩:=Ba hw ht;have k2:0<=to/\to<8:=k2;have w1:vO<|{f with ak:=f.ak+1}::r:=⟨hw.1,⟨by show 0<=f.ak+1;have:=hw.2.1.1;omega,by show f.ak+1<=(f.block.length:Int);omega⟩,hw.2.2⟩;refine⟨⟨h.pM hs,⟨v,hk⟩,f,r,kind,to,ea,eb,bd,el,e,hw.2.1.1,q,k2.1,k2.2⟩,?_⟩;unfold nw;rw[e];simp only[q];exact wN (a:={a with l:=a.l.set to.toNat x,steps:=a.steps+1}) (by rw[List.length_set];exact h.l) h.aA h.vars ⟨w1,hlen,h.inv.buf⟩ Gt
end
end zC
end
section
open Go Go.Rn Go.RowKit Go.Proofs
namespace Xc
open ch fT eX iq Pe vL tS xI eO cG dj cQ di fW fD gH gQ gW gj gk hU iC iD iT jd jW kj kS jX fO iB nh nS lV oX mj vN nT zA qC
variable {B:aJ} {vars:Int} {tx:List St} {q G m2 c2:Nat} {aA:List Int} {u2:AV} {bj:List Fr} {A2:MN}
noncomputable abbrev yY(tx:List St):AV:=.U (nm (tx.map aM).flatten) 0 tx.length
theorem aei(mc:Mt [DR,CP,Dt,ov 60,yL] B)(hv:vars<1\/vars>32):au pg B 270 (Rn.Fin pg (az Tryd.f12) fun y _=>y= .tuple [.ptr none,.int .i64 1]) (sF 12 Tryd.f12 [(yY tx),(i6 vars),(.U G q aA.length)])<|ah ar 270:=by exact wS mc (.st 5<|.rg<|.go 1<|.fk (.go 5<|.en<|.rt 4 .no)<|.go 2<|.fk (.go 2<|.en<|.rt 4 .no)<|.no)<|aT (vars<1) (fun _=>(show((.tuple [(.ptr none),(i6<|.ofNat 1)]):AV)= .tuple [.ptr none,.int .i64 1] from rfl)) fun _=>(aT (vars>32) (fun _=>(show((.tuple [(.ptr none),(i6<|.ofNat 1)]):AV)= .tuple [.ptr none,.int .i64 1] from rfl)) fZ)
theorem acB(mc:Mt [DR,CP,Dt,ov 60,yL] B)(pL:ba (aP zi) [(yY tx),.int .i64 (aA.length:Int)]=some (.bool false))(hv:1<=vars/\vars<=32):au pg B 270 (Rn.Fin pg (az Tryd.f12) fun y _=>y= .tuple [.ptr none,.int .i64 4]) (sF 12 Tryd.f12 [(yY tx),(i6 vars),(.U G q aA.length)])<|ah ar 270:=by exact wS mc (.st 5<|.rg<|.go 1<|.fk (.no)<|.go 2<|.fk (.no)<|.go 2<|.en<|.st 2<|.rg<|.go 3<|.kn (.bool false)<|.go 2<|.en<|.rt 4 .no)<|aT (vars<1) fZ fun _=>(aT (vars>32) fZ fun _=>(ai pL (show((.tuple [(.ptr none),(i6<|.ofNat 4)]):AV)= .tuple [.ptr none,.int .i64 4] from rfl)))
noncomputable abbrev Db(A2:MN)(m2 c2:Nat)(u2:AV)(bj:List Fr):List<|Nat×Option ae:=ar++[(270,some<|.cells 13 (Tr.fill (A2.row (.ptr<|some (271,0)) (.slice (some (272,0)) (m2)<|.aq c2 13)<|i6 A2.steps) 0 .nil) []),(271,some<|.tok 3 u2),(272,some<|aC aI bj)]
theorem ahr(mc:Mt [DR,CP,Dt,ov 60,yL] B):au pg B 270 (Rn.Fin pg (az Tryd.f12) fun y s'=>y= .tuple [.ptr<|some (270,0),.int .i64 0]/\∀m o,(m,o)∈dC 270 3 (⟨⟨A2.pre,m2,(.aq c2 13),[(i6 A2.steps)]⟩,u2,(bj.map aI).flatten⟩:VS)->s'.h.get m=some o) (⟨12,aE [(6,(.ptr<|some (270,0))),(7,i0)],34,(cO 12 [1,1,1,1,1]),[],none⟩:AF)<|ah (Db A2 m2 c2 u2 bj) 273:=by exact wS mc (.rt 1 .no)<|mL (st:=(⟨⟨A2.pre,m2,(.aq c2 13),[(i6 A2.steps)]⟩,u2,(bj.map aI).flatten⟩:VS)) (s:=ah (ar++[(270,some<|.cells 13 (Tr.fill (A2.row (.ptr<|some (271,0)) (.slice (some (272,0)) (m2)<|.aq c2 13)<|i6 A2.steps) 0 .nil) []),(271,(some<|.tok 3 u2)),(272,(some<|aC aI bj))]) 273) (show((.tuple [(.ptr<|some (270,0)),i0]):AV)= .tuple [.ptr<|some (270,0),.int .i64 0] from rfl) bU bU bU
noncomputable abbrev Bb(vars:Int)(aA:List Int)(tx:List St):VS:=(⟨⟨[(i6 vars),(.U (nm (aA.map encI).flatten) 0 aA.length),i0,i0,i0,i0,i0,i0,i0,i0],1,(.aq 1 13),[.int .i64 0]⟩,(bI [[]]),(([(⟨tx,0,0,false,[0,0,0,0,0,0,0,0],none⟩:Fr)]).map aI).flatten⟩:VS)
noncomputable abbrev OJ(u2:AV)(A2:MN)(m2 c2:Nat)(bj:List Fr):List<|Nat×Option ae:=ar++[(270,(some<|.tok 3 u2)),(271,some<|.cells 13 (Tr.fill (A2.row (.ptr<|some (270,0)) (.slice (some (274,0)) (m2)<|.aq c2 13)<|i6 A2.steps) 0 .nil) []),(274,(some<|aC aI bj))]
theorem afJ(mc:Mt [DR,CP,Dt,ov 60,yL] B)(pL:ba (aP zi) [(yY tx),.int .i64 (aA.length:Int)]=some (.bool true))(hv:1<=vars/\vars<=32)(o5:ba (aP A5) [(.U G q aA.length)]=some (.U (nm (aA.map encI).flatten) 0 aA.length))(QZ:ba (aP<|qc 60) [(yY tx)]=some (yY tx))(GZ:rC Pm []=some (some<|bI [[]],fun p=>p))(hlen:bj.length<=1000000)(nL:(AV.U A2.G A2.q A2.lg).cM=true)(k0:bD 10 (Bb vars aA tx)=true)(k1:dH eG (Bb vars aA tx) []=some (.tuple [],(⟨⟨A2.pre,m2,(.aq c2 13),[.int .i64 A2.steps]⟩,u2,(bj.map aI).flatten⟩:VS)))(k2:bD 10 (⟨⟨A2.pre,m2,(.aq c2 13),[.int .i64 A2.steps]⟩,u2,(bj.map aI).flatten⟩:VS)=true):au pg B 270 (Rn.Fin pg (az Tryd.f12) fun y s'=>y= .tuple [.ptr<|some (270,0),.int .i64 0]/\∀m o,(m,o)∈dC 270 3 (⟨⟨A2.pre,m2,(.aq c2 13),[(i6 A2.steps)]⟩,u2,(bj.map aI).flatten⟩:VS)->s'.h.get m=some o) (sF 12 Tryd.f12 [(yY tx),(i6 vars),(.U G q aA.length)])<|ah ar 270:=by have ht:top=549755813888:=rfl;exact wC mc (C:=(fun fr s1 _=>fr=(⟨12,aE [(6,(.ptr<|some (270,0))),(7,i0)],34,(cO 12 [1,1,1,1,1]),[],none⟩:AF)/\s1=(ah (Db A2 m2 c2 u2 bj) 273))) (fun fr s1 p hC=>by obtain⟨rfl,rfl⟩:=hC;exact ahr mc) (.st 5<|.rg<|.go 1<|.fk (.no)<|.go 2<|.fk (.no)<|.go 2<|.en<|.st 2<|.rg<|.go 3<|.kn (.bool true)<|.go 2<|.en<|.st 4<|.rg<|.go 2<|.kn (.U (nm (aA.map encI).flatten) 0 aA.length)<|.nt (some<|bI [[]]) (fun p=>p)<|.go 3<|.en<|.st 1<|.rg<|.go 2<|.kn (yY tx)<|.go 1<|.il<|.st 4<|.rg<|.go 1<|.cg (.tuple []) (JV 270 dG dT 3 271 270 274 (⟨⟨A2.pre,m2,(.aq c2 13),[.int .i64 A2.steps]⟩,u2,(bj.map aI).flatten⟩:VS)) (F9 270 dG dT 3 271 270 274<|Bb vars aA tx)<|.en<|.rt 1<|.en<|.st 2<|.rn [(6,(.ptr<|some (271,0))),(7,i0)] (OJ u2 A2 m2 c2 bj) [(6,(.ptr<|some (270,0))),(7,i0)] (Db A2 m2 c2 u2 bj) 275 273 .no)<|aT (vars<1) fZ fun _=>(aT (vars>32) fZ fun _=>(ai pL<|ai o5<|ai GZ<|ai QZ<|ai (NW (P:=pg) (F:=FU) (sp:=sp [DR,CP,Dt,ov 60,yL]) (g:=39) (J:=270) (h0:=dG) (ns:=dT) (rest:=[]) (n:=5) (kp:=10) (k:=3) (val:=dH eG) (a:=271) (r1:=270) (r2:=274) (st:=(Bb vars aA tx)) (aV:=(⟨⟨A2.pre,m2,(.aq c2 13),[.int .i64 A2.steps]⟩,u2,(bj.map aI).flatten⟩:VS)) (y:=.tuple []) bU bU bU bU rfl k0 k1 bU k2)<|afx (a:=bT<|dO ((Bb vars aA tx)).R 270 274) (b:=.tok 3 ((Bb vars aA tx)).u) (c:=bT ((Bb vars aA tx)).row)<|ai (mS [(6,(.ptr<|some (271,0))),(7,i0)])<|ai (mO<|OJ u2 A2 m2 c2 bj)<|ai (show hJ FU 270 275 [(6,(.ptr<|some (271,0))),(7,i0)] (OJ u2 A2 m2 c2 bj) [(6,(.ptr<|some (270,0))),(7,i0)] (Db A2 m2 c2 u2 bj) 273 from JU (ps:=[(270,271),(271,270),(272,274)]) (lo:=270) (bw:=275) ab bU bU (fun r hr ht=>⟨⟨by unfold top;omega,_,(mi 0),((bg.ptr<|rq hr)).z⟩,⟨⟨by unfold top;omega,_,(mi 1),vi⟩,trivial⟩⟩) fun r hr ht=>⟨sc (mi 1) (rq hr) wW<|aft (l:=[(i6 A2.vars),(.U A2.G A2.q A2.lg),(i6 A2.x0),(i6 A2.x1),(i6 A2.x2),(i6 A2.x3),(i6 A2.x4),(i6 A2.x5),(i6 A2.x6),(i6 A2.x7),(.ptr<|some (270,0)),(.slice (some (274,0)) (m2)<|.aq c2 13),(i6 A2.steps)]) (m:=[(i6 A2.vars),(.U A2.G A2.q A2.lg),(i6 A2.x0),(i6 A2.x1),(i6 A2.x2),(i6 A2.x3),(i6 A2.x4),(i6 A2.x5),(i6 A2.x6),(i6 A2.x7),(.ptr<|some (271,0)),(.slice (some (272,0)) (m2)<|.aq c2 13),(i6 A2.steps)]) ⟨vi,⟨((Ol ht (by first|rfl|exact aL.2 (cF _)|assumption))).z,⟨vi,⟨vi,⟨vi,⟨vi,⟨vi,⟨vi,⟨vi,⟨vi,⟨((bg.ptr<|rq hr)).z,⟨((bg.slice<|rq hr)).z,⟨vi,trivial⟩⟩⟩⟩⟩⟩⟩⟩⟩⟩⟩⟩⟩,⟨sc (mi 0) (rq hr) (fK.refl _) UX,⟨sc (mi 2) (rq hr) (fK.refl _)<|IH ht hlen,trivial⟩⟩⟩) (show(⟨12,aE [(6,(.ptr<|some (270,0))),(7,i0)],34,(cO 12 [1,1,1,1,1]),[],none⟩:AF)=(⟨12,aE [(6,(.ptr<|some (270,0))),(7,i0)],34,(cO 12 [1,1,1,1,1]),[],none⟩:AF)/\(ah (Db A2 m2 c2 u2 bj) 273)=(ah (Db A2 m2 c2 u2 bj) 273) from⟨rfl,rfl⟩)))
end Xc
end
section
open Go Go.Rn Go.RowKit Go.Proofs
namespace Bj
open ch fT eX iq Pe vL mN mG tO rr vK tS xI eO cG dj cQ di fW fD gH gQ gW gj gk hU iC iD iT jd jW kj kS jX fO iB nh nS lV oX mj vN nT zA qC Xc
variable {p:Option AV×(AV->AV)}
noncomputable section
theorem tg(l:List St):nm (bx l)=nm (l.map aM).flatten:=by rw[uH]
def tD(tx:List St):Fr:=⟨tx,0,0,false,Z8,none⟩
def xZ(e:Int)(p:AV):AV:=.tuple [p,.int .i64 e]
def zk(args:List AV)(p:Option AV×(AV->AV)):Prop:=∃(tx:List St) (vars:Int) (aA:List Int) (G q:Nat),args=[.U (nm (tx.map aM).flatten) 0 tx.length,.int .i64 vars,.U G q aA.length]/\dv encI 1 (.U G q aA.length) aA/\aA.length<=1000/\(((vars<1\/vars>32)/\p=(none,xZ 1))\/((1<=vars/\vars<=32)/\qk 60 tx=true/\ky 60 tx=true/\∃b,tT tx (aA.length:Int) b/\((b=false/\p=(none,xZ 4))\/(b=true/\pC 60 tx=true/\∃st bb,ig 1000 [tD tx] [[]]=some (st,bb)/\p=(some<|eh ⟨vars,aA,Z8,bb,st.reverse,0⟩,xZ 0)))))
theorem T4{l:List St}{n:Int}{b b':Bool}(h:tT l n b)(h':tT l n b'):b=b':=by
 obtain⟨c1,c2,p,a1,a2,a3⟩:=h;obtain⟨c1',c2',p',b1,b2,b3⟩:=h';rw[a1] at b1;injection b1 with b1;injection b1 with _ q1 q2 _
 injection q1 with _ q1;injection q2 with _ q2
 rw[a2] at b2;injection b2 with b2
 rw[a3,b3,q1,q2,b2]
theorem zk.bM{args:List AV}{p':Option AV×(AV->AV)}(h:zk args p)(h':zk args p'):p=p':=by
 obtain⟨tx,vars,aA,G,q,rfl,i1,_,h⟩:=h;obtain⟨Yp,vars',Ki,G',q',e,i2,_,h'⟩:=h';simp only[List.cons.injEq,AV.U.injEq,AV.int.injEq,true_and,_root_.and_true] at e;obtain⟨⟨e1,e2⟩,rfl,rfl,rfl,e3⟩:=e;rw[←tg, ←tg] at e1;have e1:=sk _ _<|sU (lK _) (lK _) e1;subst e1;rw[←e3] at i2;have e4:=dv.inj sB i1 (by rw[e3] at i2 ⊢;exact i2);subst e4;rcases h with⟨a,rfl⟩|⟨a,_,_,b,m,h⟩<;>rcases h' with⟨a',rfl⟩|⟨a',_,_,b',m',h'⟩
 ·rfl
 ·omega
 ·omega
 ·have eb:=T4 m m';subst eb;rcases h with⟨x,rfl⟩|⟨x,_,st,bb,s1,rfl⟩<;>rcases h' with⟨x',rfl⟩|⟨x',_,aV,bb',s2,rfl⟩
  ·rfl
  ·rw[x] at x';cases x'
  ·rw[x] at x';cases x'
  ·rw[s1] at s2;injection s2 with s2;injection s2 with g1 g2
   rw[g1,g2]
open Classical in
def xM(args:List AV):Option<|Option AV×(AV->AV):=if h:∃p,zk args p then some h.choose else none
theorem abn{args:List AV}(h:xM args=some p):zk args p:=by
 unfold xM at h;split at h
 ·rename_i q;injection h with h;rw[←h];exact q.choose_spec
 ·cases h
theorem Nr{args:List AV}(h:zk args p):xM args=some p:=by unfold xM;have q:∃p,zk args p:=⟨p,h⟩;rw[dif_pos q];exact congrArg some<|zk.bM q.choose_spec h
def Wm:FuncId×KE:=(12,.new 4 xM)
theorem acC(tx:List St):ir [tD tx]:=fun f hf=>by rw[List.mem_singleton] at hf;subst hf;exact⟨⟨by show(0:Int)<=0;omega,by show(0:Int)<=1000000;omega⟩,rfl⟩
theorem acD(hP:bS pg){L:bO}(h:aY L):aY<|Wm::L:=by
 refine Uv yo hP gU (aL.1 aW) jR jj h (adO hP<|aae hP<|acg hP<|Te hP 60<|Sq hP dc) Tryd.func12 (body:=aR pg 12 []) aW aW fun args p e=>?_;obtain⟨tx,vars,aA,G,q,rfl,i1,hl,h⟩:=abn e;have cM:[AV.U (nm (tx.map aM).flatten) 0 tx.length,.int .i64 (aA.length:Int)].all AV.hi=true:=by rw[List.all_cons, ←tg,ri];rfl
 have hm:∀b,qk 60 tx=true->ky 60 tx=true->tT tx (aA.length:Int) b->ba (aP zi) [.U (nm (tx.map aM).flatten) 0 tx.length,.int .i64 (aA.length:Int)]=some (.bool b):=fun b h1 h2 h3=>eP (eK zi.bM ⟨tx,_,b,by rw[tg],h1,h2,h3,rfl⟩) cM rfl;refine⟨aL.1 aW,fun e0 B mc=>?_,fun v e0=>?_⟩
 ·rw[←ij];rcases h with⟨a,rfl⟩|⟨a,d1,d2,b,m,h⟩
  ·exact aei mc a
  ·rcases h with⟨rfl,rfl⟩|⟨_,_,_,_,_,rfl⟩
   ·exact acB mc (hm _ d1 d2 m) a
   ·cases e0
 ·rcases h with⟨a,rfl⟩|⟨a,d1,d2,b,m,h⟩
  ·cases e0
  rcases h with⟨rfl,rfl⟩|⟨rfl,gc,st,bb,hs,rfl⟩
  ·cases e0
  injection e0 with e0
  subst e0;refine⟨za.tup rfl,fun B mc=>?_⟩;rw[←ij];let A:MN:=⟨vars,nm (aA.map zc).flatten,0,aA.length,aA,0,0,0,0,0,0,0,0,0⟩;have m0:cY A 1 1 [tD tx] [[]]:=⟨dv.aw K0 aA,Ot,acC tx,Nat.le_refl 1,Nat.le_refl 1,by show 1<=1000000;omega,a⟩;obtain⟨n',cW,d⟩:=qY (st:=[tD tx]) m0 rfl hs;have o5:ba (aP A5) [.U G q aA.length]=some (.U (nm (aA.map encI).flatten) 0 aA.length):=eP (eK A5.bM ⟨G,q,aA,rfl,i1,by omega,rfl⟩) (by rw[List.all_cons,i1.hi];rfl) (dv.aw eI aA).hi;have QZ:ba (aP<|qc 60) [.U (nm (tx.map aM).flatten) 0 tx.length]=some (.U (nm (tx.map aM).flatten) 0 tx.length):=eP (eK qc.bM ⟨tx,by rw[tg],gc,by rw[tg]⟩) (by rw[List.all_cons, ←tg,ri];rfl) (by rw[←tg];exact ri tx);have ok:xj ⟨vars,aA,Z8,bb,st.reverse,0⟩:=by refine⟨rfl,d.ep.buf,?_,hl,a⟩;show st.reverse.length<=1000;rw[←d.eq,List.reverse_reverse,List.length_take];have:=d.le;omega
  have key:=afJ (vars:=vars) (G:=G) (q:=q) (tx:=tx) (aA:=aA) (A2:=A) (m2:=n') (c2:=1) (u2:=bI bb) (bj:=cW) mc (hm _ d1 d2 m) a o5 QZ rfl d.ep.len d.ep.aA.cM PO PO PO;have e1:cW.take n'=st.reverse:=by rw[←d.eq,List.reverse_reverse]
  have fu:(st.reverse).length=n':=by rw[←e1,List.length_take];have:=d.ep.mR;omega
  have e2:cW=st.reverse++cW.drop n':=by rw[←e1,List.take_append_drop]
  refine Kn (Nat.le_refl _) (W5 fun y1 s' q=>⟨q.1,gz ⟨vars,aA,Z8,bb,st.reverse,0⟩ (cW.drop n') 1,XT.tL _ ok _ _ ⟨by rw[fu];exact d.ep.pV,by rw[←e2];exact d.ep.len,fun f hf=>d.ep.nY f<|List.mem_of_mem_drop hf⟩,?_⟩) key;have hx:=q.2;have e3:=T1 ⟨vars,aA,Z8,bb,st.reverse,0⟩ (cW.drop n') 1;rw[←e3];show ∀m o,(m,o)∈dC 270 3 (cX _ (st.reverse).length 1 (st.reverse++cW.drop n') bb)->_;rw[fu, ←e2];exact hx
end
end Bj
end
section
open Go Go.Rn Go.RowKit Go.Proofs
namespace DA
open ch fT eX iq mN mG vK xH tS xI eO cG dj B7 vJ xG uo rr cQ di fW fD gH gQ gW gj gk hU iC iD iT jd jW kj kS jX fO iB mj vN nT zA qC zC Bj
variable {tx:List St}
def zD:Nat->Int->List St->Prop
 |0,_,_=>False
 |k+1,n,l=>∀s∈l,mA s n=true/\zD k n (bF s)/\zD k n (bE s)
theorem U1{k:Nat}{n:Int}(he:∀l p,fC gw k l (.int .i64 n) (.bool false)=some p->p.ret=true->zD k n l):∀r p,kG (fC gw k) gw r (.int .i64 n) (.bool false)=some p->p.ret=true->∀s∈r,mA s n=true/\zD k n (bF s)/\zD k n (bE s)
 |[],_,_,_,s,hs=>by cases hs
 |t::r,p,h,hp,s,hs=>by
  unfold kG at h;split at h
  ·cases h
  rename_i p1 e1;obtain⟨n',⟨fu,_⟩,hq⟩:=NS e1;injection fu with _ fu
  subst fu;cases Q0:mA t n with
  |false=>
   rw[Q0,if_neg (by intro q;cases q)] at hq;subst hq;have h:some (pN n)=some p:=h;injection h with h;subst h
   cases hp
  |true=>
   rw[Q0,if_pos rfl] at hq;subst hq;have h:(match fC gw k (bF t) (.int .i64 n) (.bool false) with
    |none=>none
    |some q=>match q.ret with
     |false=>some q
     |true=>match fC gw k (bE t) q.v1 q.v2 with
      |none=>none
      |some u=>match u.ret with
       |false=>some u
       |true=>kG (fC gw k) gw r u.v1 u.v2)=some p:=h
   split at h
   ·cases h
   rename_i q2 e2;rcases Ak k _ _ e2 with rfl|rfl
   ·have h:(match fC gw k (bE t) (.int .i64 n) (.bool false) with
     |none=>none
     |some u=>match u.ret with
      |false=>some u
      |true=>kG (fC gw k) gw r u.v1 u.v2)=some p:=h
    split at h
    ·cases h
    rename_i q3 e3;rcases Ak k _ _ e3 with rfl|rfl
    ·have h:kG (fC gw k) gw r (.int .i64 n) (.bool false)=some p:=h;rcases List.mem_cons.1 hs with rfl|hs
     ·exact⟨Q0,he _ _ e2 rfl,he _ _ e3 rfl⟩
     ·exact U1 he r p h hp s hs
    ·have h:some (pN n)=some p:=h;injection h with h;subst h;cases hp
   ·have h:some (pN n)=some p:=h;injection h with h;subst h;cases hp
theorem Aw{n:Int}:∀k l p,fC gw k l (.int .i64 n) (.bool false)=some p->p.ret=true->zD k n l
 |0,_,_,h,_=>by cases h
 |k+1,l,p,h,hp=>by
  unfold fC at h;split at h
  ·exact U1 (Aw k) l p h hp
  ·cases h
theorem IY(x y:Int):x<=cK x y/\y<=cK x y:=by
 unfold cK;split<;>rename_i q
 ·have:=of_decide_eq_true q;omega
 ·have:=of_decide_eq_false q;omega
theorem Pt{k:Nat}:∀(l:List St) (m:Int),m<=l.foldl (fun m s=>jt (bF s).length (bE s).length m (fp k<|bF s)<|fp k<|bE s) m/\∀s∈l,(bF s≠[]->fp k (bF s)<=l.foldl (fun m s=>jt (bF s).length (bE s).length m (fp k<|bF s)<|fp k<|bE s) m)/\(bE s≠[]->fp k (bE s)<=l.foldl (fun m s=>jt (bF s).length (bE s).length m (fp k<|bF s)<|fp k<|bE s) m)
 |[],m=>⟨Int.le_refl _,fun s h=>by cases h⟩
 |t::l,m=>by
  have one:m<=jt (bF t).length (bE t).length m (fp k<|bF t) (fp k<|bE t)/\(bF t≠[]->fp k (bF t)<=jt (bF t).length (bE t).length m (fp k<|bF t) (fp k<|bE t))/\(bE t≠[]->fp k (bE t)<=jt (bF t).length (bE t).length m (fp k<|bF t) (fp k<|bE t)):=by
   have g1:=IY m<|fp k<|bF t;have g2:=IY (cK m<|fp k<|bF t)<|fp k<|bE t;have g3:=IY m<|fp k<|bE t;unfold jt;by_cases c1:0<(bE t).length<;>by_cases c2:0<(bF t).length
   ·rw[if_pos c1,if_pos c2];exact⟨by omega,fun _=>by omega,fun _=>by omega⟩
   ·rw[if_pos c1,if_neg c2];exact⟨by omega,fun q=>absurd (List.length_pos_iff.2 q) c2,fun _=>by omega⟩
   ·rw[if_neg c1,if_pos c2];exact⟨by omega,fun _=>by omega,fun q=>absurd (List.length_pos_iff.2 q) c1⟩
   ·rw[if_neg c1,if_neg c2];exact⟨Int.le_refl _,fun q=>absurd (List.length_pos_iff.2 q) c2,fun q=>absurd (List.length_pos_iff.2 q) c1⟩
  obtain⟨a1,a2⟩:=Pt (k:=k) l<|jt (bF t).length (bE t).length m (fp k<|bF t)<|fp k<|bE t;rw[List.foldl_cons];refine⟨Int.le_trans one.1 a1,fun s hs=>?_⟩;rcases List.mem_cons.1 hs with rfl|hs
  ·exact⟨fun q=>Int.le_trans (one.2.1 q) a1,fun q=>Int.le_trans (one.2.2 q) a1⟩
  ·exact a2 s hs
theorem Zx{s:St}{n:Int}(h:mA s n=true)(hk:0<=fB s):(1<=fB s/\fB s<=8)/\(0<=Dz s/\Dz s<8):=by
 obtain⟨kind,to,a,b,bd,el⟩:=s;have h:zV (pU kind) to a b bd el n=true:=h;have hk:0<=kind:=hk;show(1<=kind/\kind<=8)/\(0<=to/\to<8);have Ha:∀l,zV l to a b bd el n=true->0<=to/\to<8:=fun l h=>by
  unfold zV at h;split at h
  ·obtain⟨_,h⟩:=and_true.1 h;obtain⟨h,_⟩:=and_true.1 h;exact of_decide_eq_true h
  ·cases h
 refine⟨?_,Ha _ h⟩;by_cases c:kind<=8
 ·refine⟨?_,c⟩;by_cases c0:kind=0
  ·subst c0;exfalso;have e:pU 0=[false,false,false,false,false,false]:=rfl;rw[e] at h;cases h
  ·omega
 ·exfalso;have e:pU kind=[false,false,false,false,false,false]:=by unfold pU;rw[List.getD_eq_getElem?_getD,List.getElem?_eq_none (show K3.length<=kind.toNat by show 9<=kind.toNat;omega)];rfl
  rw[e] at h;cases h
def GC:Nat->List St->Prop
 |0,_=>True
 |k+1,l=>∀s∈l,0<=fB s/\GC k (bF s)/\GC k (bE s)
theorem Pu{n:Int}:∀(d k:Nat) (l:List St),ky k l=true->zD k n l->GC k l->fp k l<=d->lk d l
 |_,0,_,h,_,_,_=>by cases h
 |0,k+1,l,_,_,_,h=>by have h:l.foldl _ 0+1<=(0:Int):=h;have:=(Pt (k:=k) l 0).1;omega
 |d+1,k+1,l,hc,ha,hp,h=>by
  have h:l.foldl (fun m s=>jt (bF s).length (bE s).length m (fp k<|bF s)<|fp k<|bE s) 0+1<=((d+1:Nat):Int):=h;obtain⟨c1,c2⟩:=and_true.1 (show(decide (l.length<=1000000)&&l.all fun s=>ky k (bF s)&&ky k (bE s))=true from hc);refine⟨of_decide_eq_true c1,fun s hs=>?_⟩;obtain⟨a1,a2,a3⟩:=ha s hs;obtain⟨p1,p2,p3⟩:=hp s hs;obtain⟨e1,e2⟩:=and_true.1<|List.all_eq_true.1 c2 s hs;obtain⟨g1,g2⟩:=(Pt (k:=k) l 0).2 s hs;obtain⟨q1,q2⟩:=Zx a1 p1;refine⟨q1,q2,?_,?_⟩
  ·by_cases z:bF s=[]
   ·rw[z];exact U0 d
   ·have:=g1 z;exact Pu d k _ e1 a2 p2 ab
  ·by_cases z:bE s=[]
   ·rw[z];exact U0 d
   ·have:=g2 z;exact Pu d k _ e2 a3 p3 ab
theorem afK{n:Int}(h:tT tx n true)(hc:ky 60 tx=true)(hp:GC 60 tx):lk 6 tx:=by obtain⟨c1,c2,p,_,e,hb⟩:=h;obtain⟨h1,h2⟩:=and_true.1 hb.symm;obtain⟨h2,_⟩:=and_true.1 h2;have h1:=of_decide_eq_true h1;exact Pu 6 60 tx hc (Aw 60 tx p e h2) hp h1.2.2.1
theorem aej{vars:Int}{aA:List Int}(h:lk 6 tx)(hg:aA.length<=1000)(hv:1<=vars/\vars<=32):∃st bb,ig 1000 [tD tx] [[]]=some (st,bb)/\ml ⟨vars,aA,Z8,bb,st.reverse,0⟩:=by
 have hi:Inv [tD tx] [[]]:=⟨⟨h,⟨by show(0:Int)<=0;omega,by show(0:Int)<=_;omega⟩,⟨by show(0:Int)<=0;omega,by show(0:Int)<=7;omega⟩,rfl,fun c=>(by cases c),trivial⟩,rfl,Ot⟩;obtain⟨aV,b',e,i,_⟩:=ED 1000 _ _ hi (by have:=N7 hi.wf;have l1:[tD tx].length=1:=rfl;omega);refine⟨aV,b',e,?_,rfl,?_,hg,hv⟩
 ·show Inv aV.reverse.reverse b';rw[List.reverse_reverse];exact i
 ·show aV.reverse.reverse=[]\/∃f r,aV.reverse.reverse=f::r/\_;rw[List.reverse_reverse];exact Cp _ _ _ _ _ e
end DA
end
section
open Go Go.Rn Go.RowKit Go.Proofs
namespace DU
open ch eO fT nT qC DT tW
variable {L:bO}
noncomputable section
abbrev tG(n:Nat):AS->AS:=W9 270 dG dT n
abbrev tQ(k n:Nat)(u:AV):AS->Prop:=W8 270 dG dT k n u
theorem tR{T:Prop}(L:bO)(g k n:Nat)(val:AV->List AV->Option AV)(rest:List AV)(v y:AV)(hv:val v rest=some y)(t:T)(h4:y.hi=true)(h1:sp L g=some (oY k val 270 dT dG):=by as_aux_lemma=>kernel_rfl)(h2:(rest.all AV.hi&&Nat.ble 270 n)=true:=by as_aux_lemma=>kernel_rfl)(h3:Nat.blt n top=true:=by as_aux_lemma=>kernel_rfl):
 (∀s,tQ k n v s->bc pg (sp L) FU 6 (.fn g) (.ptr (some (n,0))::rest) s= .ok y (tG n s))/\(true=true/\true=true/\some (ae.tok k v)=some (.tok k v))/\T:=
 ⟨aec (P:=pg) (F:=FU) (m:=5) h1 h2 h3 hv h4,⟨rfl,rfl,rfl⟩,t⟩
theorem Wn{a:dF}{bh:List Fr}{c:Nat}{s:AS}(h0:s.h.get 270=some (aC hI<|FZ a c))(h1:s.h.get 271=some (.tok 3<|bI a.b))(h2:s.h.get 272=some (aC aI<|a.fs++bh)):∀m o,(m,o)∈gz a bh c->s.h.get m=some o:=fun m o h=>by simp only[gz,List.mem_cons,List.not_mem_nil,or_false,Prod.mk.injEq] at h;rcases h with⟨rfl,rfl⟩|⟨rfl,rfl⟩|⟨rfl,rfl⟩<;>assumption
section
variable {B:aJ} {a:dF} {bh:List Fr} {c:Nat}
theorem afL(mc:Mt [Ps] B)(h:xj a)(hj:mC a bh c)(hl:(allM a.b).length<100000)(g0:(tG 271<|ah (ar++aX (gz a bh c)) 273).h.get 270=some (aC hI<|FZ a c):=by as_aux_lemma=>kernel_rfl)(g1:(tG 271<|ah (ar++aX (gz a bh c)) 273).h.get 271=some (.tok 3<|bI a.b):=by as_aux_lemma=>kernel_rfl)(g2:(tG 271<|ah (ar++aX (gz a bh c)) 273).h.get 272=some (aC aI<|a.fs++bh):=by as_aux_lemma=>kernel_rfl):
 au pg B 271 (iS XT pg (az Tryd.f16) 4 (aw aS<|dP<|allM a.b)<|eh a) (sF 16 Tryd.f16 [.ptr<|some (270,0)]) (ah (ar++aX (gz a bh c)) 273):=
 Ei mc (R:=fun y s=>oV 4 (aw aS<|dP<|allM a.b) (eh a) s y) (.st 8<|.rg<|.go 4<|.cg (aw aS<|dP<|allM a.b) (tG 271) (tQ 3 271<|bI a.b)<|.go 1<|.en<|.rt 1 .no) (tR [Ps] 41 3 271 (oK bI Pr) [] (bI a.b) (aw aS<|dP<|allM a.b) (by rw[Ir sw];exact if_pos hl) (T:=oV 4 (aw aS<|dP<|allM a.b) (eh a) (tG 271<|ah (ar++aX (gz a bh c)) 273)<|aw aS<|dP<|allM a.b) ⟨rfl,_,.tL a h bh c hj,Wn g0 g1 g2⟩<|aL.2<|cF _) bY bY
theorem afM(mc:Mt [] B)(h:xj a)(hj:mC a bh c)(g0:(ah (ar++aX (gz a bh c)) 273).h.get 270=some (aC hI<|FZ a c):=by as_aux_lemma=>kernel_rfl)(g1:(ah (ar++aX (gz a bh c)) 273).h.get 271=some (.tok 3<|bI a.b):=by as_aux_lemma=>kernel_rfl)(g2:(ah (ar++aX (gz a bh c)) 273).h.get 272=some (aC aI<|a.fs++bh):=by as_aux_lemma=>kernel_rfl):
 au pg B 271 (iS XT pg (az Tryd.f17) 4 (.int .i64 a.steps)<|eh a) (sF 17 Tryd.f17 [.ptr<|some (270,0)]) (ah (ar++aX (gz a bh c)) 273):=
 Ei mc (R:=fun y s=>oV 4 (.int .i64 a.steps) (eh a) s y) (.rt 10 .no) (T:=oV 4 (.int .i64 a.steps) (eh a) (ah (ar++aX (gz a bh c)) 273)<|.int .i64 a.steps) ⟨rfl,_,.tL a h bh c hj,Wn g0 g1 g2⟩ bY bY
end
def He:dF->List AV->Option AV
 |a,[]=>if(allM a.b).length<100000 then some (aw aS<|dP<|allM a.b) else none
 |_,_=>none
def Eu:dF->List AV->Option AV
 |a,[]=>some<|.int .i64 a.steps
 |_,_=>none
def Xd:FuncId×KE:=(16,.raw<|oY 4<|oK eh He)
def Xe:FuncId×KE:=(17,.raw<|oY 4<|oK eh Eu)
theorem aek(hP:bS pg)(hs:Da pg 60 61)(h:aY L):aY<|Xd::L:=by
 refine Iq yo hP gU rf jR jj mh lU h (acA hP hs dc) Tryd.func16 (body:=aR pg 16 []) aW aW fun v rest y e=>?_;obtain⟨a,rfl,e1⟩:=H4 e;unfold He at e1;split at e1<;>(try split at e1)<;>cases e1;rename_i q;refine⟨aL.1 aW,fun L hx=>?_⟩;generalize hv:eh a=v at hx;cases hx with
 |tL b hb bh c hj=>have:=uI _ _ hv;subst this;exact⟨273,by omega,aL.1 aW,Fp,fun B mc=>afL mc hb hj q⟩
theorem ael(hP:bS pg)(h:aY L):aY<|Xe::L:=by
 refine Iq yo hP gU rf jR jj mh lU h dc Tryd.func17 (body:=aR pg 17 []) aW aW fun v rest y e=>?_;obtain⟨a,rfl,e1⟩:=H4 e;unfold Eu at e1;split at e1<;>cases e1;refine⟨aL.1 aW,fun L hx=>?_⟩;generalize hv:eh a=v at hx;cases hx with
 |tL b hb bh c hj=>have:=uI _ _ hv;subst this;exact⟨273,by omega,aL.1 aW,Fp,fun B mc=>afM mc hb hj⟩
end
end DU
end
section
open Go Go.Rn Go.RowKit Go.Proofs
namespace DV
open ch fT vL
variable {P L:Nat} {i:Int}
noncomputable section
def kH(l:List Int)(ws:List<|Int×Int):List Int:=ws.foldl (fun l p=>l.set p.1.toNat p.2) l
theorem Fs:∀(ws:List<|Int×Int) (l:List Int),(kH l ws).length=l.length
 |[],_=>rfl
 |p::ws,l=>(Fs ws<|l.set p.1.toNat p.2).trans List.length_set
def KW:List Item:=[.code<|aR pg 18 [1,1,0,1,0,0],.inLoop<|aR pg 18 [1,1,0,1,0,0],.inBlock 0,.code<|aR pg 18 [1,1,1]]
abbrev Q1:Nat:=max Tryd.f18.ntmps 2
def wv(P L len:Nat)(i:Int):List<|Nat×AV:=[(5,.slice (some (271,0)) len<|.aq len 1),(10,.U P 0 L),(11,.int .i64 (L:Int)),(12,.int .i64 i)]
def pX(l:List Int):List<|Nat×Option ae:=[(271,some<|aC encI l)]
def uy(P L len:Nat)(i:Int):AF:=⟨18,aE<|wv P L len i,Q1,KW,[],none⟩
def uz(l:List Int):AS:=ah (pX l) 272
abbrev Cf(B:aJ)(v:AV)(fr:AF)(s:AS):Prop:=au pg B 270 (Fin pg (az Tryd.f18) fun y _=>y=v) fr s
abbrev LsW(P L len:Nat)(i:Int)(l:List Int):Prop:=((wv P L len i).map (fun q=>some q.2)=(wv P L len i).map (fun q=>some q.2))/\((pX l).map (fun q=>q.2)=(pX l).map (fun q=>q.2))/\(uy P L len i=uy P L len i/\uz l=uz l)
abbrev BkW(P L len:Nat)(i:Int)(l:List Int):Prop:=((wv P L len i).map (fun q=>some q.2)=(wv P L len i).map (fun q=>some q.2))/\((pX l).map (fun q=>q.2)=(pX l).map (fun q=>q.2))/\tI 272 (wv P L len i) (pX l)/\(uy P L len i=uy P L len i/\uz l=uz l)
section
variable {B:aJ} {v:AV}
theorem aiN{len:Nat}{l:List Int}(hP:top<=P)(hl:l.length<=100000):tI 272 (wv P L len i)<|pX l:=by
 intro r r1 r2;refine⟨fun p hp=>?_,fun p hp y hy=>?_⟩
 ·simp only[wv,List.mem_cons,List.not_mem_nil,or_false] at hp;rcases hp with rfl|rfl|rfl|rfl
  ·exact bg.slice<|r1 271 ab
  ·exact bg.U (r2 _ hP) r2
  ·exact bg.int _ _
  ·exact bg.int _ _
 ·rw[pX,List.mem_singleton] at hp;subst hp;cases hy;exact lS.aC (fun x=>⟨rfl,rfl⟩) (by rw[eI.length];unfold top;omega)
theorem QV(mc:Mt [] B){l:List Int}{N o m:Nat}(hlen:l.length<=100000)(hf:top<=N/\cv FU N o ((m+1)*1)=some (l.map encI).flatten/\m+1=l.length)(H:Cf B v (uy P L ([]++l).length 0)<|uz<|[]++l):
 Cf B v ⟨18,dt [.U N o<|m+1,.U P 0 L],Q1,(cO 18 []),[],none⟩ (ah ar 270):=
 wC mc (L:=[]) (C:=fun fr s1 _=>fr=uy P L ([]++l).length 0/\s1=uz ([]++l)) DJ (.st 3<|.rg<|.go 1<|.il<|.st 8<|.rg<|.go 2<|.al Int encI [] l<|.go 1<|.en<|.rt 1<|.go 1<|.en<|.st 5<|.ls (wv P L ([]++l).length 0) (pX<|[]++l) 272 .no) (G5 encI [] l (K:=1) (nj:=8) hf (fun x=>⟨rfl,rfl⟩) PM PN (show LsW P L ([]++l).length 0 ([]++l) from⟨rfl,rfl,rfl,rfl⟩))
theorem aiO(mc:Mt [] B){l:List Int}{len:Nat}{ak x c:Int}(hP:top<=P)(hlen:l.length<=100000)(hl:l.length=len)(h0:0<=i)(h1:i<(L:Int))(hL:L<=100000)(ha:0<=ak/\ak<(len:Int))(hc:l[ak.toNat]? =some c)(hx:cv FU P (0+i.toNat*2+0) 2=some [.int .i64 ak,.int .i64 x])(H:Cf B v (uy P L len<|i+1)<|uz<|l.set ak.toNat x):
 Cf B v (uy P L len i) (uz l):=
 wC mc (L:=[]) (C:=fun fr s1 _=>fr=uy P L len (i+1)/\s1=uz (l.set ak.toNat x)) DJ (.st 1<|.rg<|.fk (.en<|.st 6<|.rg<|.eB<|.eC [.int .i64 ak,.int .i64 x]<|.go 2<|.en<|.rg<|.go 5<|.ix<|.mr (aC encI<|l.set ak.toNat x)<|.en<|.st 1<|.rg<|.vl (i6<|i+1)<|.go 1<|.en<|.st 1<|.bk (wv P L len<|i+1) (pX<|l.set ak.toNat x) 272 .no) .no) (aT (i<(L:Int)) (fun _=>And.intro (show(0:Int)<=i from h0)<|ai (show i<(L:Int) from h1)<|ai hP<|ai hx<|ai (show(0:Int)<=ak from ha.1)<|ai (show ak<(len:Int) from ha.2)<|ai (pv (enc:=encI) (K:=1) (fun _=>rfl) dZ hc (c':=x) (r:=[.int .i64 x]) 0 rfl rfl rfl)<|ai (congrArg (AV.int .i64) (show IntKind.wrap .i64 (i+1)=i+1 from EA ab)) (show BkW P L len (i+1) (l.set ak.toNat x) from⟨rfl,rfl,aiN hP (by rw[List.length_set];exact hlen),rfl,rfl⟩)) (fun h=>show False from h h1))
def Li(l:List Int):AF:=⟨18,aE [(4,aw encI l)],Q1,(cO 18 [1,1,1,1]),[],none⟩
theorem mL(mc:Mt [] B)(l:List Int):Cf B (aw encI l) (Li l)<|ah [] 270:=wS mc (L:=[]) (R:=fun y _=>y=aw encI l) (.rt 1 .no) (T:=aw encI l=aw encI l) rfl
theorem enW(mc:Mt [] B){l:List Int}{len:Nat}(hlen:l.length<=100000)(hl:l.length=len)(h1:(L:Int)<=i):Cf B (aw encI l) (uy P L len i)<|uz l:=by subst hl;exact wC mc (L:=[]) (C:=fun fr s1 _=>fr=Li l/\s1=ah [] 270) (fun fr s1 _ hC=>by obtain⟨rfl,rfl⟩:=hC;exact mL mc l) (.st 1<|.rg<|.fk .no<|.en<|.st 5<|.rn [(4,.slice (some (271,0)) l.length<|.aq l.length 1)] (pX l) [(4,aw encI l)] [] 272 270 .no)<|aT (i<(L:Int)) (fun h=>show False by omega) (fun _=>show(([(4,.slice (some (271,0)) l.length<|.aq l.length 1)]:List<|Nat×AV).map (fun q=>some q.2)=([(4,.slice (some (271,0)) l.length<|.aq l.length 1)]:List<|Nat×AV).map (fun q=>some q.2))/\((pX l).map (fun q=>q.2)=(pX l).map (fun q=>q.2))/\hJ FU 270 272 [(4,.slice (some (271,0)) l.length<|.aq l.length 1)] (pX l) [(4,aw encI l)] [] 270/\(Li l=Li l/\ah [] 270=ah [] 270) from⟨rfl,rfl,Je (j:=4) (bw:=272) eI l rfl dZ dZ dZ dZ,rfl,rfl⟩)
end
def DB(args:List AV)(v:AV):Prop:=∃(N o:Nat) (l:List Int) (ws:List<|Int×Int),args=[.U N o l.length,aw aS ws]/\dv encI 1 (.U N o l.length) l/\(1<=l.length/\l.length<=100000/\ws.length<=100000)/\(∀p∈ws,0<=p.1/\p.1<(l.length:Int))/\v=aw encI (kH l ws)
theorem rG:mf 2 aS:=⟨fun _=>rfl,fun _=>rfl⟩
theorem abo{l m:List<|Int×Int}(h:aw aS l=aw aS m):l=m:=by
 have e:dv aS 2 (aw aS l) m:=by rw[h];exact dv.aw rG m
 exact dv.inj Ti (dv.aw rG l) e
theorem DB.bM(args:List AV)(v v':AV)(h:DB args v)(h':DB args v'):v=v':=by
 obtain⟨N,o,l,ws,rfl,hl,_,_,rfl⟩:=h;obtain⟨N',o',l',Q2,h1,kV,_,_,rfl⟩:=h';injection h1 with h1 h2
 injection h2 with h2 _
 rw[h1] at hl;rw[hl.inj sB kV,abo h2]
def Wo:FuncId×KE:=(18,.val<|aP DB)
theorem acE(hP:bS pg){L:bO}(h:aY L):aY<|Wo::L:=by
 refine gP hP h dc Tryd.func18 fun args v e=>?_;obtain⟨N,o,l,ws,rfl,hl,hlen,hw,rfl⟩:=fV e;refine⟨aL.1 aW,fun B mc=>?_⟩;rw[←ij];obtain⟨m,hm⟩:∃m,l.length=m+1:=⟨l.length - 1,by omega⟩;have hf:cv FU N o ((m+1)*1)=some (l.map encI).flatten:=by
  rcases Fh eI.len hl with q|q
  ·rw[←hm];exact q
  ·rw[q] at hm;cases hm
 have hN:=hl.len.2.1;have key:∀(r:List<|Int×Int) (i:Nat) (l':List Int),ws.drop i=r->l'.length=l.length->kH l' r=kH l ws->
  Cf B (aw encI<|kH l ws) (uy (nm (ws.map aS).flatten) ws.length l.length i) (uz l'):=by
  intro r;induction r with
  |nil=>intro i l' hr h1 h2;have hi:ws.length<=i:=List.drop_eq_nil_iff.1 hr;have h2:l'=kH l ws:=h2;rw[←h2];exact enW mc ab h1 ab
  |cons p r ih=>
   intro i l' hr h1 h2;have hl:i<ws.length:=by
    by_cases q:i<ws.length
    ·exact q
    ·rw[List.drop_of_length_le ab] at hr;cases hr
   have ha:ws[i]? =some p:=by have:=congrArg (fun q=>q[0]?) hr;simp only[List.getElem?_drop,List.getElem?_cons_zero,Nat.add_zero] at this;exact this
   have j8:ws.drop (i+1)=r:=by have:=congrArg (List.drop 1) hr;rw[List.drop_drop] at this;exact this
   obtain⟨w1,w2⟩:=hw p<|List.mem_of_getElem? ha;have hx:=sS rG ha 0 2 ab;have bZ:p.1.toNat<l'.length:=by omega
   refine aiO (c:=l'[p.1.toNat]) (x:=p.2) (ak:=p.1) mc (cF _) ab h1 ab ab ab ⟨w1,w2⟩ (List.getElem?_eq_getElem bZ) (by rw[show 0+(i:Int).toNat*2+0=i*2+0 by omega];exact hx) ?_;have:=ih (i+1) (l'.set p.1.toNat p.2) j8 (by rw[List.length_set];exact h1) h2;rw[show(((i+1:Nat)):Int)=(i:Int)+1 by omega] at this;exact this
 have:=QV (l:=l) (N:=N) (o:=o) (m:=m) (P:=nm (ws.map aS).flatten) (L:=ws.length) mc hlen.2.1 ⟨hN,hf,hm.symm⟩<|key ws 0 ([]++l) rfl rfl rfl;rw[←hm] at this;exact this
end
end DV
end
