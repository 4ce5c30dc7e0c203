import Derived.Test.YtphenfaomchomaaGreatDoorAtGM
import Derived.Test.YtphenfaomchomaaGreatDoorRnGH
import Derived.Test.YtphenfaomchomaaGreatDoorAtGL
import Derived.Test.YtphenfaomchomaaGreatDoorAtGK
set_option maxRecDepth 100000
set_option maxHeartbeats 8000000
set_option linter.unusedSimpArgs false
set_option linter.unusedVariables false
section
open Go Go.Rn Go.RowKit Go.Proofs
namespace zK
open cj fW eZ im eR cH dq cU dm fY fF gJ gQ gW gk gm hZ iB iC iV jh jY ko kY jZ fQ iA nj nU kF oU mu vV nV
variable {b b':bf} {fs:List Fr} {s:Int} {A:MN}
theorem len8{l:List Int}(h:l.length=8):∃a b c d e f g i,l=[a,b,c,d,e,f,g,i]:=⟨_,_,_,_,_,_,_,_,Jy l h⟩
theorem Of{a:dG}(h:a.l.length=8){to z:Int}(h0:0<=to)(h8:to<8):MN.ij {mn a with steps:=s} to z=mn ⟨a.vars,a.aM,a.l.set to.toNat z,b,fs,s⟩:=by obtain⟨vars,aM,l,b0,fs0,st⟩:=a;obtain⟨x0,x1,x2,x3,x4,x5,x6,x7,rfl⟩:=len8 h;rcases U6 h0 h8 with rfl|rfl|rfl|rfl|rfl|rfl|rfl|rfl<;>rfl
theorem Fq{A':MN}{n c k:Nat}{g:Fr}(m:da A n c fs b)(hk:k<=fs.length)(hl:fs.length<=1000)(e1:A'.G=A.G/\A'.q=A.q/\A'.lg=A.lg/\A'.aM=A.aM/\A'.vars=A.vars)(hg:(0<=g.turns/\g.turns<=1000000)/\g.kept.length=8)(hb:dj b'):
 da A' (k+1) (k+1) (qi fs k g) b'/\((qi fs k g).take<|k+1).reverse=g::(fs.take k).reverse:=by
 have hlen:(qi fs k g).length=k+1:=by rw[List.length_append,List.length_take];simp only[List.length_cons,List.length_nil];omega
 obtain⟨q1,q2,q3,q4,q5⟩:=e1;refine⟨⟨by rw[q1,q2,q3,q4];exact m.aM,hb,iq.app (iq.take m.n9 k) fun f hf=>?_,by rw[hlen];omega,Nat.le_refl _,by rw[hlen];omega,by rw[q5];exact m.vars⟩,?_⟩
 ·rw[List.mem_singleton] at hf;subst hf;exact hg
 ·rw[List.take_of_length_le (by rw[hlen];omega)];simp only[List.reverse_append,List.reverse_cons,List.reverse_nil,List.nil_append,List.cons_append]
structure uU (a:dG) (f:Fr) (r:List Fr) (kind to:Int):Prop where
 ar:0<=f.ar
 to:kind=1\/kind=2->0<=to/\to<8
 ahq:kind=6->∀g r',below (f::r)=some (g,r')->r'≠[]/\2<=a.b.length
theorem uV{a a':dG}{st:List Fr}(h:fin a st b=some a'):∃aW b',ig 1000 st b=some (aW,b')/\a'={a with fs:=aW.reverse,b:=b'}:=by
 unfold fin at h;split at h
 ·rename_i p e;injection h with h;exact⟨p.1,p.2,e,h.symm⟩
 ·cases h
theorem uW{a:dG}(h:xu a){l:List Int}{aW:List Fr}{n c n':Nat}{cY:List Fr}(d:jW A n c fs b aW b' n' cY)(hl:l.length=8)(hn:n<=1000):xu ⟨a.vars,a.aM,l,b',aW.reverse,s⟩:=by refine⟨hl,d.ey.buf,?_,h.2.2.2.1,h.2.2.2.2⟩;show aW.reverse.length<=1000;rw[←d.eq,List.reverse_reverse,List.length_take];have:=d.le;omega
theorem Tt{f f1:Fr}{r:List Fr}(ho:f1.bY=f.bY):below (f1::r)=if f.bY=true then some (f1,r) else below r:=by show(if f1.bY=true then some (f1,r) else below r)=_;rw[ho]
theorem Nx(z:Int):kS z<=8:=by
 unfold kS dY;split<;>rename_i q
 ·omega
 ·have:=of_decide_eq_false q;omega
noncomputable abbrev LS:bO:=[Qb,mg,iL,jH,kX,l9,yV,P8,Pw,OE,OA,OB]
section
variable {B:aI} {a a':dG} {bg:List Fr} {c m:Nat} {f:Fr} {r:List Fr} {kind to:Int} {ea eb:Ex} {bd el:List St}
theorem aeb(mc:Mt LS B)(h:Good a)(hj:mF a bg c)(t:nH a bg f r m)(cC:a.fs.reverse=f::r)(hs:f.block[f.ar.toNat]? =some (.mk 1 to ea eb bd el))(hd:uU a f r 1 to)(hk:dZ a=(1,0,0))(hf:fin {a with l:=a.l.set to.toNat<|dx a ea,steps:=a.steps+1} ({f with ar:=f.ar+1}::r) a.b=some a'):
 au pg B 271 (iU XT pg (az Tryz.f15) 4 (.int .i64 0)<|ep a') (sF 15 Tryz.f15 [.ptr<|some (270,0)]) (ah (ak++aY (gA a bg c)) 273):=by
 obtain⟨aW,b',e1,rfl⟩:=uV hf;have h0:=(hd.to<|.inl rfl);have mp:=h.mp hj t;obtain⟨p1,p2,p3⟩:=sU t;obtain⟨op,nn,la⟩:=ea;obtain⟨aE,n2,lb⟩:=eb;obtain⟨n',cY,d⟩:=rk (mp.ij (i:=to) (z:=dx a<|.mk op nn la)) p2 e1;have ev:dE {mn a with steps:=a.steps+1} (.mk op nn la)=dx a (.mk op nn la):=mh h.ok.1 _;have hX:=afJ mp (kind:=1) (ea:=.mk op nn la) (eb:=.mk aE n2 lb) (bd:=bd) (el:=el) h0.1 h0.2;rw[ev] at hX;have key:=j1 (.inl ⟨rfl,rfl,rfl⟩) mc (h.ey hj) qG h.fR h.b6 (sS t hd.ar hs) ((tw h t cC _ hs).trans hk) (h.ax t) h.steps mp mp.ij d.ey hX d.run;exact tu (a':=⟨a.vars,a.aM,a.l.set to.toNat<|dx a<|.mk op nn la,b',aW.reverse,a.steps+1⟩) (Of h.ok.1 h0.1 h0.2) rfl (uW h.ok d (by rw[List.length_set];exact h.ok.1) (by have:=h.fR;omega)) d.ey Gy key
theorem aec(mc:Mt LS B)(h:Good a)(hj:mF a bg c)(t:nH a bg f r m)(cC:a.fs.reverse=f::r)(hs:f.block[f.ar.toNat]? =some (.mk 2 to ea eb bd el))(hd:uU a f r 2 to)(hk:dZ a=(1,0,0))(hf:fin {a with l:=a.l.set to.toNat (kG a.b<|iM (dx a ea) a.vars).1,steps:=a.steps+1} ({f with ar:=f.ar+1}::r) a.b=some a'):
 au pg B 271 (iU XT pg (az Tryz.f15) 4 (.int .i64 0)<|ep a') (sF 15 Tryz.f15 [.ptr<|some (270,0)]) (ah (ak++aY (gA a bg c)) 273):=by
 obtain⟨aW,b',e1,rfl⟩:=uV hf;have mp:=h.mp hj t;obtain⟨p1,p2,p3⟩:=sU t;have n6:=h.fR;obtain⟨op,nn,la⟩:=ea;obtain⟨aE,n2,lb⟩:=eb;have ev:dE {mn a with steps:=a.steps+1} (.mk op nn la)=dx a (.mk op nn la):=mh h.ok.1 _;have uB:dE (mn a) (.mk op nn la)=dx a (.mk op nn la):=mh h.ok.1 _;have h0:=(hd.to<|.inr rfl);obtain⟨n',cY,d⟩:=rk (mp.ij (i:=to) (z:=(kG a.b<|iM (dx a<|.mk op nn la) a.vars).1)) p2 e1;have hX:=ad9 mp h.b6 (kind:=2) (ea:=.mk op nn la) (eb:=.mk aE n2 lb) (bd:=bd) (el:=el) h0.1 h0.2;rw[ev] at hX;have key:=j1 (.inr<|.inl ⟨rfl,rfl,rfl⟩) mc (h.ey hj) qG h.fR h.b6 (sS t hd.ar hs) ((tw h t cC _ hs).trans hk) (h.ax t) h.steps mp mp.ij d.ey hX d.run;exact tu (a':=⟨a.vars,a.aM,a.l.set to.toNat (kG a.b<|iM (dx a<|.mk op nn la) a.vars).1,b',aW.reverse,a.steps+1⟩) (Of h.ok.1 h0.1 h0.2) rfl (uW h.ok d (by rw[List.length_set];exact h.ok.1) ab) d.ey Gy key
theorem aed(mc:Mt LS B)(h:Good a)(hj:mF a bg c)(t:nH a bg f r m)(cC:a.fs.reverse=f::r)(hs:f.block[f.ar.toNat]? =some (.mk 3 to ea eb bd el))(hd:uU a f r 3 to)(hk:dZ a=(1,0,0))(hf:fin {a with steps:=a.steps+1} ({f with ar:=f.ar+1}::r) (kU a.b (iM (dx a ea) a.vars)<|dx a eb)=some a'):
 au pg B 271 (iU XT pg (az Tryz.f15) 4 (.int .i64 0)<|ep a') (sF 15 Tryz.f15 [.ptr<|some (270,0)]) (ah (ak++aY (gA a bg c)) 273):=by
 obtain⟨aW,b',e1,rfl⟩:=uV hf;have mp:=h.mp hj t;obtain⟨p1,p2,p3⟩:=sU t;have n6:=h.fR;obtain⟨op,nn,la⟩:=ea;obtain⟨aE,n2,lb⟩:=eb;have ev:dE {mn a with steps:=a.steps+1} (.mk op nn la)=dx a (.mk op nn la):=mh h.ok.1 _;have uB:dE (mn a) (.mk op nn la)=dx a (.mk op nn la):=mh h.ok.1 _;have ev2:dE {mn a with steps:=a.steps+1} (.mk aE n2 lb)=dx a (.mk aE n2 lb):=mh h.ok.1 _;have mb:da {mn a with steps:=a.steps+1} (0+a.fs.length) (0+a.fs.length) (gN (a.fs++bg) a.fs.length)<|kU a.b (iM (dx a<|.mk op nn la) a.vars)<|dx a<|.mk aE n2 lb:=⟨mp.aM,MQ mp.buf _ _,mp.n9,mp.mU,mp.p0,mp.len,mp.vars⟩;obtain⟨n',cY,d⟩:=rk mb p2 e1;have hX:=acz mp h.b6 (kind:=3) (to:=to) (ea:=.mk op nn la) (eb:=.mk aE n2 lb) (bd:=bd) (el:=el);rw[ev,ev2] at hX;have key:=j1 (.inr<|.inr ⟨rfl,rfl,rfl⟩) mc (h.ey hj) qG h.fR h.b6 (sS t hd.ar hs) ((tw h t cC _ hs).trans hk) (h.ax t) h.steps mp mb d.ey hX d.run;exact tu (a':=⟨a.vars,a.aM,a.l,b',aW.reverse,a.steps+1⟩) rfl rfl (uW h.ok d h.ok.1 ab) d.ey Gy key
theorem acB(mc:Mt LS B)(h:Good a)(hj:mF a bg c)(t:nH a bg f r m)(cC:a.fs.reverse=f::r)(hs:f.block[f.ar.toNat]? =some (.mk 4 to ea eb bd el))(hd:uU a f r 4 to)(hk:dZ a=(1,0,0))(hz:dx a ea≠0)(hf:fin {a with steps:=a.steps+1} (⟨bd,0,0,false,Z8,none⟩::{f with ar:=f.ar+1}::r) a.b=some a'):
 au pg B 271 (iU XT pg (az Tryz.f15) 4 (.int .i64 0)<|ep a') (sF 15 Tryz.f15 [.ptr<|some (270,0)]) (ah (ak++aY (gA a bg c)) 273):=by
 obtain⟨aW,b',e1,rfl⟩:=uV hf;have mp:=h.mp hj t;obtain⟨p1,p2,p3⟩:=sU t;have n6:=h.fR;obtain⟨op,nn,la⟩:=ea;obtain⟨aE,n2,lb⟩:=eb;have ev:dE {mn a with steps:=a.steps+1} (.mk op nn la)=dx a (.mk op nn la):=mh h.ok.1 _;have uB:dE (mn a) (.mk op nn la)=dx a (.mk op nn la):=mh h.ok.1 _;obtain⟨mE,eE⟩:=Fq (A':={mn a with steps:=a.steps+1}) (k:=0+a.fs.length) (b':=a.b) (g:=⟨bd,0,0,false,Z8,none⟩) mp tP tP ⟨rfl,rfl,rfl,rfl,rfl⟩ ⟨⟨by show(0:Int)<=0;omega,by show(0:Int)<=1000000;omega⟩,rfl⟩ mp.buf;rw[p2] at eE;obtain⟨n1,bt,d⟩:=rk mE eE e1;obtain⟨n',cY,d2⟩:=d.again e1;have key:=j4y mc (h.ey hj) qG h.fR h.b6 (sS t hd.ar hs) ((tw h t cC _ hs).trans hk) (h.ax t) h.steps mp d.ey d2.ey mE d.run d2.run (by rw[uB];exact hz);exact tu (a':=⟨a.vars,a.aM,a.l,b',aW.reverse,a.steps+1⟩) rfl rfl (uW h.ok d h.ok.1 ab) d2.ey Gx key
theorem acC(mc:Mt LS B)(h:Good a)(hj:mF a bg c)(t:nH a bg f r m)(cC:a.fs.reverse=f::r)(hs:f.block[f.ar.toNat]? =some (.mk 4 to ea eb bd el))(hd:uU a f r 4 to)(hk:dZ a=(1,0,0))(hz:dx a ea=0)(hf:fin {a with steps:=a.steps+1} (⟨el,0,0,false,Z8,none⟩::{f with ar:=f.ar+1}::r) a.b=some a'):
 au pg B 271 (iU XT pg (az Tryz.f15) 4 (.int .i64 0)<|ep a') (sF 15 Tryz.f15 [.ptr<|some (270,0)]) (ah (ak++aY (gA a bg c)) 273):=by
 obtain⟨aW,b',e1,rfl⟩:=uV hf;have mp:=h.mp hj t;obtain⟨p1,p2,p3⟩:=sU t;have n6:=h.fR;obtain⟨op,nn,la⟩:=ea;obtain⟨aE,n2,lb⟩:=eb;have ev:dE {mn a with steps:=a.steps+1} (.mk op nn la)=dx a (.mk op nn la):=mh h.ok.1 _;have uB:dE (mn a) (.mk op nn la)=dx a (.mk op nn la):=mh h.ok.1 _;obtain⟨mE,eE⟩:=Fq (A':={mn a with steps:=a.steps+1}) (k:=0+a.fs.length) (b':=a.b) (g:=⟨el,0,0,false,Z8,none⟩) mp tP tP ⟨rfl,rfl,rfl,rfl,rfl⟩ ⟨⟨by show(0:Int)<=0;omega,by show(0:Int)<=1000000;omega⟩,rfl⟩ mp.buf;rw[p2] at eE;obtain⟨n1,bt,d⟩:=rk mE eE e1;obtain⟨n',cY,d2⟩:=d.again e1;have key:=j4n mc (h.ey hj) qG h.fR h.b6 (sS t hd.ar hs) ((tw h t cC _ hs).trans hk) (h.ax t) h.steps mp d.ey d2.ey mE d.run d2.run (by rw[uB];exact hz);exact tu (a':=⟨a.vars,a.aM,a.l,b',aW.reverse,a.steps+1⟩) rfl rfl (uW h.ok d h.ok.1 ab) d2.ey Gx key
theorem acD(mc:Mt LS B)(h:Good a)(hj:mF a bg c)(t:nH a bg f r m)(cC:a.fs.reverse=f::r)(hs:f.block[f.ar.toNat]? =some (.mk 5 to ea eb bd el))(hd:uU a f r 5 to)(hk:dZ a=(1,0,0))(hz:0<kS (dx a ea))(hf:fin {a with steps:=a.steps+1} (⟨bd,0,kS (dx a ea) - 1,false,Z8,none⟩::{f with ar:=f.ar+1}::r) a.b=some a'):
 au pg B 271 (iU XT pg (az Tryz.f15) 4 (.int .i64 0)<|ep a') (sF 15 Tryz.f15 [.ptr<|some (270,0)]) (ah (ak++aY (gA a bg c)) 273):=by
 obtain⟨aW,b',e1,rfl⟩:=uV hf;have mp:=h.mp hj t;obtain⟨p1,p2,p3⟩:=sU t;have n6:=h.fR;obtain⟨op,nn,la⟩:=ea;obtain⟨aE,n2,lb⟩:=eb;have ev:dE {mn a with steps:=a.steps+1} (.mk op nn la)=dx a (.mk op nn la):=mh h.ok.1 _;have uB:dE (mn a) (.mk op nn la)=dx a (.mk op nn la):=mh h.ok.1 _;have h8:=Nx<|dx a<|.mk op nn la;obtain⟨mE,eE⟩:=Fq (A':={mn a with steps:=a.steps+1}) (k:=0+a.fs.length) (b':=a.b) (g:=⟨bd,0,kS (dx a<|.mk op nn la) - 1,false,Z8,none⟩) mp tP tP ⟨rfl,rfl,rfl,rfl,rfl⟩ ⟨⟨by show 0<=kS _ - 1;omega,by show kS _ - 1<=1000000;omega⟩,rfl⟩ mp.buf;rw[p2] at eE;obtain⟨n1,bt,d⟩:=rk mE eE e1;obtain⟨n',cY,d2⟩:=d.again e1;rw[←uB] at mE d hz h8;have key:=j5t mc (h.ey hj) qG h.fR h.b6 (sS t hd.ar hs) ((tw h t cC _ hs).trans hk) (h.ax t) h.steps mp d.ey d2.ey mE d.run d2.run ⟨hz,h8⟩;exact tu (a':=⟨a.vars,a.aM,a.l,b',aW.reverse,a.steps+1⟩) rfl rfl (uW h.ok d h.ok.1 ab) d2.ey Gx key
theorem acE(mc:Mt LS B)(h:Good a)(hj:mF a bg c)(t:nH a bg f r m)(cC:a.fs.reverse=f::r)(hs:f.block[f.ar.toNat]? =some (.mk 5 to ea eb bd el))(hd:uU a f r 5 to)(hk:dZ a=(1,0,0))(hz:¬(0<kS (dx a ea)))(hf:fin {a with steps:=a.steps+1} ({f with ar:=f.ar+1}::r) a.b=some a'):
 au pg B 271 (iU XT pg (az Tryz.f15) 4 (.int .i64 0)<|ep a') (sF 15 Tryz.f15 [.ptr<|some (270,0)]) (ah (ak++aY (gA a bg c)) 273):=by
 obtain⟨aW,b',e1,rfl⟩:=uV hf;have mp:=h.mp hj t;obtain⟨p1,p2,p3⟩:=sU t;have n6:=h.fR;obtain⟨op,nn,la⟩:=ea;obtain⟨aE,n2,lb⟩:=eb;have ev:dE {mn a with steps:=a.steps+1} (.mk op nn la)=dx a (.mk op nn la):=mh h.ok.1 _;have uB:dE (mn a) (.mk op nn la)=dx a (.mk op nn la):=mh h.ok.1 _;obtain⟨n',cY,d⟩:=rk mp p2 e1;have key:=j5o mc (h.ey hj) qG h.fR h.b6 (sS t hd.ar hs) ((tw h t cC _ hs).trans hk) (h.ax t) h.steps mp d.ey (by rw[uB];omega) d.run;exact tu (a':=⟨a.vars,a.aM,a.l,b',aW.reverse,a.steps+1⟩) rfl rfl (uW h.ok d h.ok.1 ab) d.ey Gy key
theorem aee(mc:Mt LS B)(h:Good a)(hj:mF a bg c)(t:nH a bg f r m)(cC:a.fs.reverse=f::r)(hs:f.block[f.ar.toNat]? =some (.mk 7 to ea eb bd el))(hd:uU a f r 7 to)(hk:dZ a=(1,0,0))(hf:fin {a with steps:=a.steps+1} (⟨bd,0,0,true,a.l,some el⟩::{f with ar:=f.ar+1}::r) (a.b++[[]])=some a'):
 au pg B 271 (iU XT pg (az Tryz.f15) 4 (.int .i64 0)<|ep a') (sF 15 Tryz.f15 [.ptr<|some (270,0)]) (ah (ak++aY (gA a bg c)) 273):=by
 obtain⟨aW,b',e1,rfl⟩:=uV hf;have mp:=h.mp hj t;obtain⟨p1,p2,p3⟩:=sU t;have n6:=h.fR;obtain⟨op,nn,la⟩:=ea;obtain⟨aE,n2,lb⟩:=eb;have ev:dE {mn a with steps:=a.steps+1} (.mk op nn la)=dx a (.mk op nn la):=mh h.ok.1 _;have uB:dE (mn a) (.mk op nn la)=dx a (.mk op nn la):=mh h.ok.1 _;have h6:a.b.length<7:=by have:=h.b6;omega
 obtain⟨mE,eE⟩:=Fq (A':={mn a with steps:=a.steps+1}) (k:=0+a.fs.length) (b':=a.b++[[]]) (g:=⟨bd,0,0,true,a.l,some el⟩) mp tP tP ⟨rfl,rfl,rfl,rfl,rfl⟩ ⟨⟨by show(0:Int)<=0;omega,by show(0:Int)<=1000000;omega⟩,h.ok.1⟩<|N8 mp.buf h6;rw[p2] at eE;obtain⟨n1,bt,d⟩:=rk mE eE e1;obtain⟨n',cY,d2⟩:=d.again e1;rw[←Xk h.ok.1] at mE d;have key:=j7 mc (h.ey hj) qG h.fR h.b6 (sS t hd.ar hs) ((tw h t cC _ hs).trans hk) (h.ax t) h.steps mp d.ey d2.ey mE d.run d2.run h6;exact tu (a':=⟨a.vars,a.aM,a.l,b',aW.reverse,a.steps+1⟩) rfl rfl (uW h.ok d h.ok.1 ab) d2.ey Gx key
theorem aef(mc:Mt LS B)(h:Good a)(hj:mF a bg c)(t:nH a bg f r m)(cC:a.fs.reverse=f::r)(hs:f.block[f.ar.toNat]? =some (.mk 6 to ea eb bd el))(hd:uU a f r 6 to)(hk:dZ a=(1,0,0)){fb ol:List St}{fa ft:Int}{fo:Bool}{kept:List Int}{r':List Fr}(Ak:below (f::r)=some (⟨fb,fa,ft,fo,kept,some ol⟩,r'))(hf:fin {a with l:=kept,steps:=a.steps+1} (⟨ol,0,0,false,Z8,none⟩::r') a.b.dropLast=some a'):
 au pg B 271 (iU XT pg (az Tryz.f15) 4 (.int .i64 0)<|ep a') (sF 15 Tryz.f15 [.ptr<|some (270,0)]) (ah (ak++aY (gA a bg c)) 273):=by
 obtain⟨aW,b',e1,rfl⟩:=uV hf;have mp:=h.mp hj t;obtain⟨p1,p2,p3⟩:=sU t;have n6:=h.fR;obtain⟨op,nn,la⟩:=ea;obtain⟨aE,n2,lb⟩:=eb;have ev:dE {mn a with steps:=a.steps+1} (.mk op nn la)=dx a (.mk op nn la):=mh h.ok.1 _;have uB:dE (mn a) (.mk op nn la)=dx a (.mk op nn la):=mh h.ok.1 _;obtain⟨hr,yo⟩:=hd.ahq rfl _ _ Ak;have Qc:∃Yz,below ({f with ar:=f.ar+1}::r)=some ((⟨fb,Yz,ft,fo,kept,some ol⟩:Fr),r'):=by
  rw[Tt (f1:={f with ar:=f.ar+1}) (f:=f) (r:=r) rfl];rw[Tt (f1:=f) (f:=f) rfl] at Ak;by_cases c:f.bY=true
  ·rw[if_pos c] at Ak ⊢;injection Ak with Ak
   injection Ak with g1 g2
   subst g1;subst g2;exact⟨_,rfl⟩
  ·rw[if_neg c] at Ak ⊢;exact⟨_,Ak⟩
 obtain⟨Yz,Qc⟩:=Qc;obtain⟨_,hw⟩:=Nw (0+a.fs.length) _ _ tP p2;obtain⟨i,w1,w2,w3,w4⟩:=hw _ _ Qc;have hi:1<=i:=by
  cases i with
  |zero=>exact absurd w4.symm (by rw[List.take_zero];exact hr)
  |succ i=>omega
 have Q4:kept.length=8:=(mp.n9 _<|List.mem_of_getElem? w3).2;obtain⟨y0,y1,y2,y3,y4,y5,y6,y7,rfl⟩:=len8 Q4;have ir:((i:Int)).toNat=i:=by omega
 obtain⟨mE,eE⟩:=Fq (A':={mn a with steps:=a.steps+1,x0:=y0,x1:=y1,x2:=y2,x3:=y3,x4:=y4,x5:=y5,x6:=y6,x7:=y7}) (k:=i) (b':=a.b.dropLast) (g:=⟨ol,0,0,false,Z8,none⟩) mp tP tP ⟨rfl,rfl,rfl,rfl,rfl⟩ ⟨⟨by show(0:Int)<=0;omega,by show(0:Int)<=1000000;omega⟩,rfl⟩<|N9 mp.buf yo;rw[w4] at eE;obtain⟨n1,bt,d⟩:=rk mE eE e1;obtain⟨n',cY,d2⟩:=d.again e1;have hn:i+1<=1000:=by omega
 rw[←ir] at mE d w3;have key:=j6 (wi:=(i:Int)) mc (h.ey hj) qG h.fR h.b6 (sS t hd.ar hs) ((tw h t cC _ hs).trans hk) (h.ax t) h.steps mp d.ey d2.ey mE d.run d2.run w1 ⟨by omega,by omega⟩ w3 yo;exact tu (a':=⟨a.vars,a.aM,[y0,y1,y2,y3,y4,y5,y6,y7],b',aW.reverse,a.steps+1⟩) rfl rfl (uW h.ok d2 rfl (by have:=d.le;omega)) d2.ey Gx key
end
end zK
end
section
open Go Go.Rn Go.RowKit Go.Proofs
namespace qH
open cj fW eZ im eR cH dq cU dm fY fF gJ gQ gW gk gm hZ iB iC iV jh jY ko kY jZ fQ iA nj nU kF oU mu vV nV zK
variable {L:bO}
noncomputable section
structure OQ (a:dG):Prop where
 pP:Good a
 top:a.fs=[]\/∃f r s,a.fs.reverse=f::r/\0<=f.ar/\f.block[f.ar.toNat]? =some s
structure Iv (a:dG):Prop where
 pP:Good a
 ask:dZ a=(1,0,0)
 top:∃f r kind to ea eb bd el,a.fs.reverse=f::r/\f.block[f.ar.toNat]? =some (.mk kind to ea eb bd el)/\uU a f r kind to
structure JH (a:dG):Prop where
 pP:Good a
 ask:∃v,dZ a=(2,v,0)
 top:∃f r kind to ea eb bd el,a.fs.reverse=f::r/\0<=f.ar/\f.block[f.ar.toNat]? =some (.mk kind to ea eb bd el)/\0<=to/\to<8
section
variable {B:aI} {a a':dG} {bg:List Fr} {c:Nat}
theorem acF(mc:Mt LS B)(h:Iv a)(hj:mF a bg c)(hs:qv a=some a'):
 au pg B 271 (iU XT pg (az Tryz.f15) 4 (.int .i64 0)<|ep a') (sF 15 Tryz.f15 [.ptr<|some (270,0)]) (ah (ak++aY (gA a bg c)) 273):=by
 obtain⟨hg,hk,f,r,kind,to,ea,eb,bd,el,cC,hb,hd⟩:=h;obtain⟨m,t⟩:=OP (bg:=bg) cC;unfold qv at hs;rw[cC] at hs;simp only[hb] at hs;by_cases c1:kind=1
 ·subst c1;rw[if_pos rfl] at hs;exact aeb mc hg hj t cC hb hd hk hs
 rw[if_neg c1] at hs;by_cases c2:kind=2
 ·subst c2;rw[if_pos rfl] at hs;exact aec mc hg hj t cC hb hd hk hs
 rw[if_neg c2] at hs;by_cases c3:kind=3
 ·subst c3;rw[if_pos rfl] at hs;exact aed mc hg hj t cC hb hd hk hs
 rw[if_neg c3] at hs;by_cases c4:kind=4
 ·subst c4;rw[if_pos rfl] at hs;by_cases z:dx a ea=0
  ·rw[if_neg fun q=>q z] at hs;exact acC mc hg hj t cC hb hd hk z hs
  ·rw[if_pos z] at hs;exact acB mc hg hj t cC hb hd hk z hs
 rw[if_neg c4] at hs;by_cases c5:kind=5
 ·subst c5;rw[if_pos rfl] at hs;by_cases z:0<kS (dx a ea)
  ·rw[if_pos z] at hs;exact acD mc hg hj t cC hb hd hk z hs
  ·rw[if_neg z] at hs;exact acE mc hg hj t cC hb hd hk z hs
 rw[if_neg c5] at hs;by_cases c6:kind=6
 ·subst c6;rw[if_pos rfl] at hs;split at hs
  ·rename_i e;exact aef mc hg hj t cC hb hd hk e hs
  ·cases hs
 rw[if_neg c6] at hs;by_cases c7:kind=7
 ·subst c7;rw[if_pos rfl] at hs;exact aee mc hg hj t cC hb hd hk hs
 rw[if_neg c7] at hs;cases hs
theorem aeg(mc:Mt LS B)(h:JH a)(hj:mF a bg c){x:Int}(hs:nA a x=some a'):
 au pg B 271 (iU XT pg (az Tryz.f41) 4 (.int .i64 0)<|ep a') (sF 41 Tryz.f41 [.ptr<|some (270,0),.int .i64 x]) (ah (ak++aY (gA a bg c)) 273):=by
 obtain⟨hg,⟨v,hk⟩,f,r,kind,to,ea,eb,bd,el,cC,h0,hb,t0,t8⟩:=h;obtain⟨m,t⟩:=OP (bg:=bg) cC;have k2:kind=2:=by
  have hk:=hk;unfold dZ at hk;rw[cC] at hk;simp only[hb] at hk;split at hk
  ·injection hk with q;exact absurd q ab
  split at hk
  ·injection hk with q;exact absurd q ab
  split at hk
  ·rename_i q;exact q.1
  ·injection hk with q;exact absurd q ab
 subst k2;unfold nA at hs;rw[cC] at hs;simp only[hb] at hs;obtain⟨aW,b',e1,rfl⟩:=uV hs;have mp:=hg.mp hj t;obtain⟨p1,p2,p3⟩:=sU t;have n6:=hg.fR;obtain⟨n',cY,d⟩:=rk (mp.ij (i:=to) (z:=x)) p2 e1;have ha:=(tw hg t cC _ hb).trans hk;obtain⟨op,nn,la⟩:=ea;obtain⟨aE,n2,lb⟩:=eb;have key:=jA mc (hg.ey hj) qG hg.fR hg.b6 (sS t h0 hb) ha (hg.ax t) hg.steps mp d.ey t0 t8 mp.ij d.run;exact tu (a':=⟨a.vars,a.aM,a.l.set to.toNat x,b',aW.reverse,a.steps+1⟩) (Of hg.ok.1 t0 t8) rfl (uW hg.ok d (by rw[List.length_set];exact hg.ok.1) ab) d.ey Gy key
theorem aeh(mc:Mt [mg,iL,jH,kX,l9] B)(h:OQ a)(hj:mF a bg c):
 au pg B 271 (iU XT pg (az Tryz.f14) 4 (BM<|dZ a)<|ep a) (sF 14 Tryz.f14 [.ptr<|some (270,0)]) (ah (ak++aY (gA a bg c)) 273):=by
 have key:∃o,mJ (a.fs++bg) a.fs.length o/\nT (mn a) (iG (a.fs++bg) a.fs.length) a.b o=dZ a:=by
  rcases h.top with e|⟨f,r,s,cC,h0,hb⟩
  ·refine⟨none,.inl ⟨by rw[e];rfl,rfl⟩,?_⟩;unfold dZ;rw[e];rfl
  ·obtain⟨m,t⟩:=OP (bg:=bg) cC;exact⟨some s,sS t h0 hb,tw h.pP t cC s hb⟩
 obtain⟨o,h1,h2⟩:=key;have hm:=h.pP.ey hj;have H:=U7 mc hm h.pP.fR h.pP.b6 h1;rw[h2] at H;refine tu (a':=a) rfl rfl h.pP.ok hm (by rw[List.take_left])<|Kx ab (fun _ _ _ _ q=>q) H
end
open Classical in
def Gi(a:dG)(rest:List AV):Option<|AV×dG:=if rest=[]/\Iv a then(qv a).map fun a'=>(.int .i64 0,a') else none
open Classical in
def zL(a:dG)(rest:List AV):Option<|AV×dG:=match rest with
 |[.int .i64 x]=>if JH a then(nA a x).map fun a'=>(.int .i64 0,a') else none
 |_=>none
open Classical in
def Ky(a:dG)(rest:List AV):Option<|AV×dG:=if rest=[]/\OQ a then some (BM<|dZ a,a) else none
def Wz:FuncId×KE:=(15,.tok 4<|gV ep Gi)
def Xl:FuncId×KE:=(41,.tok 4<|gV ep zL)
theorem VO(hP:bS pg):aX LS:=aea hP<|Nt hP<|C0 hP<|FA hP<|It hP<|Mk hP<|SE hP<|ad6 hP<|acy hP<|abl hP<|abg hP<|abh hP de
theorem FB{a:dG}{bg:List Fr}{c:Nat}:∀p∈gA a bg c,p.1<273:=fun p hp=>by simp only[gA,List.mem_cons,List.not_mem_nil,or_false] at hp;rcases hp with rfl|rfl|rfl<;>(show _<273;simp only;omega)
theorem acG(hP:bS pg)(h:aX L):aX<|Wz::L:=by
 refine NU yz hP gT ry jT jq mr lY h (VO hP) Tryz.func15 (body:=aQ pg 15 []) aU aU fun v rest y v' e=>?_;obtain⟨a,a',rfl,e1,rfl⟩:=Il e;unfold Gi at e1;split at e1
 ·rename_i q;obtain⟨rfl,hd⟩:=q;cases hs:qv a with
  |none=>rw[hs] at e1;cases e1
  |some a2=>
   rw[hs] at e1;injection e1 with e1;injection e1 with e2 e3
   subst e2;subst e3;refine⟨aK.1 aU,fun L hx=>?_⟩;generalize hv:ep a=v at hx;cases hx with
   |tT b hb bg c hj=>have:=uO _ _ hv;subst this;exact⟨273,by omega,aK.1 aU,FB,fun B mc=>acF mc hd hj hs⟩
 ·cases e1
theorem aei(hP:bS pg)(h:aX L):aX<|Xl::L:=by
 refine NU yz hP gT ry jT jq mr lY h (VO hP) Tryz.func41 (body:=aQ pg 41 []) aU aU fun v rest y v' e=>?_;obtain⟨a,a',rfl,e1,rfl⟩:=Il e;unfold zL at e1;split at e1
 ·rename_i x;split at e1
  ·rename_i hd;cases hs:nA a x with
   |none=>rw[hs] at e1;cases e1
   |some a2=>
    rw[hs] at e1;injection e1 with e1;injection e1 with e2 e3
    subst e2;subst e3;refine⟨aK.1 aU,fun L hx=>?_⟩;generalize hv:ep a=v at hx;cases hx with
    |tT b hb bg c hj=>have:=uO _ _ hv;subst this;exact⟨273,by omega,aK.1 aU,FB,fun B mc=>aeg mc hd hj hs⟩
  ·cases e1
 ·cases e1
end
end qH
end
section
open Go Go.Rn Go.RowKit Go.Proofs
namespace D3
open cj cU fW eZ im cH eR dq jZ ko gm hZ mu nV qH gk jY
variable {S:Type} {rest:List AV} {f:S->List AV->Option AV} {enc:S->AV}
noncomputable section
def oK(enc:S->AV)(f:S->List AV->Option AV)(v:AV)(rest:List AV):Option AV:=(gV enc (fun a r=>(f a r).map fun y=>(y,a)) v rest).map (·.1)
theorem Ix(inj:∀a b,enc a=enc b->a=b){a:S}:oK enc f (enc a) rest=f a rest:=by unfold oK;rw[AP inj];cases f a rest<;>rfl
theorem H8{v:AV}{y:AV}(h:oK enc f v rest=some y):∃a,v=enc a/\f a rest=some y:=by
 unfold oK at h;cases q:gV enc (fun a r=>(f a r).map fun y=>(y,a)) v rest with
 |none=>rw[q] at h;cases h
 |some p=>
  rw[q] at h;injection h with h;subst h
  obtain⟨y,v'⟩:=p;obtain⟨a,a',e1,e2,e3⟩:=Il q;refine⟨a,e1,?_⟩;cases q2:f a rest with
  |none=>rw[q2] at e2;cases e2
  |some z=>rw[q2] at e2;injection e2 with e2;injection e2 with e2 _;exact congrArg some e2
def VP:FuncId×KE:=(14,.raw<|oV 4<|oK ep fun a rest=>(Ky a rest).map (·.1))
theorem abr(hP:bS pg){L:bO}(h:aX L):aX<|VP::L:=by
 refine Iw yz hP gT ry jT jq mr lY h (Nt hP<|C0 hP<|FA hP<|It hP<|Mk hP de) Tryz.func14 (body:=aQ pg 14 []) aU aU fun v rest y e=>?_;obtain⟨a,rfl,e1⟩:=H8 e;unfold Ky at e1;split at e1
 ·rename_i q;obtain⟨rfl,hd⟩:=q;injection e1 with e1
  have e1:BM (dZ a)=y:=e1;subst e1;refine⟨aK.1 aU,fun L hx=>?_⟩;generalize hv:ep a=v at hx;cases hx with
  |tT b hb bg c hj=>have:=uO _ _ hv;subst this;exact⟨273,by omega,aK.1 aU,FB,fun B mc=>aeh mc hd hj⟩
 ·cases e1
end
end D3
end
section
open Go Go.Rn Go.RowKit Go.Proofs
namespace yf
open cj eR fW im P7 kF tW gk
variable {r d:List<|Int×Int} {fz:lF} {q:Int×Int} {i:Nat} {o0:List<|Nat×Option ae}
noncomputable section
theorem yg:mo 2 aS:=⟨fun _=>rfl,fun _=>rfl⟩
theorem Xp(x:Int×Int):(aS x).length=2/\(aS x).all AV.bR=true:=⟨rfl,rfl⟩
def allM(ms:bf):List<|Int×Int:=ms.foldl fj []
theorem Ml{ms:bf}(hd:dW d):dW<|ms.foldl fj d:=by
 induction ms generalizing d with
 |nil=>exact hd
 |cons m ms ih=>exact ih<|dW.merge hd
def al5:FuncId×KE:=yE
def afO:FuncId×KE:=(61,.raw fun _ _ _=>tJ 62)
abbrev LA:bO:=[yE,afO]
def KA:List Item:=[.code<|aQ pg 42 [1,1,1,0,1,0,0],.inLoop<|aQ pg 42 [1,1,1,0,1,0,0],.inBlock 0,.code<|aQ pg 42 [1,1,1,1]]
def p6(n:Nat)(cap:bZ)(i:Nat):List<|Nat×AV:=[(3,.map<|some 279),(15,.slice (some (271,0)) n cap),(16,.int .i64<|.ofNat n),(17,.int .i64<|.ofNat i)]
abbrev kz:Nat:=max Tryz.f42.ntmps 1
def og(n:Nat)(cap:bZ)(i:Nat):AF:=⟨42,aC<|p6 n cap i,kz,KA,[],none⟩
abbrev oA(ms:bf)(cap:bZ)(d:List<|Int×Int):List<|Nat×Option ae:=ak++aY (dO ms cap++[(279,bA d)])
abbrev cV(ms:bf)(cap:bZ)(d:List<|Int×Int):AS:=ah (oA ms cap d) 280
abbrev gR(B:aI)(lo:Nat)(ms:bf)(fr:AF)(s:AS):Prop:=au pg B lo (iU XT pg (az Tryz.f42) 3 (aw aS<|dR<|allM ms)<|bJ ms) fr s
abbrev RA(ms:bf):AV->AS->Prop:=fun y s=>oT 3 (aw aS<|dR<|allM ms) (bJ ms) s y
section
variable {B:aI} {ms:bf} {cap:bZ}
theorem J5{lo bx nx:Nat}{l0 l:List<|Nat×AV}{o:List<|Nat×Option ae}(h1:lo<=nx)(h2:nx<=bx)(h3:bx<top)(hs:∀r:Nat->Nat,(∀k,k<nx->r k=k)->(∀k,top<=k->r k=k)->∀p∈l,p.1<top/\∃x,(p.1,x)∈l0/\jF fz r x p.2)(ho:∀r:Nat->Nat,(∀k,k<nx->r k=k)->(∀k,top<=k->r k=k)->∀p∈o,p.1<nx/\∀y,p.2=some y->y.kj=true/\∃x,(p.1,some x)∈o0/\fM x y/\fD fz r x y)(hz:∀p∈fz,nx<=p.1/\p.1<top/\FU p.2.1=some p.2.2/\∃N t z,(p.1,some<|.cells N t z)∈o0/\∀i x,p.2.2[i]? =some x->i<N/\cellAt t z i=some x/\x.bR=true/\x.cP=true):hU FU lo bx l0 o0 l o nx:=by
 let r:Nat->Nat:=fun k=>if k<nx\/top<=k then k else max k bx
 have r1:∀k,k<nx->r k=k:=fun k hk=>if_pos<|.inl hk;have r2:∀k,top<=k->r k=k:=fun k hk=>if_pos<|.inr hk;refine⟨fz,r,fun k hk=>r1 k ab,fun k a b=>?_,r2,by omega,hs r r1 r2,fun p hp=>?_,fun p hp q hq _ _ e=>?_,fun p hp=>?_,fun p hp q hq _ e=>?_⟩
 ·show bx<=(if _ then _ else _)/\(if _ then _ else _)<top;rw[if_neg ab];omega
 ·obtain⟨a,b⟩:=ho r r1 r2 p hp;exact⟨by omega,fun y hy=>by obtain⟨c1,x,c2,c3,c4⟩:=b y hy;rw[r1 _ a];exact⟨by omega,c1,x,c2,c3,c4⟩⟩
 ·have a:=(ho r r1 r2 p hp).1;have b:=(ho r r1 r2 q hq).1;rw[r1 _ a,r1 _ b] at e;exact e
 ·exact(hz p hp).2
 ·have a:=(ho r r1 r2 q hq).1;rw[r1 _ a] at e;have:=(hz p hp).1;omega
theorem Va{fz:lF}{r:Nat->Nat}(hr:∀k,k<279->r k=k):∀{l:List AV},(∀x∈l,∃i,x= .map (some i)/\i<279)->ly fz r l l
 |[],_=>trivial
 |x::l,h=>⟨by obtain⟨i,rfl,hi⟩:=h x List.mem_cons_self;exact(bp.map<|hr i hi).z,Va hr fun y hy=>h y<|List.mem_cons_of_mem _ hy⟩
theorem OS(h:dj ms){r:Nat->Nat}(hr:∀k,k<279->r k=k):∀p∈dO ms cap,p.1<279/\p.2.kj=true/\fD fz r p.2 p.2:=fun p hp=>by
 refine⟨Np h p hp,?_⟩;have h7:=h.1.2;rcases List.mem_cons.1 hp with rfl|hp
 ·exact⟨rfl,fD.cells (l:=[.slice (some (271,0)) ms.length cap]) (m:=[.slice (some (271,0)) ms.length cap]) (by show 1<=top;unfold top;omega) ⟨(bp.slice<|hr 271 ab).z,trivial⟩ rfl⟩
 rcases List.mem_cons.1 hp with rfl|hp
 ·refine⟨rfl,?_⟩;have e:((jS ms.length).map hJ).flatten=jS ms.length:=FP _;show fD fz r (.cells ((jS ms.length).map hJ).flatten.length (Tr.fill ((jS ms.length).map hJ).flatten 0 .nil) [])<|.cells ((jS ms.length).map hJ).flatten.length (Tr.fill ((jS ms.length).map hJ).flatten 0 .nil) [];rw[e];refine fD.cells (by rw[Nr];unfold top;omega) (Va hr fun x hx=>?_)<|Nq _;obtain⟨i,hi,rfl⟩:=List.mem_map.1 hx;exact⟨_,rfl,by have:=List.mem_range.1 hi;omega⟩
 ·obtain⟨_,_,m,e⟩:=HZ hp;rw[e];exact⟨rfl,fun _ _ _ _ _ k=>uR k⟩
theorem DI{r:Nat->Nat}(hr:∀k,k<270->r k=k):∀p∈ak,p.1<270/\∀y,p.2=some y->y.kj=true/\fD fz r y y:=fun p hp=>by
 have h1:(ak.all fun p=>Nat.blt p.1 270&&(match p.2 with|some x=>x.kj|none=>true))=true:=by as_aux_lemma=>kernel_rfl
 obtain⟨a,b⟩:=and_true.1<|List.all_eq_true.1 h1 p hp;refine⟨(blt_eq _ _).mp a,fun y hy=>?_⟩;rw[hy] at b;exact⟨b,(Fm (nx:=270) hr bW p hp y hy).z⟩
theorem Pz(h:dj ms){nx:Nat}(ct:279<=nx){r:Nat->Nat}(hr:∀k,k<nx->r k=k){more less:List<|Nat×ae}(hm:∀p∈more,p.1<nx/\p.2.kj=true/\∃x,(p.1,x)∈less/\fM x p.2/\fD fz r x p.2):
 ∀p∈ak++aY (dO ms cap++more),p.1<nx/\∀y,p.2=some y->y.kj=true/\∃x,(p.1,some x)∈ak++aY (dO ms cap++less)/\fM x y/\fD fz r x y:=fun p hp=>by
 rcases List.mem_append.1 hp with hp|hp
 ·obtain⟨a,b⟩:=DI (fz:=fz) (fun k hk=>hr k ab) p hp;refine⟨by omega,fun y hy=>?_⟩;obtain⟨c,d⟩:=b y hy;exact⟨c,y,List.mem_append_left _ (by rw[←hy];exact hp),fM.refl _,d⟩
 ·rw[wR] at hp;obtain⟨q,hq,rfl⟩:=List.mem_map.1 hp;rcases List.mem_append.1 hq with hq|hq
  ·obtain⟨a,b,c⟩:=OS h (fz:=fz) (fun k hk=>hr k ab) q hq;refine⟨by show q.1<nx;omega,fun y hy=>?_⟩;cases hy;exact⟨b,_,List.mem_append_right _ (by rw[wR];exact List.mem_map.2 ⟨q,List.mem_append_left _ hq,rfl⟩),fM.refl _,c⟩
  ·obtain⟨a,b,x,c,d,e⟩:=hm q hq;refine⟨a,fun y hy=>?_⟩;cases hy;exact⟨b,x,List.mem_append_right _ (by rw[wR];exact List.mem_map.2 ⟨(q.1,x),List.mem_append_right _ c,rfl⟩),d,e⟩
theorem Q5(mc:Mt LA B)(h:dj ms)(H:gR B 271 ms (og ms.length cap 0)<|cV ms cap [])(k:(((p6 ms.length cap 0).map (fun q=>some q.2)=(p6 ms.length cap 0).map (fun q=>some q.2))/\((ak++aY (dO ms cap++[(279,xX [])])).map (fun q=>q.2)=(ak++aY (dO ms cap++[(279,xX [])])).map (fun q=>q.2))/\hU FU 271 280 (p6 ms.length cap 0) (ak++aY (dO ms cap++[(279,xX [])])) (p6 ms.length cap 0) (oA ms cap []) 280/\(og ms.length cap 0=og ms.length cap 0/\cV ms cap []=cV ms cap []))=
 wp (o8 LA) 900 6 (.fr 42 kz (cv 42 []) (dc [.ptr<|some (270,0)])<|ah (ak++aY (dO ms cap)) 279) (.st 14<|.rn (p6 ms.length cap 0) (ak++aY (dO ms cap++[(279,xX [])])) (p6 ms.length cap 0) (oA ms cap []) 280 280 .no) (az Tryz.f42) (fun y s _=>RA ms y s) (fun fr s1 _=>fr=og ms.length cap 0/\s1=cV ms cap []):=by as_aux_lemma=>kernel_rfl):
 gR B 271 ms ⟨42,dc [.ptr<|some (270,0)],kz,(cv 42 []),[],none⟩ (ah (ak++aY (dO ms cap)) 279):=
 Cg mc (fun fr s1 _ hC=>by obtain⟨rfl,rfl⟩:=hC;exact H) _ ⟨rfl,rfl,J5 (fz:=[]) ab ab eH (fun r hr ht p hp=>by
  simp only[p6,List.mem_cons,List.not_mem_nil,or_false] at hp;rcases hp with rfl|rfl|rfl|rfl
  ·exact⟨by unfold top;omega,_,mi 0,(bp.map<|hr 279 ab).z⟩
  ·exact⟨by unfold top;omega,_,mi 1,(bp.slice<|hr 271 ab).z⟩
  ·exact⟨by unfold top;omega,_,mi 2,vi⟩
  ·exact⟨by unfold top;omega,_,mi 3,vi⟩) (fun r hr ht=>Pz h ab hr fun p hp=>by
   rw[List.mem_singleton] at hp;subst hp;exact⟨by show 279<280;omega,rfl,_,List.mem_singleton.2 rfl,Oy,Pu List.nodup_nil⟩) (fun p hp=>by cases hp),rfl,rfl⟩ k bW
theorem Qa(mc:Mt LA B)(hd:dW d)(hm:dW<|ms.getD i [])(H:gR B 271 ms (og ms.length cap<|i+1)<|cV ms cap<|fj d<|ms.getD i [])(hi:272+i<279)(hk:pM 270 dH dV (cV ms cap d)=true:=by as_aux_lemma=>kernel_rfl)(ha:Nat.blt 279 (dC 270 dH dV<|cV ms cap d).nx=true:=by as_aux_lemma=>kernel_rfl)(hb:Nat.blt (272+i) (dC 270 dH dV<|cV ms cap d).nx=true:=by as_aux_lemma=>kernel_rfl)(g1:(dC 270 dH dV<|cV ms cap d).h.get 279=some (bA d):=by as_aux_lemma=>kernel_rfl)(g2:(dC 270 dH dV<|cV ms cap d).h.get (272+i)=some (bA<|ms.getD i []):=by as_aux_lemma=>kernel_rfl)(k:(aZ pg (sp LA) FU 6 (.fn 60) [.map<|some 279,.map<|some<|272+i] (cV ms cap d)= .ok (.tuple []) (QR 279 (272+i) d (ms.getD i [])<|cV ms cap d)/\((p6 ms.length cap<|i+1).map (fun q=>some q.2)=(p6 ms.length cap<|i+1).map (fun q=>some q.2))/\((oA ms cap<|fj d<|ms.getD i []).map (fun q=>q.2)=(oA ms cap<|fj d<|ms.getD i []).map (fun q=>q.2))/\(og ms.length cap (i+1)=og ms.length cap (i+1)/\cV ms cap (fj d<|ms.getD i [])=cV ms cap (fj d<|ms.getD i [])))=
 wp (o8 LA) 900 6 (.fr 42 kz KA (aC<|p6 ms.length cap i)<|cV ms cap d) (.st 9<|.rg<|.go 2<|.cu (.tuple []) (QR 279 (272+i) d (ms.getD i [])<|cV ms cap d)<|.en<|.st 3<|.ls (p6 ms.length cap<|i+1) (oA ms cap<|fj d<|ms.getD i []) 280 .no) (az Tryz.f42) (fun y s _=>RA ms y s) (fun fr s1 _=>fr=og ms.length cap (i+1)/\s1=cV ms cap (fj d<|ms.getD i [])):=by as_aux_lemma=>kernel_rfl):
 gR B 271 ms (og ms.length cap i) (cV ms cap d):=
 Cg mc (fun fr s1 _ hC=>by obtain⟨rfl,rfl⟩:=hC;exact H) _ ⟨UM (P:=pg) (sp:=sp LA) aU hk ab ha hb Gz Gz g1 g2 hd hm,rfl,rfl,rfl,rfl⟩ k bW
theorem ael{l:bf}(h:i<l.length):l.getD i []∈l:=by rw[List.getD_eq_getElem?_getD,List.getElem?_eq_getElem h];exact List.getElem_mem h
theorem Ns(mc:Mt LA B)(h:dj ms)(hd:dW d)(hi:i<ms.length)(H:gR B 271 ms (og ms.length cap<|i+1)<|cV ms cap<|fj d<|ms.getD i []):gR B 271 ms (og ms.length cap i)<|cV ms cap d:=by
 have hm:=h.2 _<|ael hi;have h7:=h.1.2;rcases(Ga h.1).imp (fun q=>fR ⟨h.1.1,q⟩) id with(⟨m0,rfl⟩|⟨m0,m1,rfl⟩|⟨m0,m1,m2,rfl⟩|⟨m0,m1,m2,m3,rfl⟩|⟨m0,m1,m2,m3,m4,rfl⟩|⟨m0,m1,m2,m3,m4,m5,rfl⟩)|⟨m0,m1,m2,m3,m4,m5,m6,rfl⟩
 all_goals
  simp only[List.length_cons,List.length_nil] at hi;obtain rfl|rfl|rfl|rfl|rfl|rfl|rfl:i=0\/i=1\/i=2\/i=3\/i=4\/i=5\/i=6:=by omega
  all_goals first|(exfalso;omega)|exact Qa mc hd hm H ab
def KN:List Item:=[.code<|aQ pg 42 [1,1,1,1,1,0,1,0,0,1],.inLoop<|aQ pg 42 [1,1,1,1,1,0,1,0,0],.inBlock 2,.code<|aQ pg 42 [1,1,1,1,1,1]]
def eh(t:Tr AV):AF:=⟨42,t,kz,.code (aQ pg 42 [1,1,1,1,1,0,1,0,0,0])::KN,[],none⟩
def fH(t:Tr AV)(v:AV)(b:Bool):AF:=⟨42,(t.put 27<|some v).put 28<|some<|.bool b,kz,KN,[],none⟩
def oL(ms:bf)(cap:bZ)(D left:List<|Int×Int)(cur:Option<|AV×AV):List<|Nat×ae:=dO ms cap++[(279,.iy),(280,.iter 279 (cq D) false (cq left) cur)]
def oO:List (Int×Int)->List (Nat×ae)
 |[]=>[]
 |p::r=>[(281,aD aS<|p::r)]
def aiI:List (Int×Int)->AV
 |[]=>.slice none 0<|.known 0
 |p::r=>.slice (some (281,0)) (p::r).length<|.aq (p::r).length 2
def nO:List (Int×Int)->Nat
 |[]=>281
 |_::_=>282
def ia(ms:bf)(cap:bZ)(D left:List<|Int×Int)(cur:Option<|AV×AV)(out:List<|Int×Int):AS:=ah (ak++aY (oL ms cap D left cur++oO out))<|nO out
def fy(out:List<|Int×Int):List<|Nat×AV:=[(3,.map<|some 279),(6,aiI out),(25,.map<|some 279),(26,.ptr<|some (280,0))]
def uy:Oper:=(opsOf<|aQ pg 42 [1,1,1,1,1,0,1,0,0,0]).toList.headD default
def ud:Array Oper:=opsOf<|aQ pg 42 [1,1,1,1,1,0,1,0,0,0]
def tI:List Oper:=(opsOf<|aQ pg 42 [1,1,1,1,1,0,1,0,0,0]).toList.tail
def nr:Env:=yd pg 270 dV dH LA 281 true
theorem asks(t:Tr AV):AD (eh t)=some (.tmp 26,uy,ud,tI,KN):=by kernel_rfl
def fA(ms:bf)(cap:bZ)(D out:List<|Int×Int):AS:=ah (ak++(aY (dO ms cap++[(279,bA D)])++((280,none)::aY (oO out))))<|nO out
theorem vj{p:bf->Prop}(h:dj ms)(h1:∀m0,p [m0])(h2:∀m0 m1,p [m0,m1])(h3:∀m0 m1 m2,p [m0,m1,m2])(h4:∀m0 m1 m2 m3,p [m0,m1,m2,m3])(h5:∀m0 m1 m2 m3 m4,p [m0,m1,m2,m3,m4])(h6:∀m0 m1 m2 m3 m4 m5,p [m0,m1,m2,m3,m4,m5])(h7:∀m0 m1 m2 m3 m4 m5 m6,p [m0,m1,m2,m3,m4,m5,m6]):p ms:=by
 rcases(Ga h.1).imp (fun q=>fR ⟨h.1.1,q⟩) id with(⟨m0,rfl⟩|⟨m0,m1,rfl⟩|⟨m0,m1,m2,rfl⟩|⟨m0,m1,m2,m3,rfl⟩|⟨m0,m1,m2,m3,m4,rfl⟩|⟨m0,m1,m2,m3,m4,m5,rfl⟩)|⟨m0,m1,m2,m3,m4,m5,m6,rfl⟩
 ·exact h1 _
 ·exact h2 _ _
 ·exact h3 _ _ _
 ·exact h4 _ _ _ _
 ·exact h5 _ _ _ _ _
 ·exact h6 _ _ _ _ _ _
 ·exact h7 _ _ _ _ _ _ _
section
variable {D left out:List<|Int×Int} {cur:Option<|AV×AV} {k v:Int}
theorem WA(h:dj ms):ri (eh<|aC<|fy out) (.tmp 26) (ia ms cap D left cur out)= .ok (280,.iter 279 (cq D) false (cq left) cur) (ia ms cap D left cur out):=by revert h;intro h;cases out<;>(refine vj (p:=fun ms=>ri (eh<|aC<|fy _) (.tmp 26) (ia ms cap D left cur _)= .ok (280,.iter 279 (cq D) false (cq left) cur) (ia ms cap D left cur _)) h ?_ ?_ ?_ ?_ ?_ ?_ ?_<;>intros<;>kernel_rfl)
theorem ahr(h:dj ms){YR:aJ}:nz pg YR (eh<|aC<|fy out) 280 279 (cq D) false uy ud tI KN (ia ms cap D left cur out)= .ok (fH (aC<|fy out) (.tuple [.bool false]) false) (fA ms cap D out):=by cases out<;>(refine vj (p:=fun ms=>nz pg YR (eh<|aC<|fy _) 280 279 (cq D) false uy ud tI KN (ia ms cap D left cur _)= .ok (fH (aC<|fy _) (.tuple [.bool false]) false) (fA ms cap D _)) h ?_ ?_ ?_ ?_ ?_ ?_ ?_<;>intros<;>kernel_rfl)
theorem isA(h:dj ms){YR:aJ}:nB pg YR (eh<|aC<|fy out) 280 (.iter 279 (cq D) false (cq r)<|some (.int .i64 k,.int .i64 v)) uy ud tI KN (.tuple [.bool true,.int .i64 k,.int .i64 v]) (ia ms cap D left cur out)= .ok (fH (aC<|fy out) (.tuple [.bool true,.int .i64 k,.int .i64 v]) true) (ia ms cap D r (some (.int .i64 k,.int .i64 v)) out):=by cases out<;>(refine vj (p:=fun ms=>nB pg YR (eh<|aC<|fy _) 280 (.iter 279 (cq D) false (cq r)<|some (.int .i64 k,.int .i64 v)) uy ud tI KN (.tuple [.bool true,.int .i64 k,.int .i64 v]) (ia ms cap D left cur _)= .ok (fH (aC<|fy _) (.tuple [.bool true,.int .i64 k,.int .i64 v]) true) (ia ms cap D r (some (.int .i64 k,.int .i64 v)) _)) h ?_ ?_ ?_ ?_ ?_ ?_ ?_<;>intros<;>kernel_rfl)
end
def CM(l0:List<|Nat×AV)(o0:List<|Nat×Option ae)(n:Nat):x8:=fun fr s _=>(fr.fn=42/\fr.nt=kz/\fr.todo=(eh .nil).todo/\fr.defers=[]/\fr.round=none)/\l0.map (fun q=>fr.tmps.get q.1)=l0.map (fun q=>some q.2)/\o0.map (fun q=>s.h.get q.1)=o0.map (fun q=>q.2)/\s.nx=n
abbrev MX(l0:List<|Nat×AV)(o0:List<|Nat×Option ae)(n:Nat):Prop:=((eh .nil).fn=42/\(eh .nil).nt=kz/\(eh .nil).todo=(eh .nil).todo/\(eh .nil).defers=[]/\(eh .nil).round=none)/\(l0.map (fun q=>some q.2)=l0.map (fun q=>some q.2))/\(o0.map (fun q=>q.2)=o0.map (fun q=>q.2))/\n=n
theorem mx{l0:List<|Nat×AV}{n:Nat}:MX l0 o0 n:=⟨⟨rfl,rfl,rfl,rfl,rfl⟩,rfl,rfl,rfl⟩
theorem Nz{α β:Type}{f g:α->β}:∀{l:List α},l.map f=l.map g->∀p∈l,f p=g p
 |a::l,h,p,hp=>by
  simp only[List.map_cons,List.cons.injEq] at h;rcases List.mem_cons.1 hp with rfl|hp
  ·exact h.1
  ·exact Nz h.2 p hp
def jb(a len:Nat):List<|Nat×AV:=[(3,.map<|some 279),(6,.slice (some (a,0)) len<|.aq len 2),(25,.map<|some 279),(26,.ptr<|some (280,0))]
def oM(ms:bf)(cap:bZ)(D left:List<|Int×Int)(cur:Option<|AV×AV):List<|Nat×Option ae:=ak++aY (oL ms cap D left cur)
theorem VT{l:List<|Int×Int}:qC<|cq l:=fun p hp=>by obtain⟨q,_,rfl⟩:=List.mem_map.1 hp;exact⟨_,_,rfl⟩
section
variable {D left out:List<|Int×Int} {k v:Int}
theorem VU(h:dj ms):∀p∈oM ms cap D left (some (.int .i64 k,.int .i64 v)),p.1<281/\∀y,p.2=some y->Fix 281 (oM ms cap D left<|some (.int .i64 k,.int .i64 v)) y:=fun p hp=>by
 have hp':=hp;unfold oM oL at hp;rcases List.mem_append.1 hp with hp|hp
 ·refine⟨by have:=(DI (fz:=[]) (r:=id) (fun _ _=>rfl) p hp).1;omega,fun y hy=>.inl ⟨((DI (fz:=[]) (r:=id) (fun _ _=>rfl) p hp).2 y hy).1,fun r hr _=>((DI (fun k hk=>hr k ab) p hp).2 y hy).2⟩⟩
 ·rw[wR] at hp;obtain⟨q,hq,rfl⟩:=List.mem_map.1 hp;rcases List.mem_append.1 hq with hq|hq
  ·obtain⟨a,b,_⟩:=OS h (fz:=[]) (r:=id) (fun _ _=>rfl) q hq;refine⟨by show q.1<281;omega,fun y hy=>?_⟩;cases hy;exact .inl ⟨b,fun r hr _=>(OS h (fun k hk=>hr k ab) q hq).2.2⟩
  ·simp only[List.mem_cons,List.not_mem_nil,or_false] at hq;rcases hq with rfl|rfl
   ·exact⟨by show 279<281;omega,fun y hy=>by cases hy;exact .inr<|.inl rfl⟩
   ·refine⟨by show 280<281;omega,fun y hy=>?_⟩;cases hy;refine .inr (.inr ⟨279,_,_,_,_,rfl,by omega,?_,VT,VT,fun x hx=>?_⟩)
    ·unfold oM oL;exact List.mem_append_right _ (by rw[wR];exact List.mem_map.2 ⟨(279,.iy),List.mem_append_right _ List.mem_cons_self,rfl⟩)
    ·cases hx;intro p hp;rw[List.mem_singleton] at hp;subst hp;exact⟨_,_,rfl⟩
theorem ahs{p:Int×Int}{cur:Option<|AV×AV}:ia ms cap D left cur (p::r)=ah (oM ms cap D left cur++[(281,some<|aD aS<|p::r)]) 282:=by unfold ia oM oO nO;rw[wR,wR,List.map_append, ←List.append_assoc];rfl
theorem YA(h:dj ms){a n:Nat}(ha:281<=a/\a<290)(hn:n<290)(hl:(q::r).length<=1000000)(H:gR B 281 ms (eh<|aC<|fy<|q::r)<|ia ms cap D left (some (.int .i64 k,.int .i64 v))<|q::r):
 ∀fr s p,CM (jb a (q::r).length) (oM ms cap D left (some (.int .i64 k,.int .i64 v))++[(a,some<|aD aS<|q::r)]) n fr s p->gR B 281 ms fr s:=by
 rintro ⟨_,t,_,_,_,_⟩ s _ ⟨⟨rfl,rfl,rfl,rfl,rfl⟩,c1,c2,rfl⟩;rw[ahs] at H;have c2:=Nz c2;refine au.mv (a:=a) (x:=aD aS<|q::r) (os:=oM ms cap D left<|some (.int .i64 k,.int .i64 v)) (l0:=jb a (q::r).length) (l:=fy<|q::r) (Nat.le_trans gT ab) eH ⟨ha.1,by unfold top;omega⟩ eH (Nz c1) (fun p hp=>c2 p<|List.mem_append_left _ hp) (c2 _<|List.mem_append_right _<|List.mem_singleton.2 rfl) (fun p hp=>(VU h p hp).1) (fun p hp=>?_) (fun f r1 r2 r3 p hp=>?_) (fun p hp=>(VU h p hp).2) ⟨rfl,fun f hf=>?_⟩ H
 ·simp only[fy,List.mem_cons,List.not_mem_nil,or_false] at hp;rcases hp with rfl|rfl|rfl|rfl
  ·show 3<top;unfold top;omega
  ·show 6<top;unfold top;omega
  ·show 25<top;unfold top;omega
  ·show 26<top;unfold top;omega
 ·simp only[fy,List.mem_cons,List.not_mem_nil,or_false] at hp;rcases hp with rfl|rfl|rfl|rfl
  ·exact⟨_,mi 0,(bp.map<|r1 279 ab).z⟩
  ·exact⟨_,mi 1,(bp.slice r3).z⟩
  ·exact⟨_,mi 2,(bp.map<|r1 279 ab).z⟩
  ·exact⟨_,mi 3,(bp.ptr<|r1 280 ab).z⟩
 ·exact(lW.aD (fun x=>⟨rfl,rfl⟩)<|Fs hl).z
end
section
variable {D left out:List<|Int×Int} {k v:Int}
theorem Pq(mc:Mt LA B)(h:dj ms)(H:gR B 281 ms (eh<|aC<|fy [(k,v)])<|ia ms cap D left (some (.int .i64 k,.int .i64 v)) [(k,v)]):gR B 281 ms (fH (aC<|fy []) (.tuple [.bool true,.int .i64 k,.int .i64 v]) true)<|ia ms cap D left (some (.int .i64 k,.int .i64 v)) []:=by have hC:=YA (cap:=cap) (D:=D) (left:=left) h (q:=(k,v)) (r:=[]) (a:=282) (n:=283) ab ab (by simp) H;clear H;have key:∀x,x=wp nr 900 6 (.fr 42 kz KN (fH (aC<|fy []) (.tuple [.bool true,.int .i64 k,.int .i64 v]) true).tmps<|ia ms cap D left (some (.int .i64 k,.int .i64 v)) []) (.st 10<|.cut .no) (az Tryz.f42) (fun y s _=>RA ms y s) (CM (jb 282 1) (oM ms cap D left (some (.int .i64 k,.int .i64 v))++[(282,some<|aD aS [(k,v)])]) 283)->x->gR B 281 ms (fH (aC<|fy []) (.tuple [.bool true,.int .i64 k,.int .i64 v]) true) (ia ms cap D left (some (.int .i64 k,.int .i64 v)) []):=fun x e hx=>wp_cut (E:=nr) eT rfl bI mc.2.2.1 mc.2.2.2 (Nat.le_trans gT ab) rfl mc.1 hC 900 _ hx e bU;refine key (MX (jb 282 1) (oM ms cap D left (some (.int .i64 k,.int .i64 v))++[(282,some<|aD aS [(k,v)])]) 283) ?_ mx;clear key hC;refine vj (p:=fun ms=>MX (jb 282 1) (oM ms cap D left (some (.int .i64 k,.int .i64 v))++[(282,some<|aD aS [(k,v)])]) 283=wp nr 900 6 (.fr 42 kz KN (fH (aC<|fy []) (.tuple [.bool true,.int .i64 k,.int .i64 v]) true).tmps<|ia ms cap D left (some (.int .i64 k,.int .i64 v)) []) (.st 10<|.cut .no) (az Tryz.f42) (fun y s _=>RA ms y s) (CM (jb 282 1) (oM ms cap D left (some (.int .i64 k,.int .i64 v))++[(282,some<|aD aS [(k,v)])]) 283)) h ?_ ?_ ?_ ?_ ?_ ?_ ?_<;>intros<;>kernel_rfl
end
section
variable {D left out:List<|Int×Int} {k v:Int}
abbrev AX(l:List<|Int×Int)(c:Int×Int)(X:Prop):Prop:=l.length=l.length/\l.length=l.length/\some (aD aS l)=some (aD aS l)/\some (ae.cells (aS c).length (Tr.fill (aS c) 0 .nil) [])=some (ae.cells (aS c).length (Tr.fill (aS c) 0 .nil) [])/\(∀x,(aS x).length=2/\(aS x).all AV.bR=true)/\2*(l.length+1)*16+4096*16<=room/\(l.length+1)*2<=Rn.top/\X
theorem Pr(mc:Mt LA B)(h:dj ms)(hl:(q::r).length<100000)(H:gR B 281 ms (eh<|aC<|fy<|q::(r++[(k,v)]))<|ia ms cap D left (some (.int .i64 k,.int .i64 v))<|q::(r++[(k,v)])):gR B 281 ms (fH (aC<|fy<|q::r) (.tuple [.bool true,.int .i64 k,.int .i64 v]) true)<|ia ms cap D left (some (.int .i64 k,.int .i64 v))<|q::r:=by
 have e1:(q::(r++[(k,v)])).length=(q::r).length+1:=by simp
 have hC:=YA (cap:=cap) (D:=D) (left:=left) h (q:=q) (r:=r++[(k,v)]) (a:=283) (n:=284) ab ab ab H;clear H;have key:∀x,x=wp nr 900 6 (.fr 42 kz KN (fH (aC<|fy<|q::r) (.tuple [.bool true,.int .i64 k,.int .i64 v]) true).tmps<|ia ms cap D left (some (.int .i64 k,.int .i64 v))<|q::r) (.st 6<|.rg<|.go 5<|.ap (Int×Int) aS (q::r) (k,v)<|.go 1<|.en<|.st 3<|.cut .no) (az Tryz.f42) (fun y s _=>RA ms y s) (CM (jb 283 ((q::r)++[(k,v)]).length) (oM ms cap D left (some (.int .i64 k,.int .i64 v))++[(283,some<|aD aS<|(q::r)++[(k,v)])]) 284)->x->gR B 281 ms (fH (aC<|fy<|q::r) (.tuple [.bool true,.int .i64 k,.int .i64 v]) true) (ia ms cap D left (some (.int .i64 k,.int .i64 v))<|q::r):=fun x e hx=>wp_cut (E:=nr) eT rfl bI mc.2.2.1 mc.2.2.2 (Nat.le_trans gT ab) rfl mc.1 hC 900 _ hx e bU;refine key (AX (q::r) (k,v)<|MX (jb 283 ((q::r)++[(k,v)]).length) (oM ms cap D left (some (.int .i64 k,.int .i64 v))++[(283,some<|aD aS<|(q::r)++[(k,v)])]) 284) ?_<|QI aS (q::r) (k,v) (K:=2) (nY:=16) Xp (by unfold room;omega) eH<|mx (l0:=jb 283 ((q::r)++[(k,v)]).length) (o0:=oM ms cap D left (some (.int .i64 k,.int .i64 v))++[(283,some<|aD aS<|(q::r)++[(k,v)])]) (n:=284);clear key hC;refine vj (p:=fun ms=>AX (q::r) (k,v) (MX (jb 283 ((q::r)++[(k,v)]).length) (oM ms cap D left (some (.int .i64 k,.int .i64 v))++[(283,some<|aD aS<|(q::r)++[(k,v)])]) 284)=wp nr 900 6 (.fr 42 kz KN (fH (aC<|fy<|q::r) (.tuple [.bool true,.int .i64 k,.int .i64 v]) true).tmps<|ia ms cap D left (some (.int .i64 k,.int .i64 v))<|q::r) (.st 6<|.rg<|.go 5<|.ap (Int×Int) aS (q::r) (k,v)<|.go 1<|.en<|.st 3<|.cut .no) (az Tryz.f42) (fun y s _=>RA ms y s) (CM (jb 283 ((q::r)++[(k,v)]).length) (oM ms cap D left (some (.int .i64 k,.int .i64 v))++[(283,some<|aD aS<|(q::r)++[(k,v)])]) 284)) h ?_ ?_ ?_ ?_ ?_ ?_ ?_<;>intros<;>kernel_rfl
end
def ln(v:AV):AF:=⟨42,aC [(2,v)],kz,(cv 42 [1,1,1,1,1,1,1,1]),[],none⟩
def oE(ms:bf)(cap:bZ):List<|Nat×Option ae:=ak++aY (dO ms cap++[])
theorem aiJ(mc:Mt LA B)(h:dj ms)(hc:oS ms.length cap):gR B 281 ms (ln<|aw aS<|dR<|allM ms)<|ah (oE ms cap) 281:=me (E:=nr) eT rfl bI mc.2.2.1 mc.2.2.2 900 (.rt 1 .no) (T:=oT 3 (aw aS<|dR<|allM ms) (bJ ms) (ah (oE ms cap) 281)<|aw aS<|dR<|allM ms) (by unfold oE;rw[List.append_nil];exact Kw 281 h hc _)
abbrev EG(ms:bf)(cap:bZ)(v v':AV)(more:List<|Nat×ae)(bx:Nat):Prop:=(([(2,v)]:List<|Nat×AV).map (fun q=>some q.2)=([(2,v)]:List<|Nat×AV).map (fun q=>some q.2))/\((ak++aY (dO ms cap++more)).map (fun q=>q.2)=(ak++aY (dO ms cap++more)).map (fun q=>q.2))/\hU FU 281 bx [(2,v)] (ak++aY (dO ms cap++more)) [(2,v')] (oE ms cap) 281/\(ln v'=ln v'/\ah (oE ms cap) 281=ah (oE ms cap) 281)
section
variable {D left out:List<|Int×Int} {k v:Int}
theorem Ps(mc:Mt LA B)(h:dj ms)(H:gR B 281 ms (ln<|aw aS [])<|ah (oE ms cap) 281):gR B 281 ms (fH (aC<|fy []) (.tuple [.bool false]) false)<|fA ms cap D []:=by have key:∀x,x=wp nr 900 6 (.fr 42 kz KN (fH (aC<|fy []) (.tuple [.bool false]) false).tmps<|fA ms cap D []) (.st 4<|.rg<|.go 1<|.cu (.tuple []) (fA ms cap D [])<|.en<|.st 2<|.rn [(2,.slice none 0<|.known 0)] (oE ms cap) [(2,aw aS [])] (oE ms cap) 281 281 .no) (az Tryz.f42) (fun y s _=>RA ms y s) (fun fr s1 _=>fr=ln (aw aS [])/\s1=ah (oE ms cap) 281)->x->gR B 281 ms (fH (aC<|fy []) (.tuple [.bool false]) false) (fA ms cap D []):=fun x e hx=>wp_cut (E:=nr) eT rfl bI mc.2.2.1 mc.2.2.2 (Nat.le_trans gT ab) rfl mc.1 mT 900 _ hx e bU;refine key (aZ pg (sp LA) FU 6 (.fn 61) [.slice none 0<|.known 0,.func (.func 62) [] []] (fA ms cap D [])= .ok (.tuple []) (fA ms cap D [])/\EG ms cap (.slice none 0<|.known 0) (aw aS []) [] 281) ?_ ⟨acJ (P:=pg) (sp:=sp LA) aU,rfl,rfl,J5 (fz:=[]) ab ab eH (fun r hr ht p hp=>by rw[List.mem_singleton] at hp;subst hp;exact⟨by show 2<top;unfold top;omega,_,mi 0,Fv⟩) (fun r hr ht=>Pz h ab hr fun p hp=>by cases hp) (fun p hp=>by cases hp),rfl,rfl⟩;clear key H;refine vj (p:=fun ms=>(aZ pg (sp LA) FU 6 (.fn 61) [.slice none 0<|.known 0,.func (.func 62) [] []] (fA ms cap D [])= .ok (.tuple []) (fA ms cap D [])/\EG ms cap (.slice none 0<|.known 0) (aw aS []) [] 281)=wp nr 900 6 (.fr 42 kz KN (fH (aC<|fy []) (.tuple [.bool false]) false).tmps<|fA ms cap D []) (.st 4<|.rg<|.go 1<|.cu (.tuple []) (fA ms cap D [])<|.en<|.st 2<|.rn [(2,.slice none 0<|.known 0)] (oE ms cap) [(2,aw aS [])] (oE ms cap) 281 281 .no) (az Tryz.f42) (fun y s _=>RA ms y s) (fun fr s1 _=>fr=ln (aw aS [])/\s1=ah (oE ms cap) 281)) h ?_ ?_ ?_ ?_ ?_ ?_ ?_<;>intros<;>kernel_rfl
abbrev Q6(ms:bf)(cap:bZ)(D out:List<|Int×Int):AS:=fp 281 (some<|aD aS<|dR out)<|aV 281<|fA ms cap D out
abbrev YB(ms:bf)(cap:bZ)(D out:List<|Int×Int):Pl:=.st 4<|.rg<|.go 1<|.cu (.tuple []) (Q6 ms cap D out)<|.en<|.st 2<|.rn [(2,.slice (some (281,0)) out.length<|.aq out.length 2)] (ak++aY (dO ms cap++[(281,aD aS<|dR out)])) [(2,aw aS<|dR out)] (oE ms cap) 282 281 .no
theorem Pt(mc:Mt LA B)(h:dj ms)(hl:(q::r).length<100000)(nd:((q::r).map (·.1)).Nodup)(H:gR B 281 ms (ln<|aw aS<|dR<|q::r)<|ah (oE ms cap) 281):gR B 281 ms (fH (aC<|fy<|q::r) (.tuple [.bool false]) false)<|fA ms cap D<|q::r:=by
 have key:∀x,x=wp nr 900 6 (.fr 42 kz KN (fH (aC<|fy<|q::r) (.tuple [.bool false]) false).tmps<|fA ms cap D<|q::r) (YB ms cap D<|q::r) (az Tryz.f42) (fun y s _=>RA ms y s) (fun fr s1 _=>fr=ln (aw aS<|dR<|q::r)/\s1=ah (oE ms cap) 281)->x->gR B 281 ms (fH (aC<|fy<|q::r) (.tuple [.bool false]) false) (fA ms cap D<|q::r):=fun x e hx=>wp_cut (E:=nr) eT rfl bI mc.2.2.1 mc.2.2.2 (Nat.le_trans gT ab) rfl mc.1 mT 900 _ hx e bU;have hz:∀fz:lF,∀f:Nat->Nat,(∀k,top<=k->f k=k)->(281,nm ((dR<|q::r).map aS).flatten,((dR<|q::r).map aS).flatten)∈fz->jF fz f (.slice (some (281,0)) (q::r).length<|.aq (q::r).length 2) (aw aS<|dR<|q::r):=fun fz f hf hm=>by have:=IL (cap:=.aq (q::r).length 2) hm hf rfl;rw[Aw] at this;exact this
 have hg:(fA ms cap D<|q::r).nx=282/\(fA ms cap D<|q::r).h.get 281=some (aD aS<|q::r):=⟨rfl,by refine vj (p:=fun ms=>(fA ms cap D<|q::r).h.get 281=some (aD aS<|q::r)) h ?_ ?_ ?_ ?_ ?_ ?_ ?_<;>intros<;>kernel_rfl⟩;refine key (aZ pg (sp LA) FU 6 (.fn 61) [.slice (some (281,0)) (q::r).length<|.aq (q::r).length 2,.func (.func 62) [] []] (fA ms cap D<|q::r)= .ok (.tuple []) (Q6 ms cap D<|q::r)/\EG ms cap (.slice (some (281,0)) (q::r).length<|.aq (q::r).length 2) (aw aS<|dR<|q::r) [(281,aD aS<|dR<|q::r)] 282) ?_ ⟨abw (P:=pg) (sp:=sp LA) aU (by rw[hg.1];rfl) Gz hg.2 ab nd,rfl,rfl,J5 (fz:=[(281,nm ((dR<|q::r).map aS).flatten,((dR<|q::r).map aS).flatten)]) ab ab eH (fun r' hr ht p hp=>by
  rw[List.mem_singleton] at hp;subst hp;exact⟨by show 2<top;unfold top;omega,_,mi 0,hz _ _ ht<|List.mem_singleton.2 rfl⟩) (fun r hr ht=>Pz h ab hr fun p hp=>by cases hp) (fun p hp=>by
  rw[List.mem_singleton] at hp;subst hp;exact⟨Nat.le_refl _,IM yg (by rw[Aw];unfold top;omega) 281 eH<|List.mem_append_right _ (by rw[wR];exact List.mem_map.2 ⟨(281,_),List.mem_append_right _ List.mem_cons_self,rfl⟩)⟩),rfl,rfl⟩
 clear key H hg hz;refine vj (p:=fun ms=>(aZ pg (sp LA) FU 6 (.fn 61) [.slice (some (281,0)) (q::r).length<|.aq (q::r).length 2,.func (.func 62) [] []] (fA ms cap D<|q::r)= .ok (.tuple []) (Q6 ms cap D<|q::r)/\EG ms cap (.slice (some (281,0)) (q::r).length<|.aq (q::r).length 2) (aw aS<|dR<|q::r) [(281,aD aS<|dR<|q::r)] 282)=wp nr 900 6 (.fr 42 kz KN (fH (aC<|fy<|q::r) (.tuple [.bool false]) false).tmps<|fA ms cap D<|q::r) (YB ms cap D<|q::r) (az Tryz.f42) (fun y s _=>RA ms y s) (fun fr s1 _=>fr=ln (aw aS<|dR<|q::r)/\s1=ah (oE ms cap) 281)) h ?_ ?_ ?_ ?_ ?_ ?_ ?_<;>intros<;>kernel_rfl
end
theorem abx{D out:List<|Int×Int}(hk:dW D)(hp:out.Perm D):dR out=dR D:=Ud hk ((Cz out).trans hp)<|Ny out
theorem aby{D out:List<|Int×Int}(mc:Mt LA B)(h:dj ms)(hc:oS ms.length cap)(hD:D=allM ms)(hk:dW D)(hp:out.Perm D)(hl:D.length<100000):gR B 281 ms (fH (aC<|fy out) (.tuple [.bool false]) false)<|fA ms cap D out:=by
 have e:dR out=dR (allM ms):=by rw[abx hk hp,hD]
 have H:=aiJ mc h hc;rw[←e] at H;cases out with
 |nil=>exact Ps mc h (by rw[show aw aS ([]:List<|Int×Int)=aw aS (dR []) by unfold dR;rw[List.mergeSort_nil]];exact H)
 |cons q r=>exact Pt mc h (by rw[hp.length_eq];exact hl) ((hp.map (·.1)).nodup_iff.2 hk) H
theorem aht{D:List<|Int×Int}(mc:Mt LA B)(h:dj ms)(hc:oS ms.length cap)(hD:D=allM ms)(hk:dW D)(hl:D.length<100000):∀(n:Nat) (left out:List<|Int×Int) (cur:Option<|AV×AV),left.length=n->D.Perm (out++left)->
 gR B 281 ms (eh<|aC<|fy out) (ia ms cap D left cur out):=by
 have n281:∀(D left:List<|Int×Int) cur out,281<=(ia ms cap D left cur out).nx:=fun _ _ _ out=>by
  show 281<=nO out;cases out with
  |nil=>exact Nat.le_refl _
  |cons _ _=>show 281<=282;omega
 intro n;induction n with
 |zero=>intro left out cur hn hp;have lf:=List.eq_nil_of_length_eq_zero hn;subst lf;rw[List.append_nil] at hp;exact au.next mc.2.2.1 mc.2.2.2 (asks _) (n281 _ _ _ _) (WA h) (fun _=>⟨_,_,ahr h,aby mc h hc hD hk hp.symm hl⟩) (fun x r h=>by cases h)
 |succ n ih=>
  intro left out cur hn hp;refine au.next mc.2.2.1 mc.2.2.2 (asks _) (n281 _ _ _ _) (WA h) (fun h=>by rw[C2 h] at hn;cases hn) fun x r hx=>?_;obtain⟨p,l',rfl,rfl,Cj⟩:=HY hx;have hlen:l'.length=n:=by have:=Cj.length_eq;rw[List.length_cons] at this;omega
  have fe:D.Perm<|(out++[p])++l':=by rw[List.append_assoc];exact hp.trans<|Cj.append_left out
  refine⟨_,_,isA h,?_⟩;have key:=ih l' (out++[p]) (some (.int .i64 p.1,.int .i64 p.2)) hlen fe;cases out with
  |nil=>exact Pq mc h key
  |cons q r=>exact Pr mc h (by have:=hp.length_eq;rw[List.length_append] at this;omega) key
def uC:AF:=⟨42,aC [(3,.map<|some 279)],kz,[.code<|aQ pg 42 [1,1,1,1,0],.code<|aQ pg 42 [1,1,1,1,1]],[],none⟩
theorem aiK{D:List<|Int×Int}(mc:Mt LA B)(h:dj ms)(H:gR B 271 ms (eh<|aC<|fy [])<|ia ms cap D D none []):gR B 271 ms uC<|cV ms cap D:=by have key:∀x,x=wp (o8 LA) 900 6 (.fr 42 kz uC.todo uC.tmps<|cV ms cap D) (.st 7<|.cut .no) (az Tryz.f42) (fun y s _=>RA ms y s) (fun fr s1 _=>fr=eh (aC<|fy [])/\s1=ia ms cap D D none [])->x->gR B 271 ms uC (cV ms cap D):=fun x e hx=>Cg mc (fun fr s1 _ hC=>by obtain⟨rfl,rfl⟩:=hC;exact H) _ hx e bW;refine key (eh (aC<|fy [])=eh (aC<|fy [])/\ia ms cap D D none []=ia ms cap D D none []) ?_ ⟨rfl,rfl⟩;clear key H;refine vj (p:=fun ms=>(eh (aC<|fy [])=eh (aC<|fy [])/\ia ms cap D D none []=ia ms cap D D none [])=wp (o8 LA) 900 6 (.fr 42 kz uC.todo uC.tmps<|cV ms cap D) (.st 7<|.cut .no) (az Tryz.f42) (fun y s _=>RA ms y s) (fun fr s1 _=>fr=eh (aC<|fy [])/\s1=ia ms cap D D none [])) h ?_ ?_ ?_ ?_ ?_ ?_ ?_<;>intros<;>kernel_rfl
abbrev YC(ms:bf)(cap:bZ)(D:List<|Int×Int):Prop:=(([(3,.map<|some 279)]:List<|Nat×AV).map (fun q=>some q.2)=([(3,.map<|some 279)]:List<|Nat×AV).map (fun q=>some q.2))/\((oA ms cap D).map (fun q=>q.2)=(oA ms cap D).map (fun q=>q.2))/\(uC=uC/\cV ms cap D=cV ms cap D)
theorem aiL{D:List<|Int×Int}(mc:Mt LA B)(h:dj ms)(H:gR B 271 ms uC<|cV ms cap D):gR B 271 ms (og ms.length cap ms.length)<|cV ms cap D:=by have key:∀x,x=wp (o8 LA) 900 6 (.fr 42 kz KA (aC<|p6 ms.length cap ms.length)<|cV ms cap D) (.st 6<|.ls [(3,.map<|some 279)] (oA ms cap D) 280 .no) (az Tryz.f42) (fun y s _=>RA ms y s) (fun fr s1 _=>fr=uC/\s1=cV ms cap D)->x->gR B 271 ms (og ms.length cap ms.length) (cV ms cap D):=fun x e hx=>Cg mc (fun fr s1 _ hC=>by obtain⟨rfl,rfl⟩:=hC;exact H) _ hx e bW;refine key (YC ms cap D) ?_ ⟨rfl,rfl,rfl,rfl⟩;clear key H;refine vj (p:=fun ms=>YC ms cap D=wp (o8 LA) 900 6 (.fr 42 kz KA (aC<|p6 ms.length cap ms.length)<|cV ms cap D) (.st 6<|.ls [(3,.map<|some 279)] (oA ms cap D) 280 .no) (az Tryz.f42) (fun y s _=>RA ms y s) (fun fr s1 _=>fr=uC/\s1=cV ms cap D)) h ?_ ?_ ?_ ?_ ?_ ?_ ?_<;>intros<;>kernel_rfl
theorem go_says(mc:Mt LA B)(h:dj ms)(H:gR B 271 ms (og ms.length cap 0)<|cV ms cap []):gR B 271 ms ⟨42,dc [.ptr<|some (270,0)],kz,(cv 42 []),[],none⟩<|ah (ak++aY (dO ms cap)) 279:=by
 rcases(Ga h.1).imp (fun q=>fR ⟨h.1.1,q⟩) id with(⟨m0,rfl⟩|⟨m0,m1,rfl⟩|⟨m0,m1,m2,rfl⟩|⟨m0,m1,m2,m3,rfl⟩|⟨m0,m1,m2,m3,m4,rfl⟩|⟨m0,m1,m2,m3,m4,m5,rfl⟩)|⟨m0,m1,m2,m3,m4,m5,m6,rfl⟩
 all_goals exact Q5 mc h H
theorem Ue(mc:Mt LA B)(h:dj ms)(H:gR B 271 ms (og ms.length cap ms.length)<|cV ms cap<|allM ms):∀(r:bf) (i:Nat) (d:List<|Int×Int),i<=ms.length->ms.drop i=r->dW d->r.foldl fj d=allM ms->gR B 271 ms (og ms.length cap i) (cV ms cap d)
 |[],i,d,hn,hr,hd,e=>by have hi:ms.length<=i:=List.drop_eq_nil_iff.1 hr;have e:d=allM ms:=e;subst e;rw[Nat.le_antisymm hn hi];exact H
 |m::r,i,d,_,hr,hd,e=>by
  have hi:i<ms.length:=by
   by_cases q:i<ms.length
   ·exact q
   ·rw[List.drop_of_length_le ab] at hr;cases hr
  have hm:ms.getD i []=m:=by have:=congrArg (fun q=>q[0]?) hr;simp only[List.getElem?_drop,List.getElem?_cons_zero,Nat.add_zero] at this;rw[List.getD_eq_getElem?_getD,this];rfl
  have kf:ms.drop (i+1)=r:=by have:=congrArg (List.drop 1) hr;rw[List.drop_drop] at this;exact this
  exact Ns mc h hd hi<|Ue mc h H r (i+1) (fj d<|ms.getD i []) hi kf (dW.merge hd) (by rw[hm];exact e)
theorem acK(mc:Mt LA B)(h:dj ms)(hc:oS ms.length cap)(hl:(allM ms).length<100000):gR B 271 ms ⟨42,dc [.ptr<|some (270,0)],kz,(cv 42 []),[],none⟩<|ah (ak++aY (dO ms cap)) 279:=
 have hk:dW<|allM ms:=Ml List.nodup_nil
 go_says mc h (Ue mc h (aiL mc h<|aiK mc h<|nV.Kx ab (fun _ _ _ _ q=>q)<|aht mc h hc rfl hk hl _ (allM ms) [] none rfl<|List.Perm.refl _) ms 0 [] (Nat.zero_le _) rfl List.nodup_nil rfl)
end
def PA:bf->List AV->Option AV
 |a,[]=>if(allM a).length<100000 then some (aw aS<|dR<|allM a) else none
 |_,_=>none
open D3
def PB:FuncId×KE:=(42,.raw<|oV 3<|oK bJ PA)
theorem acL(hP:bS pg)(hs:Di pg 61 62){L:bO}(h:aX L):aX<|PB::L:=by
 refine Iw yz hP gT ry jT jq mr lY h (VL hP<|acI de hs) Tryz.func42 (body:=aQ pg 42 []) aU aU fun v rest y e=>?_;obtain⟨a,rfl,e1⟩:=H8 e;unfold PA at e1;split at e1<;>(try split at e1)<;>cases e1;rename_i q;refine⟨aK.1 aU,fun L hx=>?_⟩;generalize hv:bJ a=v at hx;cases hx with
 |buf b hb cap hc=>have:=sM _ _ hv;subst this;exact⟨279,by omega,aK.1 aU,Np hb,fun B mc=>acK mc hb hc q⟩
end
end yf
end
section
open Go Go.Rn Go.RowKit Go.Proofs
namespace zM
open cj fW eZ im mQ mI vS xO tY xP eR cH dq Ch cU dm fY fF gJ gQ gW gk gm hZ iB iC iV jh jY ko kY jZ fQ iA mu vV nV zK qH
def DJ:St->Int| .mk _ t _ _ _ _=>t
def lp:Nat->List St->Prop
 |0,l=>l=[]
 |d+1,l=>l.length<=1000000/\∀s∈l,(1<=fC s/\fC s<=8)/\(0<=DJ s/\DJ s<8)/\lp d (bG s)/\lp d (bF s)
theorem Vb:∀d,lp d []
 |0=>rfl
 |d+1=>⟨Nat.zero_le _,fun s h=>by cases h⟩
def pe:List Fr->Nat
 |[]=>0
 |f::r=>pe r+(if f.bY=true then 1 else 0)
def vW:List Fr->Prop
 |[]=>True
 |f::r=>lp (6 - r.length) f.block/\(0<=f.ar/\f.ar<=(f.block.length:Int))/\(0<=f.turns/\f.turns<=7)/\f.kept.length=8/\(f.bY=true->r≠[]/\∃ol,f.other=some ol/\lp (6 - r.length) ol)/\vW r
structure Inv (st:List Fr) (b:bf):Prop where
 wf:vW st
 len:b.length=pe st+1
 buf:dj b
theorem aen{d:Nat}{l:List St}(h:lp d l):l.length<=1000000:=by
 cases d with
 |zero=>have:l=[]:=h;subst this;exact Nat.zero_le _
 |succ d=>exact h.1
def vX:List Fr->Nat
 |[]=>0
 |f::r=>vX r+f.turns.toNat+1
theorem ES:∀(k:Nat) (st:List Fr) (b:bf),Inv st b->vX st<k->∃aW b',ig k st b=some (aW,b')/\Inv aW b'/\aW.length<=st.length
 |0,_,_,_,h=>by omega
 |k+1,[],b,hi,_=>⟨[],b,rfl,hi,Nat.le_refl _⟩
 |k+1,f::r,b,hi,hm=>by
  obtain⟨⟨h1,h2,h3,h4,h5,h6⟩,hl,hb⟩:=hi;unfold ig;by_cases c1:f.ar<(f.block.length:Int)
  ·rw[if_pos c1];exact⟨_,_,rfl,⟨⟨h1,h2,h3,h4,h5,h6⟩,hl,hb⟩,Nat.le_refl _⟩
  ·rw[if_neg c1];by_cases c2:0<f.turns
   ·rw[if_pos c2];have i2:Inv ({f with ar:=0,turns:=f.turns - 1}::r) b:=⟨⟨h1,⟨by show(0:Int)<=0;omega,by show(0:Int)<=_;omega⟩,⟨by show 0<=f.turns - 1;omega,by show f.turns - 1<=7;omega⟩,h4,h5,h6⟩,hl,hb⟩;by_cases c3:0<(f.block.length:Int)
    ·rw[if_pos c3];exact⟨_,_,rfl,i2,Nat.le_refl _⟩
    ·rw[if_neg c3];exact ES k _ b i2 (by show vX r+(f.turns - 1).toNat+1<k;have:vX (f::r)=vX r+f.turns.toNat+1:=rfl;omega)
   ·rw[if_neg c2];have fc:vX r<k:=by have:vX (f::r)=vX r+f.turns.toNat+1:=rfl;omega
    have hlen:b.length=pe r+(if f.bY=true then 1 else 0)+1:=hl;by_cases c4:f.bY=true
    ·rw[if_pos c4];rw[if_pos c4] at hlen;have c5:2<=b.length:=by omega
     rw[if_pos c5];obtain⟨aW,b',e,i,l⟩:=ES k r (gd b) ⟨h6,by have:=HA b c5;omega,Ir hb c5⟩ fc;exact⟨aW,b',e,i,by rw[List.length_cons];omega⟩
    ·rw[if_neg c4];rw[if_neg c4] at hlen;obtain⟨aW,b',e,i,l⟩:=ES k r b ⟨h6,hlen,hb⟩ fc;exact⟨aW,b',e,i,by rw[List.length_cons];omega⟩
theorem Og:∀{st:List Fr},vW st->vX st<=8*st.length
 |[],_=>Nat.le_refl _
 |f::r,h=>by have:=Og h.2.2.2.2.2;have h3:=h.2.2.1;show vX r+f.turns.toNat+1<=8*(r.length+1);omega
theorem VV:∀{st:List Fr},vW st->pe st+1<=st.length\/pe st=0
 |[],_=>.inr rfl
 |f::r,h=>by
  rcases VV h.2.2.2.2.2 with q|q
  ·left;show pe r+(if f.bY=true then 1 else 0)+1<=r.length+1;split<;>omega
  ·by_cases c:f.bY=true
   ·obtain⟨hr,_⟩:=h.2.2.2.2.1 c;left;show pe r+(if f.bY=true then 1 else 0)+1<=r.length+1;rw[if_pos c];cases r with
    |nil=>exact absurd rfl hr
    |cons a r=>rw[List.length_cons];omega
   ·right;show pe r+(if f.bY=true then 1 else 0)=0;rw[if_neg c];exact q
structure mw (a:dG):Prop where
 inv:Inv a.fs.reverse a.b
 l:a.l.length=8
 top:a.fs.reverse=[]\/∃f r,a.fs.reverse=f::r/\f.ar<(f.block.length:Int)
 aM:a.aM.length<=1000
 vars:1<=a.vars/\a.vars<=32
theorem Bi{f:Fr}{r:List Fr}(h:vW<|f::r)(ht:f.ar<(f.block.length:Int)):∃d s,6 - r.length=d+1/\f.block[f.ar.toNat]? =some s/\(1<=fC s/\fC s<=8)/\(0<=DJ s/\DJ s<8)/\lp d (bG s)/\lp d (bF s):=by
 have h0:=h.2.1.1;have cf:f.ar.toNat<f.block.length:=by omega
 have hb:=h.1;cases e:6 - r.length with
 |zero=>rw[e] at hb;have:f.block=[]:=hb;rw[this] at cf;simp at cf
 |succ d=>rw[e] at hb;obtain⟨q1,q2,q3,q4⟩:=hb.2 _<|List.getElem_mem cf;exact⟨d,_,rfl,List.getElem?_eq_getElem cf,q1,q2,q3,q4⟩
theorem VW:∀{st:List Fr},vW st->∀f∈st,((0<=f.turns/\f.turns<=1000000)/\f.kept.length=8)/\(0<=f.ar/\f.ar<=1000000)
 |[],_,f,h=>by cases h
 |g::r,h,f,hf=>by
  rcases List.mem_cons.1 hf with rfl|hf
  ·have:=aen h.1;have:=h.2.1;have:=h.2.2.1;exact⟨⟨by omega,h.2.2.2.1⟩,by omega⟩
  ·exact VW h.2.2.2.2.2 f hf
section
variable {a:dG}
theorem mw.fR(h:mw a):a.fs.length<=6:=by
 rw[←List.length_reverse];rcases h.top with e|⟨f,r,e,ht⟩
 ·rw[e];exact Nat.zero_le _
 ·rw[e];have hw:=h.inv.wf;rw[e] at hw;obtain⟨d,_,hd,_⟩:=Bi hw ht;rw[List.length_cons];omega
theorem mw.b6(h:mw a):a.b.length<=6:=by have h6:=h.fR;rw[←List.length_reverse] at h6;have:=h.inv.len;rcases VV h.inv.wf with q|q<;>omega
theorem mw.pP(h:mw a)(hs:0<=a.steps/\a.steps<=1000000000000):Good a:=by have hw:=VW h.inv.wf;exact⟨⟨h.l,h.inv.buf,by have:=h.fR;omega,h.aM,h.vars⟩,fun f hf=>(hw f<|List.mem_reverse.2 hf).1,h.fR,h.b6,hs,fun f hf=>(hw f<|List.mem_reverse.2 hf).2⟩
theorem mw.ask(h:mw a)(hs:0<=a.steps/\a.steps<=1000000000000):OQ a:=by
 refine⟨h.pP hs,?_⟩;rcases h.top with e|⟨f,r,e,ht⟩
 ·exact .inl<|List.reverse_eq_nil_iff.1 e
 ·have hw:=h.inv.wf;rw[e] at hw;obtain⟨d,s,_,q,_⟩:=Bi hw ht;exact .inr ⟨f,r,s,e,hw.2.1.1,q⟩
end
theorem NA:∀{st:List Fr} {g:Fr} {r':List Fr},vW st->below st=some (g,r')->vW (g::r')/\g.bY=true/\pe st=pe r'+1/\r'.length<st.length
 |[],_,_,_,h=>by cases h
 |f::r,g,r',hw,h=>by
  unfold mu.below at h;by_cases c:f.bY=true
  ·rw[if_pos c] at h;injection h with h;injection h with h1 h2
   subst h1;subst h2;exact⟨hw,c,by show pe r+(if f.bY=true then 1 else 0)=_;rw[if_pos c],by rw[List.length_cons];omega⟩
  ·rw[if_neg c] at h;obtain⟨a1,a2,a3,a4⟩:=NA hw.2.2.2.2.2 h;exact⟨a1,a2,by show pe r+(if f.bY=true then 1 else 0)=_;rw[if_neg c];exact a3,by rw[List.length_cons];omega⟩
theorem wT{a:dG}{st:List Fr}{b:bf}(hl:a.l.length=8)(hg:a.aM.length<=1000)(hv:1<=a.vars/\a.vars<=32)(hi:Inv st b)(hn:st.length<=8):∃a',fin a st b=some a'/\mw a'/\a'.steps=a.steps/\a'.vars=a.vars/\a'.aM=a.aM:=by
 have hm:=Og hi.wf;obtain⟨aW,b',e,i,l⟩:=ES 1000 st b hi ab;refine⟨{a with fs:=aW.reverse,b:=b'},by unfold fin;rw[e],⟨?_,hl,?_,hg,hv⟩,rfl,rfl,rfl⟩
 ·show Inv aW.reverse.reverse b';rw[List.reverse_reverse];exact i
 ·show aW.reverse.reverse=[]\/∃f r,aW.reverse.reverse=f::r/\_;rw[List.reverse_reverse];exact Cy _ _ _ _ _ e
theorem HL(b:bf)(v x:Int):(kU b v x).length=b.length:=by
 rcases List.eq_nil_or_concat b with rfl|⟨l,m,rfl⟩
 ·rfl
 ·rw[List.concat_eq_append,SC,List.length_append,List.length_append];rfl
section
variable {a:dG}
theorem abz(h:mw a):dZ a=(1,0,0)\/(∃v,dZ a=(2,v,0)/\0<=v/\v<a.vars)\/(∃x,dZ a=(3,0,x))\/dZ a=(4,0,0):=by
 unfold dZ;rcases h.top with e|⟨f,r,e,ht⟩
 ·rw[e];exact .inr<|.inr<|.inl ⟨0,rfl⟩
 ·have hw:=h.inv.wf;rw[e] at hw ⊢;obtain⟨d,⟨kind,to,ea,eb,bd,el⟩,_,q,_⟩:=Bi hw ht;simp only[q]
  repeat' split
  ·exact .inr<|.inr<|.inl ⟨_,rfl⟩
  ·exact .inr<|.inr<|.inr rfl
  ·exact .inr<|.inl ⟨_,rfl,U4 h.vars.1⟩
  ·exact .inl rfl
theorem M9(h:mw a)(hs:0<=a.steps/\a.steps<=1000000000000)(hk:dZ a=(1,0,0)):Iv a/\∃a',qv a=some a'/\mw a'/\a'.steps=a.steps+1/\a'.vars=a.vars/\a'.aM=a.aM:=by
 rcases h.top with e|⟨f,r,e,ht⟩
 ·exfalso;unfold dZ at hk;rw[e] at hk;injection hk with q _;omega
 have hw:=h.inv.wf;have hlen:=h.inv.len;rw[e] at hw hlen;have h6:=h.fR;rw[←List.length_reverse,e,List.length_cons] at h6;obtain⟨d,⟨kind,to,ea,eb,bd,el⟩,hd,q,k1,k2,k3,k4⟩:=Bi hw ht;have k1:1<=kind/\kind<=8:=k1;have k2:0<=to/\to<8:=k2;have k3:lp d bd:=k3;have k4:lp d el:=k4;have kq:=hk;unfold dZ at kq;rw[e] at kq;simp only[q] at kq;have n8:kind≠8:=fun c=>by rw[if_pos c] at kq;injection kq with z _;omega
 rw[if_neg n8] at kq;have n6:kind=6->below (f::r)≠none:=fun c z=>by rw[if_pos ⟨c,z⟩] at kq;injection kq with z _;omega
 have w1:vW<|{f with ar:=f.ar+1}::r:=⟨hw.1,⟨by show 0<=f.ar+1;have:=hw.2.1.1;omega,by show f.ar+1<=(f.block.length:Int);omega⟩,hw.2.2⟩;have i1:∀b:bf,dj b->b.length=a.b.length->Inv ({f with ar:=f.ar+1}::r) b:=fun b hb hl=>⟨w1,by rw[hl];exact hlen,hb⟩;have Q7:6 - (r.length+1)=d:=by omega
 have push:∀(g:Fr) (b:bf),lp d g.block->g.ar=0->(0<=g.turns/\g.turns<=7)->g.kept.length=8->g.bY=false->dj b->b.length=a.b.length->Inv (g::{f with ar:=f.ar+1}::r) b:=fun g b g1 g2 g3 g4 g5 hb hl=>⟨⟨by rw[List.length_cons,Q7];exact g1,by rw[g2];omega,g3,g4,fun c=>(by rw[g5] at c;cases c),w1⟩,by show b.length=pe ({f with ar:=f.ar+1}::r)+(if g.bY=true then 1 else 0)+1;rw[g5,hl];exact hlen,hb⟩;refine⟨⟨h.pP hs,hk,f,r,kind,to,ea,eb,bd,el,e,q,⟨hw.2.1.1,fun _=>k2,fun c g r' hb=>?_⟩⟩,?_⟩
 ·obtain⟨b1,b2,b3,_⟩:=NA hw hb;obtain⟨b4,_⟩:=b1.2.2.2.2.1 b2;exact⟨b4,by omega⟩
 ·unfold qv;rw[e];simp only[q];have l8:∀(z:Int),(a.l.set to.toNat z).length=8:=fun z=>by rw[List.length_set];exact h.l
  by_cases c1:kind=1
  ·rw[if_pos c1];exact wT (a:={a with l:=a.l.set to.toNat<|dx a ea,steps:=a.steps+1}) (l8 _) h.aM h.vars (i1 _ h.inv.buf rfl) GA
  rw[if_neg c1];by_cases c2:kind=2
  ·rw[if_pos c2];exact wT (a:={a with l:=a.l.set to.toNat (kG a.b<|iM (dx a ea) a.vars).1,steps:=a.steps+1}) (l8 _) h.aM h.vars (i1 _ h.inv.buf rfl) GA
  rw[if_neg c2];by_cases c3:kind=3
  ·rw[if_pos c3];exact wT (a:={a with steps:=a.steps+1}) h.l h.aM h.vars (i1 _ (MQ h.inv.buf _ _)<|HL _ _ _) GA
  rw[if_neg c3];by_cases c4:kind=4
  ·rw[if_pos c4];exact wT (a:={a with steps:=a.steps+1}) h.l h.aM h.vars (push _ _ (by show lp d (if _ then bd else el);split;exact k3;exact k4) rfl ⟨by show(0:Int)<=0;omega,by show(0:Int)<=7;omega⟩ rfl rfl h.inv.buf rfl) P0
  rw[if_neg c4];by_cases c5:kind=5
  ·rw[if_pos c5];by_cases z:0<kS (dx a ea)
   ·rw[if_pos z];have:=Nx<|dx a ea;exact wT (a:={a with steps:=a.steps+1}) h.l h.aM h.vars (push _ _ k3 rfl ⟨by show 0<=kS _ - 1;omega,by show kS _ - 1<=7;omega⟩ rfl rfl h.inv.buf rfl) P0
   ·rw[if_neg z];exact wT (a:={a with steps:=a.steps+1}) h.l h.aM h.vars (i1 _ h.inv.buf rfl) GA
  rw[if_neg c5];by_cases c6:kind=6
  ·rw[if_pos c6];cases hb:below (f::r) with
   |none=>exact absurd hb<|n6 c6
   |some p=>
    obtain⟨⟨fb,fa,ft,fo,kept,Q8⟩,r'⟩:=p;obtain⟨b1,b2,b3,b4⟩:=NA hw hb;obtain⟨b5,ol,b6,b7⟩:=b1.2.2.2.2.1 b2;have b6:Q8=some ol:=b6;subst b6;have Q4:kept.length=8:=b1.2.2.2.1;refine wT (a:={a with l:=kept,steps:=a.steps+1}) Q4 h.aM h.vars ⟨⟨b7,⟨by show(0:Int)<=0;omega,by show(0:Int)<=_;omega⟩,⟨by show(0:Int)<=0;omega,by show(0:Int)<=7;omega⟩,rfl,fun c=>(by cases c),b1.2.2.2.2.2⟩,?_,N9 h.inv.buf ab⟩ ?_
    ·rw[List.length_dropLast];show _=pe r'+(if false=true then 1 else 0)+1;rw[if_neg (by intro c;cases c)];omega
    ·rw[List.length_cons];rw[List.length_cons] at b4;omega
  rw[if_neg c6];by_cases c7:kind=7
  ·rw[if_pos c7];have Yy:=h.b6;refine wT (a:={a with steps:=a.steps+1}) h.l h.aM h.vars ⟨⟨by rw[List.length_cons,Q7];exact k3,⟨by show(0:Int)<=0;omega,by show(0:Int)<=_;omega⟩,⟨by show(0:Int)<=0;omega,by show(0:Int)<=7;omega⟩,h.l,fun _=>⟨(by intro c;cases c),el,rfl,by rw[List.length_cons,Q7];exact k4⟩,w1⟩,?_,N8 h.inv.buf ab⟩ P0;rw[List.length_append];show a.b.length+1=pe ({f with ar:=f.ar+1}::r)+(if true=true then 1 else 0)+1;rw[if_pos rfl,hlen];rfl
  ·exact absurd k1.2 ab
theorem aeo(h:mw a)(hs:0<=a.steps/\a.steps<=1000000000000){v:Int}(hk:dZ a=(2,v,0))(x:Int):JH a/\∃a',nA a x=some a'/\mw a'/\a'.steps=a.steps+1/\a'.vars=a.vars/\a'.aM=a.aM:=by
 rcases h.top with e|⟨f,r,e,ht⟩
 ·exfalso;unfold dZ at hk;rw[e] at hk;injection hk with q _;omega
 have hw:=h.inv.wf;have hlen:=h.inv.len;rw[e] at hw hlen;have h6:=h.fR;rw[←List.length_reverse,e,List.length_cons] at h6;obtain⟨d,⟨kind,to,ea,eb,bd,el⟩,hd,q,k1,k2,k3,k4⟩:=Bi hw ht;have k2:0<=to/\to<8:=k2;have w1:vW<|{f with ar:=f.ar+1}::r:=⟨hw.1,⟨by show 0<=f.ar+1;have:=hw.2.1.1;omega,by show f.ar+1<=(f.block.length:Int);omega⟩,hw.2.2⟩;refine⟨⟨h.pP hs,⟨v,hk⟩,f,r,kind,to,ea,eb,bd,el,e,hw.2.1.1,q,k2.1,k2.2⟩,?_⟩;unfold nA;rw[e];simp only[q];exact wT (a:={a with l:=a.l.set to.toNat x,steps:=a.steps+1}) (by rw[List.length_set];exact h.l) h.aM h.vars ⟨w1,hlen,h.inv.buf⟩ GA
end
end zM
end
section
open Go Go.Rn Go.RowKit Go.Proofs
namespace Xq
open cj fW eZ im Pp vT tY xP eR cH dq cU dm fY fF gJ gQ gW gk gm hZ iB iC iV jh jY ko kY jZ fQ iA nj nU kF oU mu vV nV zK qH
variable {B:aI} {vars:Int} {tx:List St} {q G m2 c2:Nat} {aM:List Int} {u2:AV} {bh:List Fr} {A2:MN}
noncomputable abbrev zg(tx:List St):AV:=.U (nm (tx.map aL).flatten) 0 tx.length
theorem aep(mc:Mt [D1,CX,DD,ov 60,yV] B)(hv:vars<1\/vars>32):au pg B 270 (Rn.Fin pg (az Tryz.f13) fun y _=>y= .tuple [.ptr none,.int .i64 1]) (sF 13 Tryz.f13 [(zg tx),(i6 vars),(.U G q aM.length)])<|ah ak 270:=by exact wS mc (.st 5<|.rg<|.go 1<|.fk (.go 5<|.en<|.rt 4 .no)<|.go 2<|.fk (.go 2<|.en<|.rt 4 .no)<|.no)<|aT (vars<1) (fun _=>(show((.tuple [(.ptr none),(i6<|.ofNat 1)]):AV)= .tuple [.ptr none,.int .i64 1] from rfl)) fun _=>(aT (vars>32) (fun _=>(show((.tuple [(.ptr none),(i6<|.ofNat 1)]):AV)= .tuple [.ptr none,.int .i64 1] from rfl)) gb)
theorem acM(mc:Mt [D1,CX,DD,ov 60,yV] B)(pO:bj (aR zt) [(zg tx),.int .i64 (aM.length:Int)]=some (.bool false))(hv:1<=vars/\vars<=32):au pg B 270 (Rn.Fin pg (az Tryz.f13) fun y _=>y= .tuple [.ptr none,.int .i64 4]) (sF 13 Tryz.f13 [(zg tx),(i6 vars),(.U G q aM.length)])<|ah ak 270:=by exact wS mc (.st 5<|.rg<|.go 1<|.fk (.no)<|.go 2<|.fk (.no)<|.go 2<|.en<|.st 2<|.rg<|.go 3<|.kn (.bool false)<|.go 2<|.en<|.rt 4 .no)<|aT (vars<1) gb fun _=>(aT (vars>32) gb fun _=>(ai pO (show((.tuple [(.ptr none),(i6<|.ofNat 4)]):AV)= .tuple [.ptr none,.int .i64 4] from rfl)))
noncomputable abbrev Dj(A2:MN)(m2 c2:Nat)(u2:AV)(bh:List Fr):List<|Nat×Option ae:=ak++[(270,some<|.cells 13 (Tr.fill (A2.row (.ptr<|some (271,0)) (.slice (some (272,0)) (m2)<|.aq c2 13)<|i6 A2.steps) 0 .nil) []),(271,some<|.tok 3 u2),(272,some<|aD aH bh)]
theorem ahu(mc:Mt [D1,CX,DD,ov 60,yV] B):au pg B 270 (Rn.Fin pg (az Tryz.f13) fun y s'=>y= .tuple [.ptr<|some (270,0),.int .i64 0]/\∀m o,(m,o)∈dD 270 3 (⟨⟨A2.pre,m2,(.aq c2 13),[(i6 A2.steps)]⟩,u2,(bh.map aH).flatten⟩:VS)->s'.h.get m=some o) (⟨13,aC [(6,(.ptr<|some (270,0))),(7,i0)],34,(cv 13 [1,1,1,1,1]),[],none⟩:AF)<|ah (Dj A2 m2 c2 u2 bh) 273:=by exact wS mc (.rt 1 .no)<|mN (st:=(⟨⟨A2.pre,m2,(.aq c2 13),[(i6 A2.steps)]⟩,u2,(bh.map aH).flatten⟩:VS)) (s:=ah (ak++[(270,some<|.cells 13 (Tr.fill (A2.row (.ptr<|some (271,0)) (.slice (some (272,0)) (m2)<|.aq c2 13)<|i6 A2.steps) 0 .nil) []),(271,(some<|.tok 3 u2)),(272,(some<|aD aH bh))]) 273) (show((.tuple [(.ptr<|some (270,0)),i0]):AV)= .tuple [.ptr<|some (270,0),.int .i64 0] from rfl) bU bU bU
noncomputable abbrev Bj(vars:Int)(aM:List Int)(tx:List St):VS:=(⟨⟨[(i6 vars),(.U (nm (aM.map encI).flatten) 0 aM.length),i0,i0,i0,i0,i0,i0,i0,i0],1,(.aq 1 13),[.int .i64 0]⟩,(bJ [[]]),(([(⟨tx,0,0,false,[0,0,0,0,0,0,0,0],none⟩:Fr)]).map aH).flatten⟩:VS)
noncomputable abbrev OT(u2:AV)(A2:MN)(m2 c2:Nat)(bh:List Fr):List<|Nat×Option ae:=ak++[(270,(some<|.tok 3 u2)),(271,some<|.cells 13 (Tr.fill (A2.row (.ptr<|some (270,0)) (.slice (some (274,0)) (m2)<|.aq c2 13)<|i6 A2.steps) 0 .nil) []),(274,(some<|aD aH bh))]
theorem afP(mc:Mt [D1,CX,DD,ov 60,yV] B)(pO:bj (aR zt) [(zg tx),.int .i64 (aM.length:Int)]=some (.bool true))(hv:1<=vars/\vars<=32)(oZ:bj (aR Bd) [(.U G q aM.length)]=some (.U (nm (aM.map encI).flatten) 0 aM.length))(Q9:bj (aR<|qg 60) [(zg tx)]=some (zg tx))(G7:rL Pv []=some (some<|bJ [[]],fun p=>p))(hlen:bh.length<=1000000)(nM:(AV.U A2.G A2.q A2.lg).cP=true)(k0:bE 10 (Bj vars aM tx)=true)(k1:dJ eL (Bj vars aM tx) []=some (.tuple [],(⟨⟨A2.pre,m2,(.aq c2 13),[.int .i64 A2.steps]⟩,u2,(bh.map aH).flatten⟩:VS)))(k2:bE 10 (⟨⟨A2.pre,m2,(.aq c2 13),[.int .i64 A2.steps]⟩,u2,(bh.map aH).flatten⟩:VS)=true):au pg B 270 (Rn.Fin pg (az Tryz.f13) fun y s'=>y= .tuple [.ptr<|some (270,0),.int .i64 0]/\∀m o,(m,o)∈dD 270 3 (⟨⟨A2.pre,m2,(.aq c2 13),[(i6 A2.steps)]⟩,u2,(bh.map aH).flatten⟩:VS)->s'.h.get m=some o) (sF 13 Tryz.f13 [(zg tx),(i6 vars),(.U G q aM.length)])<|ah ak 270:=by have ht:top=549755813888:=rfl;exact wC mc (C:=(fun fr s1 _=>fr=(⟨13,aC [(6,(.ptr<|some (270,0))),(7,i0)],34,(cv 13 [1,1,1,1,1]),[],none⟩:AF)/\s1=(ah (Dj A2 m2 c2 u2 bh) 273))) (fun fr s1 p hC=>by obtain⟨rfl,rfl⟩:=hC;exact ahu mc) (.st 5<|.rg<|.go 1<|.fk (.no)<|.go 2<|.fk (.no)<|.go 2<|.en<|.st 2<|.rg<|.go 3<|.kn (.bool true)<|.go 2<|.en<|.st 4<|.rg<|.go 2<|.kn (.U (nm (aM.map encI).flatten) 0 aM.length)<|.nt (some<|bJ [[]]) (fun p=>p)<|.go 3<|.en<|.st 1<|.rg<|.go 2<|.kn (zg tx)<|.go 1<|.il<|.st 4<|.rg<|.go 1<|.cg (.tuple []) (J4 270 dH dV 3 271 270 274 (⟨⟨A2.pre,m2,(.aq c2 13),[.int .i64 A2.steps]⟩,u2,(bh.map aH).flatten⟩:VS)) (Gh 270 dH dV 3 271 270 274<|Bj vars aM tx)<|.en<|.rt 1<|.en<|.st 2<|.rn [(6,(.ptr<|some (271,0))),(7,i0)] (OT u2 A2 m2 c2 bh) [(6,(.ptr<|some (270,0))),(7,i0)] (Dj A2 m2 c2 u2 bh) 275 273 .no)<|aT (vars<1) gb fun _=>(aT (vars>32) gb fun _=>(ai pO<|ai oZ<|ai G7<|ai Q9<|ai (Oa (P:=pg) (F:=FU) (sp:=sp [D1,CX,DD,ov 60,yV]) (g:=40) (J:=270) (h0:=dH) (ns:=dV) (rest:=[]) (n:=5) (kp:=10) (k:=3) (val:=dJ eL) (a:=271) (r1:=270) (r2:=274) (st:=(Bj vars aM tx)) (aW:=(⟨⟨A2.pre,m2,(.aq c2 13),[.int .i64 A2.steps]⟩,u2,(bh.map aH).flatten⟩:VS)) (y:=.tuple []) bU bU bU bU rfl k0 k1 bU k2)<|afD (a:=bT<|dQ ((Bj vars aM tx)).R 270 274) (b:=.tok 3 ((Bj vars aM tx)).u) (c:=bT ((Bj vars aM tx)).row)<|ai (mS [(6,(.ptr<|some (271,0))),(7,i0)])<|ai (mO<|OT u2 A2 m2 c2 bh)<|ai (show hU FU 270 275 [(6,(.ptr<|some (271,0))),(7,i0)] (OT u2 A2 m2 c2 bh) [(6,(.ptr<|some (270,0))),(7,i0)] (Dj A2 m2 c2 u2 bh) 273 from J3 (ps:=[(270,271),(271,270),(272,274)]) (lo:=270) (bx:=275) ab bU bU (fun r hr ht=>⟨⟨by unfold top;omega,_,(mi 0),((bp.ptr<|rq hr)).z⟩,⟨⟨by unfold top;omega,_,(mi 1),vi⟩,trivial⟩⟩) fun r hr ht=>⟨sr (mi 1) (rq hr) xc<|afz (l:=[(i6 A2.vars),(.U A2.G A2.q A2.lg),(i6 A2.x0),(i6 A2.x1),(i6 A2.x2),(i6 A2.x3),(i6 A2.x4),(i6 A2.x5),(i6 A2.x6),(i6 A2.x7),(.ptr<|some (270,0)),(.slice (some (274,0)) (m2)<|.aq c2 13),(i6 A2.steps)]) (m:=[(i6 A2.vars),(.U A2.G A2.q A2.lg),(i6 A2.x0),(i6 A2.x1),(i6 A2.x2),(i6 A2.x3),(i6 A2.x4),(i6 A2.x5),(i6 A2.x6),(i6 A2.x7),(.ptr<|some (271,0)),(.slice (some (272,0)) (m2)<|.aq c2 13),(i6 A2.steps)]) ⟨vi,⟨((Ox ht (by first|rfl|exact aK.2 (cN _)|assumption))).z,⟨vi,⟨vi,⟨vi,⟨vi,⟨vi,⟨vi,⟨vi,⟨vi,⟨((bp.ptr<|rq hr)).z,⟨((bp.slice<|rq hr)).z,⟨vi,trivial⟩⟩⟩⟩⟩⟩⟩⟩⟩⟩⟩⟩⟩,⟨sr (mi 0) (rq hr) (fM.refl _) U8,⟨sr (mi 2) (rq hr) (fM.refl _)<|IQ ht hlen,trivial⟩⟩⟩) (show(⟨13,aC [(6,(.ptr<|some (270,0))),(7,i0)],34,(cv 13 [1,1,1,1,1]),[],none⟩:AF)=(⟨13,aC [(6,(.ptr<|some (270,0))),(7,i0)],34,(cv 13 [1,1,1,1,1]),[],none⟩:AF)/\(ah (Dj A2 m2 c2 u2 bh) 273)=(ah (Dj A2 m2 c2 u2 bh) 273) from⟨rfl,rfl⟩)))
end Xq
end
section
open Go Go.Rn Go.RowKit Go.Proofs
namespace Br
open cj fW eZ im Pp vT mQ mI tW rD vS tY xP eR cH dq cU dm fY fF gJ gQ gW gk gm hZ iB iC iV jh jY ko kY jZ fQ iA nj nU kF oU mu vV nV zK qH Xq
variable {p:Option AV×(AV->AV)}
noncomputable section
theorem vp(l:List St):nm (bz l)=nm (l.map aL).flatten:=by rw[uN]
def tK(tx:List St):Fr:=⟨tx,0,0,false,Z8,none⟩
def yh(e:Int)(p:AV):AV:=.tuple [p,.int .i64 e]
def zw(args:List AV)(p:Option AV×(AV->AV)):Prop:=∃(tx:List St) (vars:Int) (aM:List Int) (G q:Nat),args=[.U (nm (tx.map aL).flatten) 0 tx.length,.int .i64 vars,.U G q aM.length]/\du encI 1 (.U G q aM.length) aM/\aM.length<=1000/\(((vars<1\/vars>32)/\p=(none,yh 1))\/((1<=vars/\vars<=32)/\qq 60 tx=true/\kB 60 tx=true/\∃b,tZ tx (aM.length:Int) b/\((b=false/\p=(none,yh 4))\/(b=true/\pC 60 tx=true/\∃st bb,ig 1000 [tK tx] [[]]=some (st,bb)/\p=(some<|ep ⟨vars,aM,Z8,bb,st.reverse,0⟩,yh 0)))))
theorem Uf{l:List St}{n:Int}{b b':Bool}(h:tZ l n b)(h':tZ l n b'):b=b':=by
 obtain⟨c1,c2,p,a1,a2,a3⟩:=h;obtain⟨c1',c2',p',b1,b2,b3⟩:=h';rw[a1] at b1;injection b1 with b1;injection b1 with _ q1 q2 _
 injection q1 with _ q1;injection q2 with _ q2
 rw[a2] at b2;injection b2 with b2
 rw[a3,b3,q1,q2,b2]
theorem zw.bM{args:List AV}{p':Option AV×(AV->AV)}(h:zw args p)(h':zw args p'):p=p':=by
 obtain⟨tx,vars,aM,G,q,rfl,i1,_,h⟩:=h;obtain⟨YD,vars',W6,G',q',e,i2,_,h'⟩:=h';simp only[List.cons.injEq,AV.U.injEq,AV.int.injEq,true_and,_root_.and_true] at e;obtain⟨⟨e1,e2⟩,rfl,rfl,rfl,e3⟩:=e;rw[←vp, ←vp] at e1;have e1:=sD _ _<|te (lO _) (lO _) e1;subst e1;rw[←e3] at i2;have e4:=du.inj sO i1 (by rw[e3] at i2 ⊢;exact i2);subst e4;rcases h with⟨a,rfl⟩|⟨a,_,_,b,m,h⟩<;>rcases h' with⟨a',rfl⟩|⟨a',_,_,b',m',h'⟩
 ·rfl
 ·omega
 ·omega
 ·have eb:=Uf m m';subst eb;rcases h with⟨x,rfl⟩|⟨x,_,st,bb,s1,rfl⟩<;>rcases h' with⟨x',rfl⟩|⟨x',_,aW,bb',s2,rfl⟩
  ·rfl
  ·rw[x] at x';cases x'
  ·rw[x] at x';cases x'
  ·rw[s1] at s2;injection s2 with s2;injection s2 with g1 g2
   rw[g1,g2]
open Classical in
def xT(args:List AV):Option<|Option AV×(AV->AV):=if h:∃p,zw args p then some h.choose else none
theorem abA{args:List AV}(h:xT args=some p):zw args p:=by
 unfold xT at h;split at h
 ·rename_i q;injection h with h;rw[←h];exact q.choose_spec
 ·cases h
theorem NB{args:List AV}(h:zw args p):xT args=some p:=by unfold xT;have q:∃p,zw args p:=⟨p,h⟩;rw[dif_pos q];exact congrArg some<|zw.bM q.choose_spec h
def WB:FuncId×KE:=(13,.new 4 xT)
theorem acN(tx:List St):iq [tK tx]:=fun f hf=>by rw[List.mem_singleton] at hf;subst hf;exact⟨⟨by show(0:Int)<=0;omega,by show(0:Int)<=1000000;omega⟩,rfl⟩
theorem acO(hP:bS pg){L:bO}(h:aX L):aX<|WB::L:=by
 refine UG yz hP gT (aK.1 aU) jT jq h (adV hP<|aap hP<|acs hP<|Tp hP 60<|SE hP de) Tryz.func13 (body:=aQ pg 13 []) aU aU fun args p e=>?_;obtain⟨tx,vars,aM,G,q,rfl,i1,hl,h⟩:=abA e;have cP:[AV.U (nm (tx.map aL).flatten) 0 tx.length,.int .i64 (aM.length:Int)].all AV.hi=true:=by rw[List.all_cons, ←vp,tj];rfl
 have hm:∀b,qq 60 tx=true->kB 60 tx=true->tZ tx (aM.length:Int) b->bj (aR zt) [.U (nm (tx.map aL).flatten) 0 tx.length,.int .i64 (aM.length:Int)]=some (.bool b):=fun b h1 h2 h3=>eO (eK zt.bM ⟨tx,_,b,by rw[vp],h1,h2,h3,rfl⟩) cP rfl;refine⟨aK.1 aU,fun e0 B mc=>?_,fun v e0=>?_⟩
 ·rw[←hI];rcases h with⟨a,rfl⟩|⟨a,d1,d2,b,m,h⟩
  ·exact aep mc a
  ·rcases h with⟨rfl,rfl⟩|⟨_,_,_,_,_,rfl⟩
   ·exact acM mc (hm _ d1 d2 m) a
   ·cases e0
 ·rcases h with⟨a,rfl⟩|⟨a,d1,d2,b,m,h⟩
  ·cases e0
  rcases h with⟨rfl,rfl⟩|⟨rfl,gc,st,bb,hs,rfl⟩
  ·cases e0
  injection e0 with e0
  subst e0;refine⟨zk.tup rfl,fun B mc=>?_⟩;rw[←hI];let A:MN:=⟨vars,nm (aM.map zm).flatten,0,aM.length,aM,0,0,0,0,0,0,0,0,0⟩;have m0:da A 1 1 [tK tx] [[]]:=⟨du.aw Lh aM,OC,acN tx,Nat.le_refl 1,Nat.le_refl 1,by show 1<=1000000;omega,a⟩;obtain⟨n',cY,d⟩:=rk (st:=[tK tx]) m0 rfl hs;have oZ:bj (aR Bd) [.U G q aM.length]=some (.U (nm (aM.map encI).flatten) 0 aM.length):=eO (eK Bd.bM ⟨G,q,aM,rfl,i1,by omega,rfl⟩) (by rw[List.all_cons,i1.hi];rfl) (du.aw eI aM).hi;have Q9:bj (aR<|qg 60) [.U (nm (tx.map aL).flatten) 0 tx.length]=some (.U (nm (tx.map aL).flatten) 0 tx.length):=eO (eK qg.bM ⟨tx,by rw[vp],gc,by rw[vp]⟩) (by rw[List.all_cons, ←vp,tj];rfl) (by rw[←vp];exact tj tx);have ok:xu ⟨vars,aM,Z8,bb,st.reverse,0⟩:=by refine⟨rfl,d.ey.buf,?_,hl,a⟩;show st.reverse.length<=1000;rw[←d.eq,List.reverse_reverse,List.length_take];have:=d.le;omega
  have key:=afP (vars:=vars) (G:=G) (q:=q) (tx:=tx) (aM:=aM) (A2:=A) (m2:=n') (c2:=1) (u2:=bJ bb) (bh:=cY) mc (hm _ d1 d2 m) a oZ Q9 rfl d.ey.len d.ey.aM.cP PZ PZ PZ;have e1:cY.take n'=st.reverse:=by rw[←d.eq,List.reverse_reverse]
  have fw:(st.reverse).length=n':=by rw[←e1,List.length_take];have:=d.ey.mU;omega
  have e2:cY=st.reverse++cY.drop n':=by rw[←e1,List.take_append_drop]
  refine Kx (Nat.le_refl _) (Xj fun y1 s' q=>⟨q.1,gA ⟨vars,aM,Z8,bb,st.reverse,0⟩ (cY.drop n') 1,XT.tT _ ok _ _ ⟨by rw[fw];exact d.ey.p0,by rw[←e2];exact d.ey.len,fun f hf=>d.ey.n9 f<|List.mem_of_mem_drop hf⟩,?_⟩) key;have hx:=q.2;have e3:=Uc ⟨vars,aM,Z8,bb,st.reverse,0⟩ (cY.drop n') 1;rw[←e3];show ∀m o,(m,o)∈dD 270 3 (cZ _ (st.reverse).length 1 (st.reverse++cY.drop n') bb)->_;rw[fw, ←e2];exact hx
end
end Br
end
section
open Go Go.Rn Go.RowKit Go.Proofs
namespace DK
open cj fW eZ im mQ mI vS xO tY xP eR cH dq Ch vP xN uw rD cU dm fY fF gJ gQ gW gk gm hZ iB iC iV jh jY ko kY jZ fQ iA mu vV nV zK qH zM Br
variable {tx:List St}
def zN:Nat->Int->List St->Prop
 |0,_,_=>False
 |k+1,n,l=>∀s∈l,mC s n=true/\zN k n (bG s)/\zN k n (bF s)
theorem Vc{k:Nat}{n:Int}(he:∀l p,fE gy k l (.int .i64 n) (.bool false)=some p->p.ret=true->zN k n l):∀r p,kL (fE gy k) gy r (.int .i64 n) (.bool false)=some p->p.ret=true->∀s∈r,mC s n=true/\zN k n (bG s)/\zN k n (bF s)
 |[],_,_,_,s,hs=>by cases hs
 |t::r,p,h,hp,s,hs=>by
  unfold kL at h;split at h
  ·cases h
  rename_i p1 e1;obtain⟨n',⟨fw,_⟩,hq⟩:=N6 e1;injection fw with _ fw
  subst fw;cases Ra:mC t n with
  |false=>
   rw[Ra,if_neg (by intro q;cases q)] at hq;subst hq;have h:some (pN n)=some p:=h;injection h with h;subst h
   cases hp
  |true=>
   rw[Ra,if_pos rfl] at hq;subst hq;have h:(match fE gy k (bG t) (.int .i64 n) (.bool false) with
    |none=>none
    |some q=>match q.ret with
     |false=>some q
     |true=>match fE gy k (bF t) q.v1 q.v2 with
      |none=>none
      |some u=>match u.ret with
       |false=>some u
       |true=>kL (fE gy k) gy r u.v1 u.v2)=some p:=h
   split at h
   ·cases h
   rename_i q2 e2;rcases Au k _ _ e2 with rfl|rfl
   ·have h:(match fE gy k (bF t) (.int .i64 n) (.bool false) with
     |none=>none
     |some u=>match u.ret with
      |false=>some u
      |true=>kL (fE gy k) gy r u.v1 u.v2)=some p:=h
    split at h
    ·cases h
    rename_i q3 e3;rcases Au k _ _ e3 with rfl|rfl
    ·have h:kL (fE gy k) gy r (.int .i64 n) (.bool false)=some p:=h;rcases List.mem_cons.1 hs with rfl|hs
     ·exact⟨Ra,he _ _ e2 rfl,he _ _ e3 rfl⟩
     ·exact Vc he r p h hp s hs
    ·have h:some (pN n)=some p:=h;injection h with h;subst h;cases hp
   ·have h:some (pN n)=some p:=h;injection h with h;subst h;cases hp
theorem AH{n:Int}:∀k l p,fE gy k l (.int .i64 n) (.bool false)=some p->p.ret=true->zN k n l
 |0,_,_,h,_=>by cases h
 |k+1,l,p,h,hp=>by
  unfold fE at h;split at h
  ·exact Vc (AH k) l p h hp
  ·cases h
theorem I6(x y:Int):x<=cL x y/\y<=cL x y:=by
 unfold cL;split<;>rename_i q
 ·have:=of_decide_eq_true q;omega
 ·have:=of_decide_eq_false q;omega
theorem PC{k:Nat}:∀(l:List St) (m:Int),m<=l.foldl (fun m s=>jx (bG s).length (bF s).length m (fq k<|bG s)<|fq k<|bF s) m/\∀s∈l,(bG s≠[]->fq k (bG s)<=l.foldl (fun m s=>jx (bG s).length (bF s).length m (fq k<|bG s)<|fq k<|bF s) m)/\(bF s≠[]->fq k (bF s)<=l.foldl (fun m s=>jx (bG s).length (bF s).length m (fq k<|bG s)<|fq k<|bF s) m)
 |[],m=>⟨Int.le_refl _,fun s h=>by cases h⟩
 |t::l,m=>by
  have one:m<=jx (bG t).length (bF t).length m (fq k<|bG t) (fq k<|bF t)/\(bG t≠[]->fq k (bG t)<=jx (bG t).length (bF t).length m (fq k<|bG t) (fq k<|bF t))/\(bF t≠[]->fq k (bF t)<=jx (bG t).length (bF t).length m (fq k<|bG t) (fq k<|bF t)):=by
   have g1:=I6 m<|fq k<|bG t;have g2:=I6 (cL m<|fq k<|bG t)<|fq k<|bF t;have g3:=I6 m<|fq k<|bF t;unfold jx;by_cases c1:0<(bF t).length<;>by_cases c2:0<(bG t).length
   ·rw[if_pos c1,if_pos c2];exact⟨by omega,fun _=>by omega,fun _=>by omega⟩
   ·rw[if_pos c1,if_neg c2];exact⟨by omega,fun q=>absurd (List.length_pos_iff.2 q) c2,fun _=>by omega⟩
   ·rw[if_neg c1,if_pos c2];exact⟨by omega,fun _=>by omega,fun q=>absurd (List.length_pos_iff.2 q) c1⟩
   ·rw[if_neg c1,if_neg c2];exact⟨Int.le_refl _,fun q=>absurd (List.length_pos_iff.2 q) c2,fun q=>absurd (List.length_pos_iff.2 q) c1⟩
  obtain⟨a1,a2⟩:=PC (k:=k) l<|jx (bG t).length (bF t).length m (fq k<|bG t)<|fq k<|bF t;rw[List.foldl_cons];refine⟨Int.le_trans one.1 a1,fun s hs=>?_⟩;rcases List.mem_cons.1 hs with rfl|hs
  ·exact⟨fun q=>Int.le_trans (one.2.1 q) a1,fun q=>Int.le_trans (one.2.2 q) a1⟩
  ·exact a2 s hs
theorem ZI{s:St}{n:Int}(h:mC s n=true)(hk:0<=fC s):(1<=fC s/\fC s<=8)/\(0<=DJ s/\DJ s<8):=by
 obtain⟨kind,to,a,b,bd,el⟩:=s;have h:Ab (pZ kind) to a b bd el n=true:=h;have hk:0<=kind:=hk;show(1<=kind/\kind<=8)/\(0<=to/\to<8);have Hh:∀l,Ab l to a b bd el n=true->0<=to/\to<8:=fun l h=>by
  unfold Ab at h;split at h
  ·obtain⟨_,h⟩:=and_true.1 h;obtain⟨h,_⟩:=and_true.1 h;exact of_decide_eq_true h
  ·cases h
 refine⟨?_,Hh _ h⟩;by_cases c:kind<=8
 ·refine⟨?_,c⟩;by_cases c0:kind=0
  ·subst c0;exfalso;have e:pZ 0=[false,false,false,false,false,false]:=rfl;rw[e] at h;cases h
  ·omega
 ·exfalso;have e:pZ kind=[false,false,false,false,false,false]:=by unfold pZ;rw[List.getD_eq_getElem?_getD,List.getElem?_eq_none (show Lj.length<=kind.toNat by show 9<=kind.toNat;omega)];rfl
  rw[e] at h;cases h
def GL:Nat->List St->Prop
 |0,_=>True
 |k+1,l=>∀s∈l,0<=fC s/\GL k (bG s)/\GL k (bF s)
theorem PD{n:Int}:∀(d k:Nat) (l:List St),kB k l=true->zN k n l->GL k l->fq k l<=d->lp d l
 |_,0,_,h,_,_,_=>by cases h
 |0,k+1,l,_,_,_,h=>by have h:l.foldl _ 0+1<=(0:Int):=h;have:=(PC (k:=k) l 0).1;omega
 |d+1,k+1,l,hc,ha,hp,h=>by
  have h:l.foldl (fun m s=>jx (bG s).length (bF s).length m (fq k<|bG s)<|fq k<|bF s) 0+1<=((d+1:Nat):Int):=h;obtain⟨c1,c2⟩:=and_true.1 (show(decide (l.length<=1000000)&&l.all fun s=>kB k (bG s)&&kB k (bF s))=true from hc);refine⟨of_decide_eq_true c1,fun s hs=>?_⟩;obtain⟨a1,a2,a3⟩:=ha s hs;obtain⟨p1,p2,p3⟩:=hp s hs;obtain⟨e1,e2⟩:=and_true.1<|List.all_eq_true.1 c2 s hs;obtain⟨g1,g2⟩:=(PC (k:=k) l 0).2 s hs;obtain⟨q1,q2⟩:=ZI a1 p1;refine⟨q1,q2,?_,?_⟩
  ·by_cases z:bG s=[]
   ·rw[z];exact Vb d
   ·have:=g1 z;exact PD d k _ e1 a2 p2 ab
  ·by_cases z:bF s=[]
   ·rw[z];exact Vb d
   ·have:=g2 z;exact PD d k _ e2 a3 p3 ab
theorem afQ{n:Int}(h:tZ tx n true)(hc:kB 60 tx=true)(hp:GL 60 tx):lp 6 tx:=by obtain⟨c1,c2,p,_,e,hb⟩:=h;obtain⟨h1,h2⟩:=and_true.1 hb.symm;obtain⟨h2,_⟩:=and_true.1 h2;have h1:=of_decide_eq_true h1;exact PD 6 60 tx hc (AH 60 tx p e h2) hp h1.2.2.1
theorem aeq{vars:Int}{aM:List Int}(h:lp 6 tx)(hg:aM.length<=1000)(hv:1<=vars/\vars<=32):∃st bb,ig 1000 [tK tx] [[]]=some (st,bb)/\mw ⟨vars,aM,Z8,bb,st.reverse,0⟩:=by
 have hi:Inv [tK tx] [[]]:=⟨⟨h,⟨by show(0:Int)<=0;omega,by show(0:Int)<=_;omega⟩,⟨by show(0:Int)<=0;omega,by show(0:Int)<=7;omega⟩,rfl,fun c=>(by cases c),trivial⟩,rfl,OC⟩;obtain⟨aW,b',e,i,_⟩:=ES 1000 _ _ hi (by have:=Og hi.wf;have l1:[tK tx].length=1:=rfl;omega);refine⟨aW,b',e,?_,rfl,?_,hg,hv⟩
 ·show Inv aW.reverse.reverse b';rw[List.reverse_reverse];exact i
 ·show aW.reverse.reverse=[]\/∃f r,aW.reverse.reverse=f::r/\_;rw[List.reverse_reverse];exact Cy _ _ _ _ _ e
end DK
end
section
open Go Go.Rn Go.RowKit Go.Proofs
namespace D4
open cj eR fW nV qH D3 yf
variable {L:bO}
noncomputable section
abbrev tG(n:Nat):AS->AS:=Xn 270 dH dV n
abbrev tQ(k n:Nat)(u:AV):AS->Prop:=Xm 270 dH dV k n u
theorem tR{T:Prop}(L:bO)(g k n:Nat)(val:AV->List AV->Option AV)(rest:List AV)(v y:AV)(hv:val v rest=some y)(t:T)(h4:y.hi=true)(h1:sp L g=some (oV k val 270 dV dH):=by as_aux_lemma=>kernel_rfl)(h2:(rest.all AV.hi&&Nat.ble 270 n)=true:=by as_aux_lemma=>kernel_rfl)(h3:Nat.blt n top=true:=by as_aux_lemma=>kernel_rfl):
 (∀s,tQ k n v s->aZ pg (sp L) FU 6 (.fn g) (.ptr (some (n,0))::rest) s= .ok y (tG n s))/\(true=true/\true=true/\some (ae.tok k v)=some (.tok k v))/\T:=
 ⟨aej (P:=pg) (F:=FU) (m:=5) h1 h2 h3 hv h4,⟨rfl,rfl,rfl⟩,t⟩
theorem WC{a:dG}{bg:List Fr}{c:Nat}{s:AS}(h0:s.h.get 270=some (aD hJ<|F7 a c))(h1:s.h.get 271=some (.tok 3<|bJ a.b))(h2:s.h.get 272=some (aD aH<|a.fs++bg)):∀m o,(m,o)∈gA a bg c->s.h.get m=some o:=fun m o h=>by simp only[gA,List.mem_cons,List.not_mem_nil,or_false,Prod.mk.injEq] at h;rcases h with⟨rfl,rfl⟩|⟨rfl,rfl⟩|⟨rfl,rfl⟩<;>assumption
section
variable {B:aI} {a:dG} {bg:List Fr} {c:Nat}
theorem afR(mc:Mt [PB] B)(h:xu a)(hj:mF a bg c)(hl:(allM a.b).length<100000)(g0:(tG 271<|ah (ak++aY (gA a bg c)) 273).h.get 270=some (aD hJ<|F7 a c):=by as_aux_lemma=>kernel_rfl)(g1:(tG 271<|ah (ak++aY (gA a bg c)) 273).h.get 271=some (.tok 3<|bJ a.b):=by as_aux_lemma=>kernel_rfl)(g2:(tG 271<|ah (ak++aY (gA a bg c)) 273).h.get 272=some (aD aH<|a.fs++bg):=by as_aux_lemma=>kernel_rfl):
 au pg B 271 (iU XT pg (az Tryz.f17) 4 (aw aS<|dR<|allM a.b)<|ep a) (sF 17 Tryz.f17 [.ptr<|some (270,0)]) (ah (ak++aY (gA a bg c)) 273):=
 Eu mc (R:=fun y s=>oT 4 (aw aS<|dR<|allM a.b) (ep a) s y) (.st 8<|.rg<|.go 4<|.cg (aw aS<|dR<|allM a.b) (tG 271) (tQ 3 271<|bJ a.b)<|.go 1<|.en<|.rt 1 .no) (tR [PB] 42 3 271 (oK bJ PA) [] (bJ a.b) (aw aS<|dR<|allM a.b) (by rw[Ix sM];exact if_pos hl) (T:=oT 4 (aw aS<|dR<|allM a.b) (ep a) (tG 271<|ah (ak++aY (gA a bg c)) 273)<|aw aS<|dR<|allM a.b) ⟨rfl,_,.tT a h bg c hj,WC g0 g1 g2⟩<|aK.2<|cN _) bW bW
theorem afS(mc:Mt [] B)(h:xu a)(hj:mF a bg c)(g0:(ah (ak++aY (gA a bg c)) 273).h.get 270=some (aD hJ<|F7 a c):=by as_aux_lemma=>kernel_rfl)(g1:(ah (ak++aY (gA a bg c)) 273).h.get 271=some (.tok 3<|bJ a.b):=by as_aux_lemma=>kernel_rfl)(g2:(ah (ak++aY (gA a bg c)) 273).h.get 272=some (aD aH<|a.fs++bg):=by as_aux_lemma=>kernel_rfl):
 au pg B 271 (iU XT pg (az Tryz.f18) 4 (.int .i64 a.steps)<|ep a) (sF 18 Tryz.f18 [.ptr<|some (270,0)]) (ah (ak++aY (gA a bg c)) 273):=
 Eu mc (R:=fun y s=>oT 4 (.int .i64 a.steps) (ep a) s y) (.rt 10 .no) (T:=oT 4 (.int .i64 a.steps) (ep a) (ah (ak++aY (gA a bg c)) 273)<|.int .i64 a.steps) ⟨rfl,_,.tT a h bg c hj,WC g0 g1 g2⟩ bW bW
end
def Hl:dG->List AV->Option AV
 |a,[]=>if(allM a.b).length<100000 then some (aw aS<|dR<|allM a.b) else none
 |_,_=>none
def EH:dG->List AV->Option AV
 |a,[]=>some<|.int .i64 a.steps
 |_,_=>none
def Xr:FuncId×KE:=(17,.raw<|oV 4<|oK ep Hl)
def Xs:FuncId×KE:=(18,.raw<|oV 4<|oK ep EH)
theorem aer(hP:bS pg)(hs:Di pg 61 62)(h:aX L):aX<|Xr::L:=by
 refine Iw yz hP gT ry jT jq mr lY h (acL hP hs de) Tryz.func17 (body:=aQ pg 17 []) aU aU fun v rest y e=>?_;obtain⟨a,rfl,e1⟩:=H8 e;unfold Hl at e1;split at e1<;>(try split at e1)<;>cases e1;rename_i q;refine⟨aK.1 aU,fun L hx=>?_⟩;generalize hv:ep a=v at hx;cases hx with
 |tT b hb bg c hj=>have:=uO _ _ hv;subst this;exact⟨273,by omega,aK.1 aU,FB,fun B mc=>afR mc hb hj q⟩
theorem aes(hP:bS pg)(h:aX L):aX<|Xs::L:=by
 refine Iw yz hP gT ry jT jq mr lY h de Tryz.func18 (body:=aQ pg 18 []) aU aU fun v rest y e=>?_;obtain⟨a,rfl,e1⟩:=H8 e;unfold EH at e1;split at e1<;>cases e1;refine⟨aK.1 aU,fun L hx=>?_⟩;generalize hv:ep a=v at hx;cases hx with
 |tT b hb bg c hj=>have:=uO _ _ hv;subst this;exact⟨273,by omega,aK.1 aU,FB,fun B mc=>afS mc hb hj⟩
end
end D4
end
section
open Go Go.Rn Go.RowKit Go.Proofs
namespace D5
open cj fW vT
variable {P L:Nat} {i:Int}
noncomputable section
def kO(l:List Int)(ws:List<|Int×Int):List Int:=ws.foldl (fun l p=>l.set p.1.toNat p.2) l
theorem FD:∀(ws:List<|Int×Int) (l:List Int),(kO l ws).length=l.length
 |[],_=>rfl
 |p::ws,l=>(FD ws<|l.set p.1.toNat p.2).trans List.length_set
def KW:List Item:=[.code<|aQ pg 19 [1,1,0,1,0,0],.inLoop<|aQ pg 19 [1,1,0,1,0,0],.inBlock 0,.code<|aQ pg 19 [1,1,1]]
abbrev Rb:Nat:=max Tryz.f19.ntmps 2
def wE(P L len:Nat)(i:Int):List<|Nat×AV:=[(5,.slice (some (271,0)) len<|.aq len 1),(10,.U P 0 L),(11,.int .i64 (L:Int)),(12,.int .i64 i)]
def p7(l:List Int):List<|Nat×Option ae:=[(271,some<|aD encI l)]
def uD(P L len:Nat)(i:Int):AF:=⟨19,aC<|wE P L len i,Rb,KW,[],none⟩
def uE(l:List Int):AS:=ah (p7 l) 272
abbrev Co(B:aI)(v:AV)(fr:AF)(s:AS):Prop:=au pg B 270 (Fin pg (az Tryz.f19) fun y _=>y=v) fr s
abbrev LsW(P L len:Nat)(i:Int)(l:List Int):Prop:=((wE P L len i).map (fun q=>some q.2)=(wE P L len i).map (fun q=>some q.2))/\((p7 l).map (fun q=>q.2)=(p7 l).map (fun q=>q.2))/\(uD P L len i=uD P L len i/\uE l=uE l)
abbrev BkW(P L len:Nat)(i:Int)(l:List Int):Prop:=((wE P L len i).map (fun q=>some q.2)=(wE P L len i).map (fun q=>some q.2))/\((p7 l).map (fun q=>q.2)=(p7 l).map (fun q=>q.2))/\tO 272 (wE P L len i) (p7 l)/\(uD P L len i=uD P L len i/\uE l=uE l)
section
variable {B:aI} {v:AV}
theorem aiM{len:Nat}{l:List Int}(hP:top<=P)(hl:l.length<=100000):tO 272 (wE P L len i)<|p7 l:=by
 intro r r1 r2;refine⟨fun p hp=>?_,fun p hp y hy=>?_⟩
 ·simp only[wE,List.mem_cons,List.not_mem_nil,or_false] at hp;rcases hp with rfl|rfl|rfl|rfl
  ·exact bp.slice<|r1 271 ab
  ·exact bp.U (r2 _ hP) r2
  ·exact bp.int _ _
  ·exact bp.int _ _
 ·rw[p7,List.mem_singleton] at hp;subst hp;cases hy;exact lW.aD (fun x=>⟨rfl,rfl⟩) (by rw[eI.length];unfold top;omega)
theorem Q5(mc:Mt [] B){l:List Int}{N o m:Nat}(hlen:l.length<=100000)(hf:top<=N/\cG FU N o ((m+1)*1)=some (l.map encI).flatten/\m+1=l.length)(H:Co B v (uD P L ([]++l).length 0)<|uE<|[]++l):
 Co B v ⟨19,dc [.U N o<|m+1,.U P 0 L],Rb,(cv 19 []),[],none⟩ (ah ak 270):=
 wC mc (L:=[]) (C:=fun fr s1 _=>fr=uD P L ([]++l).length 0/\s1=uE ([]++l)) BC (.st 3<|.rg<|.go 1<|.il<|.st 8<|.rg<|.go 2<|.al Int encI [] l<|.go 1<|.en<|.rt 1<|.go 1<|.en<|.st 5<|.ls (wE P L ([]++l).length 0) (p7<|[]++l) 272 .no) (Ln encI [] l (K:=1) (nY:=8) hf (fun x=>⟨rfl,rfl⟩) PX PY (show LsW P L ([]++l).length 0 ([]++l) from⟨rfl,rfl,rfl,rfl⟩))
theorem aiN(mc:Mt [] B){l:List Int}{len:Nat}{ar x c:Int}(hP:top<=P)(hlen:l.length<=100000)(hl:l.length=len)(h0:0<=i)(h1:i<(L:Int))(hL:L<=100000)(ha:0<=ar/\ar<(len:Int))(hc:l[ar.toNat]? =some c)(hx:cG FU P (0+i.toNat*2+0) 2=some [.int .i64 ar,.int .i64 x])(H:Co B v (uD P L len<|i+1)<|uE<|l.set ar.toNat x):
 Co B v (uD P L len i) (uE l):=
 wC mc (L:=[]) (C:=fun fr s1 _=>fr=uD P L len (i+1)/\s1=uE (l.set ar.toNat x)) BC (.st 1<|.rg<|.fk (.en<|.st 6<|.rg<|.eF<|.eG [.int .i64 ar,.int .i64 x]<|.go 2<|.en<|.rg<|.go 5<|.ix<|.np (aD encI<|l.set ar.toNat x)<|.en<|.st 1<|.rg<|.vl (i6<|i+1)<|.go 1<|.en<|.st 1<|.bk (wE P L len<|i+1) (p7<|l.set ar.toNat x) 272 .no) .no) (aT (i<(L:Int)) (fun _=>And.intro (show(0:Int)<=i from h0)<|ai (show i<(L:Int) from h1)<|ai hP<|ai hx<|ai (show(0:Int)<=ar from ha.1)<|ai (show ar<(len:Int) from ha.2)<|ai (ru (enc:=encI) (K:=1) (fun _=>rfl) eH hc (c':=x) (r:=[.int .i64 x]) 0 rfl rfl rfl)<|ai (congrArg (AV.int .i64) (show IntKind.wrap .i64 (i+1)=i+1 from EO ab)) (show BkW P L len (i+1) (l.set ar.toNat x) from⟨rfl,rfl,aiM hP (by rw[List.length_set];exact hlen),rfl,rfl⟩)) (fun h=>show False from h h1))
def Lw(l:List Int):AF:=⟨19,aC [(4,aw encI l)],Rb,(cv 19 [1,1,1,1]),[],none⟩
theorem mN(mc:Mt [] B)(l:List Int):Co B (aw encI l) (Lw l)<|ah [] 270:=wS mc (L:=[]) (R:=fun y _=>y=aw encI l) (.rt 1 .no) (T:=aw encI l=aw encI l) rfl
theorem enW(mc:Mt [] B){l:List Int}{len:Nat}(hlen:l.length<=100000)(hl:l.length=len)(h1:(L:Int)<=i):Co B (aw encI l) (uD P L len i)<|uE l:=by subst hl;exact wC mc (L:=[]) (C:=fun fr s1 _=>fr=Lw l/\s1=ah [] 270) (fun fr s1 _ hC=>by obtain⟨rfl,rfl⟩:=hC;exact mN mc l) (.st 1<|.rg<|.fk .no<|.en<|.st 5<|.rn [(4,.slice (some (271,0)) l.length<|.aq l.length 1)] (p7 l) [(4,aw encI l)] [] 272 270 .no)<|aT (i<(L:Int)) (fun h=>show False by omega) (fun _=>show(([(4,.slice (some (271,0)) l.length<|.aq l.length 1)]:List<|Nat×AV).map (fun q=>some q.2)=([(4,.slice (some (271,0)) l.length<|.aq l.length 1)]:List<|Nat×AV).map (fun q=>some q.2))/\((p7 l).map (fun q=>q.2)=(p7 l).map (fun q=>q.2))/\hU FU 270 272 [(4,.slice (some (271,0)) l.length<|.aq l.length 1)] (p7 l) [(4,aw encI l)] [] 270/\(Lw l=Lw l/\ah [] 270=ah [] 270) from⟨rfl,rfl,Jn (j:=4) (bx:=272) eI l rfl eH eH eH eH,rfl,rfl⟩)
end
def DL(args:List AV)(v:AV):Prop:=∃(N o:Nat) (l:List Int) (ws:List<|Int×Int),args=[.U N o l.length,aw aS ws]/\du encI 1 (.U N o l.length) l/\(1<=l.length/\l.length<=100000/\ws.length<=100000)/\(∀p∈ws,0<=p.1/\p.1<(l.length:Int))/\v=aw encI (kO l ws)
theorem yg:mo 2 aS:=⟨fun _=>rfl,fun _=>rfl⟩
theorem abB{l m:List<|Int×Int}(h:aw aS l=aw aS m):l=m:=by
 have e:du aS 2 (aw aS l) m:=by rw[h];exact du.aw yg m
 exact du.inj Tu (du.aw yg l) e
theorem DL.bM(args:List AV)(v v':AV)(h:DL args v)(h':DL args v'):v=v':=by
 obtain⟨N,o,l,ws,rfl,hl,_,_,rfl⟩:=h;obtain⟨N',o',l',Rc,h1,lf,_,_,rfl⟩:=h';injection h1 with h1 h2
 injection h2 with h2 _
 rw[h1] at hl;rw[hl.inj sO lf,abB h2]
def WD:FuncId×KE:=(19,.val<|aR DL)
theorem acP(hP:bS pg){L:bO}(h:aX L):aX<|WD::L:=by
 refine gE hP h de Tryz.func19 fun args v e=>?_;obtain⟨N,o,l,ws,rfl,hl,hlen,hw,rfl⟩:=fS e;refine⟨aK.1 aU,fun B mc=>?_⟩;rw[←hI];obtain⟨m,hm⟩:∃m,l.length=m+1:=⟨l.length - 1,by omega⟩;have hf:cG FU N o ((m+1)*1)=some (l.map encI).flatten:=by
  rcases IK eI.len hl with q|q
  ·rw[←hm];exact q
  ·rw[q] at hm;cases hm
 have hN:=hl.len.2.1;have key:∀(r:List<|Int×Int) (i:Nat) (l':List Int),ws.drop i=r->l'.length=l.length->kO l' r=kO l ws->
  Co B (aw encI<|kO l ws) (uD (nm (ws.map aS).flatten) ws.length l.length i) (uE l'):=by
  intro r;induction r with
  |nil=>intro i l' hr h1 h2;have hi:ws.length<=i:=List.drop_eq_nil_iff.1 hr;have h2:l'=kO l ws:=h2;rw[←h2];exact enW mc ab h1 ab
  |cons p r ih=>
   intro i l' hr h1 h2;have hl:i<ws.length:=by
    by_cases q:i<ws.length
    ·exact q
    ·rw[List.drop_of_length_le ab] at hr;cases hr
   have ha:ws[i]? =some p:=by have:=congrArg (fun q=>q[0]?) hr;simp only[List.getElem?_drop,List.getElem?_cons_zero,Nat.add_zero] at this;exact this
   have kf:ws.drop (i+1)=r:=by have:=congrArg (List.drop 1) hr;rw[List.drop_drop] at this;exact this
   obtain⟨w1,w2⟩:=hw p<|List.mem_of_getElem? ha;have hx:=xq yg ha 0 2 ab;have cf:p.1.toNat<l'.length:=by omega
   refine aiN (c:=l'[p.1.toNat]) (x:=p.2) (ar:=p.1) mc (cN _) ab h1 ab ab ab ⟨w1,w2⟩ (List.getElem?_eq_getElem cf) (by rw[show 0+(i:Int).toNat*2+0=i*2+0 by omega];exact hx) ?_;have:=ih (i+1) (l'.set p.1.toNat p.2) kf (by rw[List.length_set];exact h1) h2;rw[show(((i+1:Nat)):Int)=(i:Int)+1 by omega] at this;exact this
 have:=Q5 (l:=l) (N:=N) (o:=o) (m:=m) (P:=nm (ws.map aS).flatten) (L:=ws.length) mc hlen.2.1 ⟨hN,hf,hm.symm⟩<|key ws 0 ([]++l) rfl rfl rfl;rw[←hm] at this;exact this
end
end D5
end
