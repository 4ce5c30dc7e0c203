import Derived.Test.YtaooegdfpnfncaaGreatDoorAtGF
import Derived.Test.YtaooegdfpnfncaaGreatDoorAtGE
import Derived.Test.YtaooegdfpnfncaaGreatDoorRnGD
import Derived.Test.YtaooegdfpnfncaaGreatDoorRnGC
set_option maxRecDepth 100000
set_option maxHeartbeats 8000000
set_option linter.unusedSimpArgs false
set_option linter.unusedVariables false
section
open Go Go.Rn Go.RowKit Go.Proofs
namespace wE
open QF cr fQ fc hI fF cS dL dj dA gF fT ia ig iv iF iw iG iT iU jH jN kK lr mg jU gK jq og pn kJ po pq sB ql
variable {b b':bA} {fs:List Fr} {s:Int} {A:MN}
theorem len8{l:List Int}(h:l.length=8):∃a b c d e f g i,l=[a,b,c,d,e,f,g,i]:=⟨_,_,_,_,_,_,_,_,K2 l h⟩
theorem PD{a:dQ}(h:a.l.length=8){to z:Int}(h0:0<=to)(h8:to<8):MN.iu {mn a with steps:=s} to z=mn ⟨a.vars,a.aH,a.l.set to.toNat z,b,fs,s⟩:=by obtain⟨vars,aH,l,b0,fs0,st⟩:=a;obtain⟨x0,x1,x2,x3,x4,x5,x6,x7,rfl⟩:=len8 h;rcases Wp h0 h8 with rfl|rfl|rfl|rfl|rfl|rfl|rfl|rfl<;>rfl
theorem JX{A':MN}{n c k:Nat}{g:Fr}(m:ey A n c fs b)(hk:k<=fs.length)(hl:fs.length<=1000)(e1:A'.G=A.G/\A'.q=A.q/\A'.lg=A.lg/\A'.aH=A.aH/\A'.vars=A.vars)(hg:(0<=g.turns/\g.turns<=1000000)/\g.kept.length=8)(hb:fy b'):
 ey A' (k+1) (k+1) (ug fs k g) b'/\((ug fs k g).take<|k+1).reverse=g::(fs.take k).reverse:=by
 have hlen:(ug fs k g).length=k+1:=by rw[List.length_append,List.length_take];simp only[List.length_cons,List.length_nil];omega
 obtain⟨q1,q2,q3,q4,q5⟩:=e1;refine⟨⟨by rw[q1,q2,q3,q4];exact m.aH,hb,iy.app (iy.take m.ov k) fun f hf=>?_,by rw[hlen];omega,Nat.le_refl _,by rw[hlen];omega,by rw[q5];exact m.vars⟩,?_⟩
 ·rw[List.mem_singleton] at hf;subst hf;exact hg
 ·rw[List.take_of_length_le (by rw[hlen];omega)];simp only[List.reverse_append,List.reverse_cons,List.reverse_nil,List.nil_append,List.cons_append]
structure vC (a:dQ) (f:Fr) (r:List Fr) (kind to:Int):Prop where
 au:0<=f.au
 to:kind=1\/kind=2->0<=to/\to<8
 ajv:kind=6->∀g r',below (f::r)=some (g,r')->r'≠[]/\2<=a.b.length
theorem xR{a a':dQ}{st:List Fr}(h:fin a st b=some a'):∃bq b',lX 1000 st b=some (bq,b')/\a'={a with fs:=bq.reverse,b:=b'}:=by
 unfold fin at h;split at h
 ·rename_i p e;injection h with h;exact⟨p.1,p.2,e,h.symm⟩
 ·cases h
theorem xS{a:dQ}(h:B3 a){l:List Int}{bq:List Fr}{n c n':Nat}{da:List Fr}(d:jS A n c fs b bq b' n' da)(hl:l.length=8)(hn:n<=1000):B3 ⟨a.vars,a.aH,l,b',bq.reverse,s⟩:=by refine⟨hl,d.fO.buf,?_,h.2.2.2.1,h.2.2.2.2⟩;show bq.reverse.length<=1000;rw[←d.eq,List.reverse_reverse,List.length_take];have:=d.le;omega
theorem UC{f f1:Fr}{r:List Fr}(ho:f1.aU=f.aU):below (f1::r)=if f.aU=true then some (f1,r) else below r:=by show(if f1.aU=true then some (f1,r) else below r)=_;rw[ho]
theorem Vq(z:Int):mA z<=8:=by
 unfold mA eR;split<;>rename_i q
 ·omega
 ·have:=of_decide_eq_false q;omega
noncomputable abbrev LS:bU:=[Rh,mF,iN,jF,lk,mz,zQ,Rf,QC,P3,PZ,P0]
section
variable {B:aJ} {a a':dQ} {cf:List Fr} {c m:Nat} {f:Fr} {r:List Fr} {kind to:Int} {ea eb:Ex} {bd el:List St}
abbrev An(B:aJ)(a:dQ)(cf:List Fr)(c:Nat)(a':dQ):Prop:=av pg B 271 (mf XT pg (aA Tryz.f49) 4 (.int .i64 0)<|eJ a') (sF 49 Tryz.f49 [.ptr<|some (270,0)])<|aj (aq++bO (o8 a cf c)) 273
theorem Bc(h:Good a)(e:Ex):fq {mn a with steps:=a.steps+1} e=gd a e/\fq (mn a) e=gd a e:=⟨LF h.ok.1 _,LF h.ok.1 _⟩
theorem jh{op nn aZ n2:Int}{la lb:List Ex}{q:Int×Int×Int}(h:Good a)(hj:yc a cf c)(t:yy a cf f r m)(cQ:a.fs.reverse=f::r)(hs:f.block[f.au.toNat]? =some (.mk kind to (.mk op nn la) (.mk aZ n2 lb) bd el))(hd:vC a f r kind to)(hk:fU a=q):JH (mn a) a.fs.length c (a.fs++cf) a.b kind to op nn la aZ n2 lb bd el q:=by have n6:=h.jc;exact⟨h.fO hj,by rw[t.n];omega,h.jc,h.b6,PC t hd.au hs,(Qb h t cQ _ hs).trans hk,h.ay t,h.steps,h.mp hj t⟩
variable (mc:Mt LS B) (h:Good a) (hj:yc a cf c) (t:yy a cf f r m) (cQ:a.fs.reverse=f::r)
include mc h hj t cQ
theorem afZ(hs:f.block[f.au.toNat]? =some (.mk 1 to ea eb bd el))(hd:vC a f r 1 to)(hk:fU a=(1,0,0))(hf:fin {a with l:=a.l.set to.toNat<|gd a ea,steps:=a.steps+1} ({f with au:=f.au+1}::r) a.b=some a'):
 An B a cf c a':=by
 obtain⟨bq,b',e1,rfl⟩:=xR hf;have h0:=(hd.to<|.inl rfl);have mp:=h.mp hj t;obtain⟨p1,p2,p3⟩:=vB t;obtain⟨op,nn,la⟩:=ea;obtain⟨aZ,n2,lb⟩:=eb;obtain⟨n',da,d⟩:=tS (mp.iu (i:=to) (z:=gd a<|.mk op nn la)) p2 e1;obtain⟨ev,_⟩:=Bc h<|.mk op nn la;have hX:=ahD mp (kind:=1) (ea:=.mk op nn la) (eb:=.mk aZ n2 lb) (bd:=bd) (el:=el) h0.1 h0.2;rw[ev] at hX;have key:=j1 (.inl ⟨rfl,rfl,rfl⟩) mc (jh h hj t cQ hs hd hk) mp.iu d.fO hX d.run;exact vT (PD h.ok.1 h0.1 h0.2) rfl (xS h.ok d (by rw[List.length_set];exact h.ok.1) (by have:=h.jc;omega)) d.fO H8 key
theorem af0(hs:f.block[f.au.toNat]? =some (.mk 2 to ea eb bd el))(hd:vC a f r 2 to)(hk:fU a=(1,0,0))(hf:fin {a with l:=a.l.set to.toNat (lq a.b<|iV (gd a ea) a.vars).1,steps:=a.steps+1} ({f with au:=f.au+1}::r) a.b=some a'):
 An B a cf c a':=by
 obtain⟨bq,b',e1,rfl⟩:=xR hf;have mp:=h.mp hj t;obtain⟨p1,p2,p3⟩:=vB t;have n6:=h.jc;obtain⟨op,nn,la⟩:=ea;obtain⟨aZ,n2,lb⟩:=eb;obtain⟨ev,zt⟩:=Bc h<|.mk op nn la;have h0:=(hd.to<|.inr rfl);obtain⟨n',da,d⟩:=tS (mp.iu (i:=to) (z:=(lq a.b<|iV (gd a<|.mk op nn la) a.vars).1)) p2 e1;have hX:=afX mp h.b6 (kind:=2) (ea:=.mk op nn la) (eb:=.mk aZ n2 lb) (bd:=bd) (el:=el) h0.1 h0.2;rw[ev] at hX;have key:=j1 (.inr<|.inl ⟨rfl,rfl,rfl⟩) mc (jh h hj t cQ hs hd hk) mp.iu d.fO hX d.run;exact vT (PD h.ok.1 h0.1 h0.2) rfl (xS h.ok d (by rw[List.length_set];exact h.ok.1) ah) d.fO H8 key
theorem af1(hs:f.block[f.au.toNat]? =some (.mk 3 to ea eb bd el))(hd:vC a f r 3 to)(hk:fU a=(1,0,0))(hf:fin {a with steps:=a.steps+1} ({f with au:=f.au+1}::r) (mD a.b (iV (gd a ea) a.vars)<|gd a eb)=some a'):
 An B a cf c a':=by
 obtain⟨bq,b',e1,rfl⟩:=xR hf;have mp:=h.mp hj t;obtain⟨p1,p2,p3⟩:=vB t;have n6:=h.jc;obtain⟨op,nn,la⟩:=ea;obtain⟨aZ,n2,lb⟩:=eb;obtain⟨ev,zt⟩:=Bc h<|.mk op nn la;have ev2:fq {mn a with steps:=a.steps+1} (.mk aZ n2 lb)=gd a (.mk aZ n2 lb):=LF h.ok.1 _;have mb:ey {mn a with steps:=a.steps+1} (0+a.fs.length) (0+a.fs.length) (jO (a.fs++cf) a.fs.length)<|mD a.b (iV (gd a<|.mk op nn la) a.vars)<|gd a<|.mk aZ n2 lb:=⟨mp.aH,Ov mp.buf _ _,mp.ov,mp.nL,mp.rG,mp.len,mp.vars⟩;obtain⟨n',da,d⟩:=tS mb p2 e1;have hX:=aei mp h.b6 (kind:=3) (to:=to) (ea:=.mk op nn la) (eb:=.mk aZ n2 lb) (bd:=bd) (el:=el);rw[ev,ev2] at hX;have key:=j1 (.inr<|.inr ⟨rfl,rfl,rfl⟩) mc (jh h hj t cQ hs hd hk) mb d.fO hX d.run;exact vT rfl rfl (xS h.ok d h.ok.1 ah) d.fO H8 key
theorem Ws{X:List St}{tk:Bool}(hs:f.block[f.au.toNat]? =some (.mk 4 to ea eb bd el))(hd:vC a f r 4 to)(hk:fU a=(1,0,0))(hz:zB tk<|gd a ea)(hX:X=xB tk bd el)(hf:fin {a with steps:=a.steps+1} (⟨X,0,0,false,Z8,none⟩::{f with au:=f.au+1}::r) a.b=some a'):
 An B a cf c a':=by
 obtain⟨bq,b',e1,rfl⟩:=xR hf;have mp:=h.mp hj t;obtain⟨p1,p2,p3⟩:=vB t;have n6:=h.jc;obtain⟨op,nn,la⟩:=ea;obtain⟨aZ,n2,lb⟩:=eb;obtain⟨ev,zt⟩:=Bc h<|.mk op nn la;obtain⟨mE,eE⟩:=JX (A':={mn a with steps:=a.steps+1}) (k:=0+a.fs.length) (b':=a.b) (g:=⟨X,0,0,false,Z8,none⟩) mp yL yL ⟨rfl,rfl,rfl,rfl,rfl⟩ ⟨⟨by show(0:Int)<=0;omega,by show(0:Int)<=1000000;omega⟩,rfl⟩ mp.buf;rw[p2] at eE;obtain⟨n1,bK,d⟩:=tS mE eE e1;obtain⟨n',da,d2⟩:=d.again e1;have key:=j4 (tk:=tk) mc (jh h hj t cQ hs hd hk) d.fO d2.fO mE d.run d2.run (by rw[zt];exact hz) hX;exact vT rfl rfl (xS h.ok d h.ok.1 ah) d2.fO L8 key
theorem aek(hs:f.block[f.au.toNat]? =some (.mk 5 to ea eb bd el))(hd:vC a f r 5 to)(hk:fU a=(1,0,0))(hz:0<mA (gd a ea))(hf:fin {a with steps:=a.steps+1} (⟨bd,0,mA (gd a ea) - 1,false,Z8,none⟩::{f with au:=f.au+1}::r) a.b=some a'):
 An B a cf c a':=by
 obtain⟨bq,b',e1,rfl⟩:=xR hf;have mp:=h.mp hj t;obtain⟨p1,p2,p3⟩:=vB t;have n6:=h.jc;obtain⟨op,nn,la⟩:=ea;obtain⟨aZ,n2,lb⟩:=eb;obtain⟨ev,zt⟩:=Bc h<|.mk op nn la;have h8:=Vq<|gd a<|.mk op nn la;obtain⟨mE,eE⟩:=JX (A':={mn a with steps:=a.steps+1}) (k:=0+a.fs.length) (b':=a.b) (g:=⟨bd,0,mA (gd a<|.mk op nn la) - 1,false,Z8,none⟩) mp yL yL ⟨rfl,rfl,rfl,rfl,rfl⟩ ⟨⟨by show 0<=mA _ - 1;omega,by show mA _ - 1<=1000000;omega⟩,rfl⟩ mp.buf;rw[p2] at eE;obtain⟨n1,bK,d⟩:=tS mE eE e1;obtain⟨n',da,d2⟩:=d.again e1;rw[←zt] at mE d hz h8;have key:=j5t mc (jh h hj t cQ hs hd hk) d.fO d2.fO mE d.run d2.run ⟨hz,h8⟩;exact vT rfl rfl (xS h.ok d h.ok.1 ah) d2.fO L8 key
theorem ael(hs:f.block[f.au.toNat]? =some (.mk 5 to ea eb bd el))(hd:vC a f r 5 to)(hk:fU a=(1,0,0))(hz:¬(0<mA (gd a ea)))(hf:fin {a with steps:=a.steps+1} ({f with au:=f.au+1}::r) a.b=some a'):
 An B a cf c a':=by
 obtain⟨bq,b',e1,rfl⟩:=xR hf;have mp:=h.mp hj t;obtain⟨p1,p2,p3⟩:=vB t;have n6:=h.jc;obtain⟨op,nn,la⟩:=ea;obtain⟨aZ,n2,lb⟩:=eb;obtain⟨ev,zt⟩:=Bc h<|.mk op nn la;obtain⟨n',da,d⟩:=tS mp p2 e1;have key:=j5o mc (jh h hj t cQ hs hd hk) d.fO (by rw[zt];omega) d.run;exact vT rfl rfl (xS h.ok d h.ok.1 ah) d.fO H8 key
theorem af2(hs:f.block[f.au.toNat]? =some (.mk 7 to ea eb bd el))(hd:vC a f r 7 to)(hk:fU a=(1,0,0))(hf:fin {a with steps:=a.steps+1} (⟨bd,0,0,true,a.l,some el⟩::{f with au:=f.au+1}::r) (a.b++[[]])=some a'):
 An B a cf c a':=by
 obtain⟨bq,b',e1,rfl⟩:=xR hf;have mp:=h.mp hj t;obtain⟨p1,p2,p3⟩:=vB t;have n6:=h.jc;obtain⟨op,nn,la⟩:=ea;obtain⟨aZ,n2,lb⟩:=eb;obtain⟨ev,zt⟩:=Bc h<|.mk op nn la;have h6:a.b.length<7:=by have:=h.b6;omega
 obtain⟨mE,eE⟩:=JX (A':={mn a with steps:=a.steps+1}) (k:=0+a.fs.length) (b':=a.b++[[]]) (g:=⟨bd,0,0,true,a.l,some el⟩) mp yL yL ⟨rfl,rfl,rfl,rfl,rfl⟩ ⟨⟨by show(0:Int)<=0;omega,by show(0:Int)<=1000000;omega⟩,h.ok.1⟩<|Px mp.buf h6;rw[p2] at eE;obtain⟨n1,bK,d⟩:=tS mE eE e1;obtain⟨n',da,d2⟩:=d.again e1;rw[←YS h.ok.1] at mE d;have key:=j7 mc (jh h hj t cQ hs hd hk) d.fO d2.fO mE d.run d2.run h6;exact vT rfl rfl (xS h.ok d h.ok.1 ah) d2.fO L8 key
theorem af3(hs:f.block[f.au.toNat]? =some (.mk 6 to ea eb bd el))(hd:vC a f r 6 to)(hk:fU a=(1,0,0)){fb ol:List St}{fa ft:Int}{fo:Bool}{kept:List Int}{r':List Fr}(Bd:below (f::r)=some (⟨fb,fa,ft,fo,kept,some ol⟩,r'))(hf:fin {a with l:=kept,steps:=a.steps+1} (⟨ol,0,0,false,Z8,none⟩::r') a.b.dropLast=some a'):
 An B a cf c a':=by
 obtain⟨bq,b',e1,rfl⟩:=xR hf;have mp:=h.mp hj t;obtain⟨p1,p2,p3⟩:=vB t;have n6:=h.jc;obtain⟨op,nn,la⟩:=ea;obtain⟨aZ,n2,lb⟩:=eb;obtain⟨ev,zt⟩:=Bc h<|.mk op nn la;obtain⟨hr,yY⟩:=hd.ajv rfl _ _ Bd;have Rj:∃Z1,below ({f with au:=f.au+1}::r)=some ((⟨fb,Z1,ft,fo,kept,some ol⟩:Fr),r'):=by
  rw[UC (f1:={f with au:=f.au+1}) (f:=f) (r:=r) rfl];rw[UC (f1:=f) (f:=f) rfl] at Bd;by_cases c:f.aU=true
  ·rw[if_pos c] at Bd ⊢;injection Bd with Bd
   injection Bd with g1 g2
   subst g1;subst g2;exact⟨_,rfl⟩
  ·rw[if_neg c] at Bd ⊢;exact⟨_,Bd⟩
 obtain⟨Z1,Rj⟩:=Rj;obtain⟨_,hw⟩:=O1 (0+a.fs.length) _ _ yL p2;obtain⟨i,w1,w2,w3,w4⟩:=hw _ _ Rj;have hi:1<=i:=by
  cases i with
  |zero=>exact absurd w4.symm (by rw[List.take_zero];exact hr)
  |succ i=>omega
 have Sn:kept.length=8:=(mp.ov _<|List.mem_of_getElem? w3).2;obtain⟨y0,y1,y2,y3,y4,y5,y6,y7,rfl⟩:=len8 Sn;have iz:((i:Int)).toNat=i:=by omega
 obtain⟨mE,eE⟩:=JX (A':={mn a with steps:=a.steps+1,x0:=y0,x1:=y1,x2:=y2,x3:=y3,x4:=y4,x5:=y5,x6:=y6,x7:=y7}) (k:=i) (b':=a.b.dropLast) (g:=⟨ol,0,0,false,Z8,none⟩) mp yL yL ⟨rfl,rfl,rfl,rfl,rfl⟩ ⟨⟨by show(0:Int)<=0;omega,by show(0:Int)<=1000000;omega⟩,rfl⟩<|Py mp.buf yY;rw[w4] at eE;obtain⟨n1,bK,d⟩:=tS mE eE e1;obtain⟨n',da,d2⟩:=d.again e1;have hn:i+1<=1000:=by omega
 rw[←iz] at mE d w3;have key:=j6 (wi:=(i:Int)) mc (jh h hj t cQ hs hd hk) d.fO d2.fO mE d.run d2.run w1 ⟨by omega,by omega⟩ w3 yY;exact vT rfl rfl (xS h.ok d2 rfl (by have:=d.le;omega)) d2.fO L8 key
end
end wE
end
section
open Go Go.Rn Go.RowKit Go.Proofs
namespace uL
open cr fQ fc hI fF cS dL dj dA gF fT ia ig iv iF iw iG iT iU jH jN kK lr mg jU gK jq og pn kJ po pq sB ql wE
variable {L:bU}
noncomputable section
structure Qc (a:dQ):Prop where
 qk:Good a
 top:a.fs=[]\/∃f r s,a.fs.reverse=f::r/\0<=f.au/\f.block[f.au.toNat]? =some s
structure O2 (a:dQ):Prop where
 qk:Good a
 ask:fU a=(1,0,0)
 top:∃f r kind to ea eb bd el,a.fs.reverse=f::r/\f.block[f.au.toNat]? =some (.mk kind to ea eb bd el)/\vC a f r kind to
structure Qd (a:dQ):Prop where
 qk:Good a
 ask:∃v,fU a=(2,v,0)
 top:∃f r kind to ea eb bd el,a.fs.reverse=f::r/\0<=f.au/\f.block[f.au.toNat]? =some (.mk kind to ea eb bd el)/\0<=to/\to<8
section
variable {B:aJ} {a a':dQ} {cf:List Fr} {c:Nat}
theorem aem(mc:Mt LS B)(h:O2 a)(hj:yc a cf c)(hs:E5 a=some a'):
 av pg B 271 (mf XT pg (aA Tryz.f49) 4 (.int .i64 0)<|eJ a') (sF 49 Tryz.f49 [.ptr<|some (270,0)]) (aj (aq++bO (o8 a cf c)) 273):=by
 obtain⟨hg,hk,f,r,kind,to,ea,eb,bd,el,cQ,hb,hd⟩:=h;obtain⟨m,t⟩:=Qa (cf:=cf) cQ;unfold E5 at hs;rw[cQ] at hs;simp only[hb] at hs;by_cases c1:kind=1
 ·subst c1;rw[if_pos rfl] at hs;exact afZ mc hg hj t cQ hb hd hk hs
 rw[if_neg c1] at hs;by_cases c2:kind=2
 ·subst c2;rw[if_pos rfl] at hs;exact af0 mc hg hj t cQ hb hd hk hs
 rw[if_neg c2] at hs;by_cases c3:kind=3
 ·subst c3;rw[if_pos rfl] at hs;exact af1 mc hg hj t cQ hb hd hk hs
 rw[if_neg c3] at hs;by_cases c4:kind=4
 ·subst c4;rw[if_pos rfl] at hs;by_cases z:gd a ea=0
  ·rw[if_neg fun q=>q z] at hs;exact Ws (tk:=false) mc hg hj t cQ hb hd hk z rfl hs
  ·rw[if_pos z] at hs;exact Ws (tk:=true) mc hg hj t cQ hb hd hk z rfl hs
 rw[if_neg c4] at hs;by_cases c5:kind=5
 ·subst c5;rw[if_pos rfl] at hs;by_cases z:0<mA (gd a ea)
  ·rw[if_pos z] at hs;exact aek mc hg hj t cQ hb hd hk z hs
  ·rw[if_neg z] at hs;exact ael mc hg hj t cQ hb hd hk z hs
 rw[if_neg c5] at hs;by_cases c6:kind=6
 ·subst c6;rw[if_pos rfl] at hs;split at hs
  ·rename_i e;exact af3 mc hg hj t cQ hb hd hk e hs
  ·cases hs
 rw[if_neg c6] at hs;by_cases c7:kind=7
 ·subst c7;rw[if_pos rfl] at hs;exact af2 mc hg hj t cQ hb hd hk hs
 rw[if_neg c7] at hs;cases hs
theorem af4(mc:Mt LS B)(h:Qd a)(hj:yc a cf c){x:Int}(hs:BS a x=some a'):
 av pg B 271 (mf XT pg (aA Tryz.f55) 4 (.int .i64 0)<|eJ a') (sF 55 Tryz.f55 [.ptr<|some (270,0),.int .i64 x]) (aj (aq++bO (o8 a cf c)) 273):=by
 obtain⟨hg,⟨v,hk⟩,f,r,kind,to,ea,eb,bd,el,cQ,h0,hb,t0,t8⟩:=h;obtain⟨m,t⟩:=Qa (cf:=cf) cQ;have k2:kind=2:=by
  have hk:=hk;unfold fU at hk;rw[cQ] at hk;simp only[hb] at hk;split at hk
  ·injection hk with q;exact absurd q ah
  split at hk
  ·injection hk with q;exact absurd q ah
  split at hk
  ·rename_i q;exact q.1
  ·injection hk with q;exact absurd q ah
 subst k2;unfold BS at hs;rw[cQ] at hs;simp only[hb] at hs;obtain⟨bq,b',e1,rfl⟩:=xR hs;have mp:=hg.mp hj t;obtain⟨p1,p2,p3⟩:=vB t;have n6:=hg.jc;obtain⟨n',da,d⟩:=tS (mp.iu (i:=to) (z:=x)) p2 e1;have ha:=(Qb hg t cQ _ hb).trans hk;obtain⟨op,nn,la⟩:=ea;obtain⟨aZ,n2,lb⟩:=eb;have key:=jA mc ⟨hg.fO hj,by rw[t.n];omega,hg.jc,hg.b6,PC t h0 hb,ha,hg.ay t,hg.steps,mp⟩ d.fO t0 t8 mp.iu d.run;exact vT (PD hg.ok.1 t0 t8) rfl (xS hg.ok d (by rw[List.length_set];exact hg.ok.1) ah) d.fO H8 key
theorem af5(mc:Mt [mF,iN,jF,lk,mz] B)(h:Qc a)(hj:yc a cf c):
 av pg B 271 (mf XT pg (aA Tryz.f38) 4 (AK<|fU a)<|eJ a) (sF 38 Tryz.f38 [.ptr<|some (270,0)]) (aj (aq++bO (o8 a cf c)) 273):=by
 have key:∃o,si (a.fs++cf) a.fs.length o/\wD (mn a) (kx (a.fs++cf) a.fs.length) a.b o=fU a:=by
  rcases h.top with e|⟨f,r,s,cQ,h0,hb⟩
  ·refine⟨none,.inl ⟨by rw[e];rfl,rfl⟩,?_⟩;unfold fU;rw[e];rfl
  ·obtain⟨m,t⟩:=Qa (cf:=cf) cQ;exact⟨some s,PC t h0 hb,Qb h.qk t cQ s hb⟩
 obtain⟨o,h1,h2⟩:=key;have hm:=h.qk.fO hj;have H:=Wq mc hm h.qk.jc h.qk.b6 h1;rw[h2] at H;refine vT (a':=a) rfl rfl h.qk.ok hm (by rw[List.take_left])<|Ri ah (fun _ _ _ _ q=>q) H
end
open Classical in
def E7(a:dQ)(rest:List AV):Option<|AV×dQ:=if rest=[]/\O2 a then(E5 a).map fun a'=>(.int .i64 0,a') else none
open Classical in
def CQ(a:dQ)(rest:List AV):Option<|AV×dQ:=match rest with
 |[.int .i64 x]=>if Qd a then(BS a x).map fun a'=>(.int .i64 0,a') else none
 |_=>none
open Classical in
def mh(a:dQ)(rest:List AV):Option<|AV×dQ:=if rest=[]/\Qc a then some (AK<|fU a,a) else none
def XX:FuncId×KE:=(49,.tok 4<|eW eJ E7)
def YT:FuncId×KE:=(55,.tok 4<|eW eJ CQ)
theorem W9(hP:bB pg):aV LS:=afY hP<|OY hP<|Eg hP<|G4 hP<|JW hP<|NL hP<|TO hP<|afT hP<|aeh hP<|ac1 hP<|acY hP<|acZ hP cO
theorem PE{a:dQ}{cf:List Fr}{c:Nat}:∀p∈o8 a cf c,p.1<273:=fun p hp=>by simp only[o8,List.mem_cons,List.not_mem_nil,or_false] at hp;rcases hp with rfl|rfl|rfl<;>(show _<273;simp only;omega)
theorem aen(hP:bB pg)(h:aV L):aV<|XX::L:=by
 refine Ea rD hP gL pW ir gZ kG ki h (W9 hP) Tryz.func49 (body:=aW pg 49 []) aY aY fun v rest y v' e=>?_;obtain⟨a,a',rfl,e1,rfl⟩:=BC e;unfold E7 at e1;split at e1
 ·rename_i q;obtain⟨rfl,hd⟩:=q;cases hs:E5 a with
  |none=>rw[hs] at e1;cases e1
  |some a2=>
   rw[hs] at e1;injection e1 with e1;injection e1 with e2 e3
   subst e2;subst e3;refine⟨aL.1 aY,fun L hx=>?_⟩;generalize hv:eJ a=v at hx;cases hx with
   |CI b hb cf c hj=>have:=DS _ _ hv;subst this;exact⟨273,by omega,aL.1 aY,PE,fun B mc=>aem mc hd hj hs⟩
 ·cases e1
theorem af6(hP:bB pg)(h:aV L):aV<|YT::L:=by
 refine Ea rD hP gL pW ir gZ kG ki h (W9 hP) Tryz.func55 (body:=aW pg 55 []) aY aY fun v rest y v' e=>?_;obtain⟨a,a',rfl,e1,rfl⟩:=BC e;unfold CQ at e1;split at e1
 ·rename_i x;split at e1
  ·rename_i hd;cases hs:BS a x with
   |none=>rw[hs] at e1;cases e1
   |some a2=>
    rw[hs] at e1;injection e1 with e1;injection e1 with e2 e3
    subst e2;subst e3;refine⟨aL.1 aY,fun L hx=>?_⟩;generalize hv:eJ a=v at hx;cases hx with
    |CI b hb cf c hj=>have:=DS _ _ hv;subst this;exact⟨273,by omega,aL.1 aY,PE,fun B mc=>af4 mc hd hj hs⟩
  ·cases e1
 ·cases e1
end
end uL
end
section
open Go Go.Rn Go.RowKit Go.Proofs
namespace YU
open cr fQ fc hI LC yO yN EW fF cS dL dj dA gF fT ia ig iv iF iw iG iT iU jH jN kK lr mg jU gK jq og pn kJ po pq sB ql wE uL
variable {B:aJ} {vars:Int} {tx:List St} {q G m2 c2:Nat} {aH:List Int} {u2:AV} {bD:List Fr} {A2:MN}
noncomputable abbrev z9(tx:List St):AV:=.ab (nm (tx.map a9).flatten) 0 tx.length
theorem af7(mc:Mt [Fw,Ed,EX,oO 60,zQ] B)(hv:vars<1\/vars>32):av pg B 270 (Rn.Fin pg (aA Tryz.f23) fun y _=>y= .tuple [.ptr none,.int .i64 1]) (sF 23 Tryz.f23 [(z9 tx),(i6 vars),(.ab G q aH.length)])<|aj aq 270:=wS mc (.st 5<|.rg<|.go 1<|.fk (.go 5<|.en<|.rt 4 .no)<|.go 2<|.fk (.go 2<|.en<|.rt 4 .no)<|.no)<|ax (vars<1) (fun _=>(show((.tuple [(.ptr none),(i6<|.ofNat 1)]):AV)= .tuple [.ptr none,.int .i64 1] from rfl)) fun _=>(ax (vars>32) (fun _=>(show((.tuple [(.ptr none),(i6<|.ofNat 1)]):AV)= .tuple [.ptr none,.int .i64 1] from rfl)) eM)
theorem aeo(mc:Mt [Fw,Ed,EX,oO 60,zQ] B)(uE:bp (ba Ak) [(z9 tx),.int .i64 (aH.length:Int)]=some (.bool false))(hv:1<=vars/\vars<=32):av pg B 270 (Rn.Fin pg (aA Tryz.f23) fun y _=>y= .tuple [.ptr none,.int .i64 4]) (sF 23 Tryz.f23 [(z9 tx),(i6 vars),(.ab G q aH.length)])<|aj aq 270:=wS mc (.st 5<|.rg<|.go 1<|.fk (.no)<|.go 2<|.fk (.no)<|.go 2<|.en<|.st 2<|.rg<|.go 3<|.kn (.bool false)<|.go 2<|.en<|.rt 4 .no)<|ax (vars<1) eM fun _=>(ax (vars>32) eM fun _=>(ai uE (show((.tuple [(.ptr none),(i6<|.ofNat 4)]):AV)= .tuple [.ptr none,.int .i64 4] from rfl)))
noncomputable abbrev ED(A2:MN)(m2 c2:Nat)(u2:AV)(bD:List Fr):List<|Nat×Option ae:=aq++[(270,some<|.cells 13 (Tr.fill (A2.row (.ptr<|some (271,0)) (.slice (some (272,0)) (m2)<|.ar c2 13)<|i6 A2.steps) 0 .nil) []),(271,some<|.tok 3 u2),(272,some<|aI aS bD)]
theorem ajw(mc:Mt [Fw,Ed,EX,oO 60,zQ] B):av pg B 270 (Rn.Fin pg (aA Tryz.f23) fun y s'=>y= .tuple [.ptr<|some (270,0),.int .i64 0]/\∀m o,(m,o)∈dP 270 3 (⟨⟨A2.pre,m2,(.ar c2 13),[(i6 A2.steps)]⟩,u2,(bD.map aS).flatten⟩:VS)->s'.h.get m=some o) (⟨23,aP [(6,(.ptr<|some (270,0))),(7,i0)],34,(dq 23 [1,1,1,1,1]),[],none⟩:AF)<|aj (ED A2 m2 c2 u2 bD) 273:=wS mc (.rt 1 .no)<|nX (st:=(⟨⟨A2.pre,m2,(.ar c2 13),[(i6 A2.steps)]⟩,u2,(bD.map aS).flatten⟩:VS)) (s:=aj (aq++[(270,some<|.cells 13 (Tr.fill (A2.row (.ptr<|some (271,0)) (.slice (some (272,0)) (m2)<|.ar c2 13)<|i6 A2.steps) 0 .nil) []),(271,(some<|.tok 3 u2)),(272,(some<|aI aS bD))]) 273) (show((.tuple [(.ptr<|some (270,0)),i0]):AV)= .tuple [.ptr<|some (270,0),.int .i64 0] from rfl) cn cn cn
noncomputable abbrev Ce(vars:Int)(aH:List Int)(tx:List St):VS:=(⟨⟨[(i6 vars),(.ab (nm (aH.map aG).flatten) 0 aH.length),i0,i0,i0,i0,i0,i0,i0,i0],1,(.ar 1 13),[.int .i64 0]⟩,(cv [[]]),(([(⟨tx,0,0,false,[0,0,0,0,0,0,0,0],none⟩:Fr)]).map aS).flatten⟩:VS)
noncomputable abbrev Qe(u2:AV)(A2:MN)(m2 c2:Nat)(bD:List Fr):List<|Nat×Option ae:=aq++[(270,(some<|.tok 3 u2)),(271,some<|.cells 13 (Tr.fill (A2.row (.ptr<|some (270,0)) (.slice (some (274,0)) (m2)<|.ar c2 13)<|i6 A2.steps) 0 .nil) []),(274,(some<|aI aS bD))]
theorem Lg(mc:Mt [Fw,Ed,EX,oO 60,zQ] B)(uE:bp (ba Ak) [(z9 tx),.int .i64 (aH.length:Int)]=some (.bool true))(hv:1<=vars/\vars<=32)(nC:bp (ba B7) [(.ab G q aH.length)]=some (.ab (nm (aH.map aG).flatten) 0 aH.length))(So:bp (ba<|qJ 60) [(z9 tx)]=some (z9 tx))(II:lN QB []=some (some<|cv [[]],fun p=>p))(hlen:bD.length<=1000000)(pj:(AV.ab A2.G A2.q A2.lg).cq=true)(k0:bQ 10 (Ce vars aH tx)=true)(k1:ep fh (Ce vars aH tx) []=some (.tuple [],(⟨⟨A2.pre,m2,(.ar c2 13),[.int .i64 A2.steps]⟩,u2,(bD.map aS).flatten⟩:VS)))(k2:bQ 10 (⟨⟨A2.pre,m2,(.ar c2 13),[.int .i64 A2.steps]⟩,u2,(bD.map aS).flatten⟩:VS)=true):av pg B 270 (Rn.Fin pg (aA Tryz.f23) fun y s'=>y= .tuple [.ptr<|some (270,0),.int .i64 0]/\∀m o,(m,o)∈dP 270 3 (⟨⟨A2.pre,m2,(.ar c2 13),[(i6 A2.steps)]⟩,u2,(bD.map aS).flatten⟩:VS)->s'.h.get m=some o) (sF 23 Tryz.f23 [(z9 tx),(i6 vars),(.ab G q aH.length)])<|aj aq 270:=by have ht:top=549755813888:=rfl;exact wC mc (C:=(fun fr s1 _=>fr=(⟨23,aP [(6,(.ptr<|some (270,0))),(7,i0)],34,(dq 23 [1,1,1,1,1]),[],none⟩:AF)/\s1=(aj (ED A2 m2 c2 u2 bD) 273))) (fun fr s1 p hC=>by obtain⟨rfl,rfl⟩:=hC;exact ajw mc) (.st 5<|.rg<|.go 1<|.fk (.no)<|.go 2<|.fk (.no)<|.go 2<|.en<|.st 2<|.rg<|.go 3<|.kn (.bool true)<|.go 2<|.en<|.st 4<|.rg<|.go 2<|.kn (.ab (nm (aH.map aG).flatten) 0 aH.length)<|.nt (some<|cv [[]]) (fun p=>p)<|.go 3<|.en<|.st 1<|.rg<|.go 2<|.kn (z9 tx)<|.go 1<|.il<|.st 4<|.rg<|.go 1<|.cg (.tuple []) (LD 270 dV eB 3 271 270 274 (⟨⟨A2.pre,m2,(.ar c2 13),[.int .i64 A2.steps]⟩,u2,(bD.map aS).flatten⟩:VS)) (HI 270 dV eB 3 271 270 274<|Ce vars aH tx)<|.en<|.rt 1<|.en<|.st 2<|.rn [(6,(.ptr<|some (271,0))),(7,i0)] (Qe u2 A2 m2 c2 bD) [(6,(.ptr<|some (270,0))),(7,i0)] (ED A2 m2 c2 u2 bD) 275 273 .no)<|ax (vars<1) eM fun _=>(ax (vars>32) eM fun _=>(ai uE<|ai nC<|ai II<|ai So<|ai (Pw (P:=pg) (F:=FU) (sp:=sp [Fw,Ed,EX,oO 60,zQ]) (g:=72) (U:=270) (h0:=dV) (ns:=eB) (rest:=[]) (n:=5) (kp:=10) (k:=3) (val:=ep fh) (a:=271) (r1:=270) (r2:=274) (st:=(Ce vars aH tx)) (bq:=(⟨⟨A2.pre,m2,(.ar c2 13),[.int .i64 A2.steps]⟩,u2,(bD.map aS).flatten⟩:VS)) (y:=.tuple []) cn cn cn cn rfl k0 k1 cn k2)<|ahu (a:=bt<|dY ((Ce vars aH tx)).R 270 274) (b:=.tok 3 ((Ce vars aH tx)).u) (c:=bt ((Ce vars aH tx)).row)<|ai (mS [(6,(.ptr<|some (271,0))),(7,i0)])<|ai (mO<|Qe u2 A2 m2 c2 bD)<|ai (show gY FU 270 275 [(6,(.ptr<|some (271,0))),(7,i0)] (Qe u2 A2 m2 c2 bD) [(6,(.ptr<|some (270,0))),(7,i0)] (ED A2 m2 c2 u2 bD) 273 from Ct (ps:=[(270,271),(271,270),(272,274)]) (lo:=270) (bF:=275) ah cn cn (fun r hr ht=>⟨⟨by unfold top;omega,_,(mi 0),((bz.ptr<|rq hr)).z⟩,⟨⟨by unfold top;omega,_,(mi 1),vi⟩,trivial⟩⟩) fun r hr ht=>⟨mq (mi 1) (rq hr) qH<|KW (l:=[(i6 A2.vars),(.ab A2.G A2.q A2.lg),(i6 A2.x0),(i6 A2.x1),(i6 A2.x2),(i6 A2.x3),(i6 A2.x4),(i6 A2.x5),(i6 A2.x6),(i6 A2.x7),(.ptr<|some (270,0)),(.slice (some (274,0)) (m2)<|.ar c2 13),(i6 A2.steps)]) (m:=[(i6 A2.vars),(.ab A2.G A2.q A2.lg),(i6 A2.x0),(i6 A2.x1),(i6 A2.x2),(i6 A2.x3),(i6 A2.x4),(i6 A2.x5),(i6 A2.x6),(i6 A2.x7),(.ptr<|some (271,0)),(.slice (some (272,0)) (m2)<|.ar c2 13),(i6 A2.steps)]) ⟨vi,⟨((Hj ht (by first|rfl|exact aL.2 (cU _)|assumption))).z,⟨vi,⟨vi,⟨vi,⟨vi,⟨vi,⟨vi,⟨vi,⟨vi,⟨((bz.ptr<|rq hr)).z,⟨((bz.slice<|rq hr)).z,⟨vi,trivial⟩⟩⟩⟩⟩⟩⟩⟩⟩⟩⟩⟩⟩,⟨mq (mi 0) (rq hr) (fm.refl _) G5,⟨mq (mi 2) (rq hr) (fm.refl _)<|G2 ht hlen,trivial⟩⟩⟩) (show(⟨23,aP [(6,(.ptr<|some (270,0))),(7,i0)],34,(dq 23 [1,1,1,1,1]),[],none⟩:AF)=(⟨23,aP [(6,(.ptr<|some (270,0))),(7,i0)],34,(dq 23 [1,1,1,1,1]),[],none⟩:AF)/\(aj (ED A2 m2 c2 u2 bD) 273)=(aj (ED A2 m2 c2 u2 bD) 273) from⟨rfl,rfl⟩)))
end YU
end
section
open Go Go.Rn Go.RowKit Go.Proofs
namespace Ao
open cr fQ fc hI LC yO n9 nV uH qR AG yN EW fF cS dL dj dA gF fT ia ig iv iF iw iG iT iU jH jN kK lr mg jU gK jq og pn kJ po pq sB ql wE uL YU
variable {p:Option AV×(AV->AV)}
noncomputable section
theorem vU(l:List St):nm (bC l)=nm (l.map a9).flatten:=by rw[vu]
def Cv(tx:List St):Fr:=⟨tx,0,0,false,Z8,none⟩
def m9(e:Int)(p:AV):AV:=.tuple [p,.int .i64 e]
def Ap(args:List AV)(p:Option AV×(AV->AV)):Prop:=∃(tx:List St) (vars:Int) (aH:List Int) (G q:Nat),args=[.ab (nm (tx.map a9).flatten) 0 tx.length,.int .i64 vars,.ab G q aH.length]/\di aG 1 (.ab G q aH.length) aH/\aH.length<=1000/\(((vars<1\/vars>32)/\p=(none,m9 1))\/((1<=vars/\vars<=32)/\sb 60 tx=true/\ll 60 tx=true/\∃b,AH tx (aH.length:Int) b/\((b=false/\p=(none,m9 4))\/(b=true/\qS 60 tx=true/\∃st bb,lX 1000 [Cv tx] [[]]=some (st,bb)/\p=(some<|eJ ⟨vars,aH,Z8,bb,st.reverse,0⟩,m9 0)))))
theorem aep{l:List St}{n:Int}{b b':Bool}(h:AH l n b)(h':AH l n b'):b=b':=by
 obtain⟨c1,c2,p,a1,a2,a3⟩:=h;obtain⟨c1',c2',p',b1,b2,b3⟩:=h';rw[a1] at b1;injection b1 with b1;injection b1 with _ q1 q2 _
 injection q1 with _ q1;injection q2 with _ q2
 rw[a2] at b2;injection b2 with b2
 rw[a3,b3,q1,q2,b2]
theorem Ap.bR{args:List AV}{p':Option AV×(AV->AV)}(h:Ap args p)(h':Ap args p'):p=p':=by
 obtain⟨tx,vars,aH,G,q,rfl,i1,_,h⟩:=h;obtain⟨tx',vars',YB,G',q',e,i2,_,h'⟩:=h';simp only[List.cons.injEq,AV.ab.injEq,AV.int.injEq,true_and,_root_.and_true] at e;obtain⟨⟨e1,e2⟩,rfl,rfl,rfl,e3⟩:=e;rw[←vU, ←vU] at e1;have e1:=tH _ _<|tZ (lU _) (lU _) e1;subst e1;rw[←e3] at i2;have e4:=di.inj rR i1 (by rw[e3] at i2 ⊢;exact i2);subst e4;rcases h with⟨a,rfl⟩|⟨a,_,_,b,m,h⟩<;>rcases h' with⟨a',rfl⟩|⟨a',_,_,b',m',h'⟩
 ·rfl
 ·omega
 ·omega
 ·have eb:=aep m m';subst eb;rcases h with⟨x,rfl⟩|⟨x,_,st,bb,s1,rfl⟩<;>rcases h' with⟨x',rfl⟩|⟨x',_,bq,bb',s2,rfl⟩
  ·rfl
  ·rw[x] at x';cases x'
  ·rw[x] at x';cases x'
  ·rw[s1] at s2;injection s2 with s2;injection s2 with g1 g2
   rw[g1,g2]
open Classical in
def yz(args:List AV):Option<|Option AV×(AV->AV):=if h:∃p,Ap args p then some h.choose else none
theorem ac6{args:List AV}(h:yz args=some p):Ap args p:=by
 unfold yz at h;split at h
 ·rename_i q;injection h with h;rw[←h];exact q.choose_spec
 ·cases h
theorem Vr{args:List AV}(h:Ap args p):yz args=some p:=by unfold yz;have q:∃p,Ap args p:=⟨p,h⟩;rw[dif_pos q];exact congrArg some<|Ap.bR q.choose_spec h
def XY:FuncId×KE:=(23,.new 4 yz)
theorem aeq(tx:List St):iy [Cv tx]:=fun f hf=>by rw[List.mem_singleton] at hf;subst hf;exact⟨⟨by show(0:Int)<=0;omega,by show(0:Int)<=1000000;omega⟩,rfl⟩
theorem aer(hP:bB pg){L:bU}(h:aV L):aV<|XY::L:=by
 refine J7 rD hP gL (aL.1 aY) ir gZ h (afG hP<|abY hP<|aef hP<|Uz hP 60<|TO hP cO) Tryz.func23 (body:=aW pg 23 []) aY aY fun args p e=>?_;obtain⟨tx,vars,aH,G,q,rfl,i1,hl,h⟩:=ac6 e;have cq:[AV.ab (nm (tx.map a9).flatten) 0 tx.length,.int .i64 (aH.length:Int)].all AV.hi=true:=by rw[List.all_cons, ←vU,uf];rfl
 have hm:∀b,sb 60 tx=true->ll 60 tx=true->AH tx (aH.length:Int) b->bp (ba Ak) [.ab (nm (tx.map a9).flatten) 0 tx.length,.int .i64 (aH.length:Int)]=some (.bool b):=fun b h1 h2 h3=>fu (ff Ak.bR ⟨tx,_,b,by rw[vU],h1,h2,h3,rfl⟩) cq rfl;refine⟨aL.1 aY,fun e0 B mc=>?_,fun v e0=>?_⟩
 ·rw[←gN];rcases h with⟨a,rfl⟩|⟨a,d1,d2,b,m,h⟩
  ·exact af7 mc a
  ·rcases h with⟨rfl,rfl⟩|⟨_,_,_,_,_,rfl⟩
   ·exact aeo mc (hm _ d1 d2 m) a
   ·cases e0
 ·rcases h with⟨a,rfl⟩|⟨a,d1,d2,b,m,h⟩
  ·cases e0
  rcases h with⟨rfl,rfl⟩|⟨rfl,gc,st,bb,hs,rfl⟩
  ·cases e0
  injection e0 with e0
  subst e0;refine⟨v9.RZ rfl,fun B mc=>?_⟩;rw[←gN];let A:MN:=⟨vars,nm (aH.map Ag).flatten,0,aH.length,aH,0,0,0,0,0,0,0,0,0⟩;have m0:ey A 1 1 [Cv tx] [[]]:=⟨di.aD MF aH,P1,aeq tx,Nat.le_refl 1,Nat.le_refl 1,by show 1<=1000000;omega,a⟩;obtain⟨n',da,d⟩:=tS (st:=[Cv tx]) m0 rfl hs;have nC:bp (ba B7) [.ab G q aH.length]=some (.ab (nm (aH.map aG).flatten) 0 aH.length):=fu (ff B7.bR ⟨G,q,aH,rfl,i1,by omega,rfl⟩) (by rw[List.all_cons,i1.hi];rfl) (di.aD eI aH).hi;have So:bp (ba<|qJ 60) [.ab (nm (tx.map a9).flatten) 0 tx.length]=some (.ab (nm (tx.map a9).flatten) 0 tx.length):=fu (ff qJ.bR ⟨tx,by rw[vU],gc,by rw[vU]⟩) (by rw[List.all_cons, ←vU,uf];rfl) (by rw[←vU];exact uf tx);have ok:B3 ⟨vars,aH,Z8,bb,st.reverse,0⟩:=by refine⟨rfl,d.fO.buf,?_,hl,a⟩;show st.reverse.length<=1000;rw[←d.eq,List.reverse_reverse,List.length_take];have:=d.le;omega
  have key:=Lg (vars:=vars) (G:=G) (q:=q) (tx:=tx) (aH:=aH) (A2:=A) (m2:=n') (c2:=1) (u2:=cv bb) (bD:=da) mc (hm _ d1 d2 m) a nC So rfl d.fO.len d.fO.aH.cq Q5 Q5 Q5;have e1:da.take n'=st.reverse:=by rw[←d.eq,List.reverse_reverse]
  have fC:(st.reverse).length=n':=by rw[←e1,List.length_take];have:=d.fO.nL;omega
  have e2:da=st.reverse++da.drop n':=by rw[←e1,List.take_append_drop]
  refine Ri (Nat.le_refl _) (YR fun y1 s' q=>⟨q.1,o8 ⟨vars,aH,Z8,bb,st.reverse,0⟩ (da.drop n') 1,XT.CI _ ok _ _ ⟨by rw[fC];exact d.fO.rG,by rw[←e2];exact d.fO.len,fun f hf=>d.fO.ov f<|List.mem_of_mem_drop hf⟩,?_⟩) key;have hx:=q.2;have e3:=Vp ⟨vars,aH,Z8,bb,st.reverse,0⟩ (da.drop n') 1;rw[←e3];show ∀m o,(m,o)∈dP 270 3 (dx _ (st.reverse).length 1 (st.reverse++da.drop n') bb)->_;rw[fC, ←e2];exact hx
end
end Ao
end
section
open Go Go.Rn Go.RowKit Go.Proofs
namespace HL
open cr dj fQ fc hI kJ zk yO cS Rc Ao
variable {p:Option AV×(AV->AV)}
noncomputable section
def Aq(args:List AV)(p:Option AV×(AV->AV)):Prop:=∃(init:List Int) (N o:Nat) (st dU:Int),args=[.ab N o init.length,.int .i64 st,.int .i64 dU]/\di aG 1 (.ab N o init.length) init/\
  ((((init.length:Int)<1\/(init.length:Int)>32\/st<1\/st>(init.length:Int)\/dU<0\/dU>1099511627776)/\p=(none,m9 1))\/
   ((1<=init.length/\init.length<=32/\1<=st/\st<=(init.length:Int)/\0<=dU/\dU<=1099511627776)/\p=(some<|aX ⟨List.replicate st.toNat ⟨-1,0⟩,0,dU,init⟩,m9 0)))
theorem Aq.bR{args:List AV}{p':Option AV×(AV->AV)}(h:Aq args p)(h':Aq args p'):p=p':=by
 obtain⟨init,N,o,st,dU,rfl,i1,h⟩:=h;obtain⟨anU,N',o',bq,an4,e,i2,h'⟩:=h';simp only[List.cons.injEq,AV.ab.injEq,AV.int.injEq,true_and,_root_.and_true] at e;obtain⟨⟨rfl,rfl,e3⟩,rfl,rfl⟩:=e;rw[←e3] at i2;have e4:=di.inj rR i1 (by rw[e3] at i2 ⊢;exact i2);subst e4;rcases h with⟨a,rfl⟩|⟨a,rfl⟩<;>rcases h' with⟨a',rfl⟩|⟨a',rfl⟩
 ·rfl
 ·omega
 ·omega
 ·rfl
open Classical in
def wg(args:List AV):Option<|Option AV×(AV->AV):=if h:∃p,Aq args p then some h.choose else none
theorem ac7{args:List AV}(h:wg args=some p):Aq args p:=by
 unfold wg at h;split at h
 ·rename_i q;injection h with h;rw[←h];exact q.choose_spec
 ·cases h
theorem Vs{args:List AV}(h:Aq args p):wg args=some p:=by unfold wg;have q:∃p,Aq args p:=⟨p,h⟩;rw[dif_pos q];exact congrArg some<|Aq.bR q.choose_spec h
def XZ:FuncId×KE:=(6,.new 2 wg)
theorem aes(hP:bB pg){L:bU}(h:aV L):aV<|XZ::L:=by
 refine J7 rD hP gL (aL.1 aY) ir gZ h cO Tryz.func6 (body:=aW pg 6 []) aY aY fun args p e=>?_;obtain⟨init,N,o,st,dU,rfl,i1,h⟩:=ac7 e;refine⟨aL.1 aY,fun e0 B mc=>?_,fun v e0=>?_⟩
 ·rw[←gN];rcases h with⟨a,rfl⟩|⟨a,rfl⟩
  ·exact afL mc a
  ·cases e0
 ·rcases h with⟨a,rfl⟩|⟨a,rfl⟩
  ·cases e0
  injection e0 with e0
  subst e0;refine⟨v9.RZ rfl,fun B mc=>?_⟩;rw[←gN];obtain⟨b1,b2,b3,b4,b5,b6⟩:=a;cases init with
  |nil=>exact absurd b1 (by show ¬(1<=0);omega)
  |cons x l=>
   have hf:cx FU N o ((l.length+1)*1)=some ((x::l).map aG).flatten:=by
    rcases J8 eI.len i1 with q|q
    ·exact q
    ·cases q
   have est:st=(st.toNat:Int):=by omega
   have b4':st.toNat<=l.length+1:=by rw[List.length_cons] at b4;omega
   have dm:ky ⟨List.replicate st.toNat ⟨-1,0⟩,0,dU,x::l⟩:=⟨⟨by show 1<=(List.replicate _ _).length;rw[List.length_replicate];omega,by show(List.replicate _ _).length<=32;rw[List.length_replicate];rw[List.length_cons] at b2;omega⟩,⟨b1,b2⟩,by show(0:Int)<=0;omega,b6⟩;have key:=afM (N:=N) (o:=o) (m:=l.length) (S:=st.toNat) (dU:=dU) (init:=x::l) ⟨by omega,by rw[List.length_cons] at b2;omega⟩ b2 b4' ⟨b5,b6⟩ i1.len.2.1 ⟨i1.len.2.1,hf,rfl⟩ mc dm;rw[←est] at key;exact key
end
end HL
end
section
open Go Go.Rn Go.RowKit Go.Proofs
namespace AL
open cr dj fQ fc hI zk cS fF dL jU lr iw iG pq ql uL iF kK
variable {L:bU} {S:Type} {rest:List AV} {f:S->List AV->Option AV} {enc:S->AV}
noncomputable section
def bJ(enc:S->AV)(f:S->List AV->Option AV)(v:AV)(rest:List AV):Option AV:=(eW enc (fun a r=>(f a r).map fun y=>(y,a)) v rest).map (·.1)
theorem O4(inj:∀a b,enc a=enc b->a=b){a:S}:bJ enc f (enc a) rest=f a rest:=by unfold bJ;rw[BM inj];cases f a rest<;>rfl
theorem Oy{v:AV}{y:AV}(h:bJ enc f v rest=some y):∃a,v=enc a/\f a rest=some y:=by
 unfold bJ at h;cases q:eW enc (fun a r=>(f a r).map fun y=>(y,a)) v rest with
 |none=>rw[q] at h;cases h
 |some p=>
  rw[q] at h;injection h with h;subst h
  obtain⟨y,v'⟩:=p;obtain⟨a,a',e1,e2,e3⟩:=BC q;refine⟨a,e1,?_⟩;cases q2:f a rest with
  |none=>rw[q2] at e2;cases e2
  |some z=>rw[q2] at e2;injection e2 with e2;injection e2 with e2 _;exact congrArg some e2
def Xa:FuncId×KE:=(38,.raw<|lQ 4<|bJ eJ fun a rest=>(mh a rest).map (·.1))
theorem ac9(hP:bB pg)(h:aV L):aV<|Xa::L:=by
 refine O3 rD hP gL pW ir gZ kG ki h (OY hP<|Eg hP<|G4 hP<|JW hP<|NL hP cO) Tryz.func38 (body:=aW pg 38 []) aY aY fun v rest y e=>?_;obtain⟨a,rfl,e1⟩:=Oy e;unfold mh at e1;split at e1
 ·rename_i q;obtain⟨rfl,hd⟩:=q;injection e1 with e1
  have e1:AK (fU a)=y:=e1;subst e1;refine⟨aL.1 aY,fun L hx=>?_⟩;generalize hv:eJ a=v at hx;cases hx with
  |CI b hb cf c hj=>have:=DS _ _ hv;subst this;exact⟨273,by omega,aL.1 aY,PE,fun B mc=>af5 mc hd hj⟩
 ·cases e1
def ui:cK->List AV->Option AV
 |a,[.int .i64 x0]=>some<|yd a x0
 |_,_=>none
def Wt:FuncId×KE:=(51,.raw<|lQ 2<|bJ aX ui)
theorem Bu{L0:bU}{g:Nat}{fn:Func}{F:cK->List AV->Option AV}(hP:bB pg)(h:aV L)(h0:aV L0)(ch:Tryz.prog.funcs[g]? =some fn)(H:∀a rest y,F a rest=some y->max fn.ntmps (rest.length+1)<=top/\∀B c1 c2,Mt L0 B->ky a->uu B g (max fn.ntmps<|rest.length+1) fn.results.toList a c1 c2 rest y (aX a))(cw:fn.body=some (aW pg g []):=by kernel_rfl)(hn:(fn.name == "runtime.NumGoroutine")=false:=by kernel_rfl):aV<|(g,.raw<|lQ 2<|bJ aX F)::L:=by
 refine O3 rD hP gL pW ir gZ kG ki h h0 ch cw hn fun v rest y e=>?_;obtain⟨a,rfl,e1⟩:=Oy e;obtain⟨q1,q2⟩:=H a rest y e1;refine⟨q1,fun L hx=>?_⟩;generalize hv:aX a=v at hx;cases hx with
 |heap b hb c1 c2=>have:=Gz _ _ hv;subst this;exact⟨273,by omega,aL.1 aY,gV,fun B mc=>q2 B c1 c2 mc hb⟩
theorem ab3(hP:bB pg)(h:aV L):aV<|Wt::L:=Bu hP h cO Tryz.func51 fun a rest y e=>by unfold ui at e;split at e<;>cases e;exact⟨aL.1 aY,fun B c1 c2 mc hb=>aff mc hb⟩
def rT:cK->List AV->Option AV
 |a,[.int .i64 x0]=>some<|zI a x0
 |_,_=>none
def UD:FuncId×KE:=(52,.raw<|lQ 2<|bJ aX rT)
theorem aaT(hP:bB pg)(h:aV L):aV<|UD::L:=Bu hP h cO Tryz.func52 fun a rest y e=>by unfold rT at e;split at e<;>cases e;exact⟨aL.1 aY,fun B c1 c2 mc hb=>acL mc hb⟩
def Hs:cK->List AV->Option AV
 |a,[.int .i64 x0]=>some<|z6 a x0
 |_,_=>none
def Wu:FuncId×KE:=(54,.raw<|lQ 2<|bJ aX Hs)
theorem ab4(hP:bB pg)(h:aV L):aV<|Wu::L:=Bu hP h cO Tryz.func54 fun a rest y e=>by unfold Hs at e;split at e<;>cases e;exact⟨aL.1 aY,fun B c1 c2 mc hb=>afg mc hb⟩
def EE:cK->List AV->Option AV
 |a,[]=>some<|KG a
 |_,_=>none
def Wv:FuncId×KE:=(46,.raw<|lQ 2<|bJ aX EE)
theorem ab5(hP:bB pg)(h:aV L):aV<|Wv::L:=Bu hP h cO Tryz.func46 fun a rest y e=>by unfold EE at e;split at e<;>cases e;exact⟨aL.1 aY,fun B c1 c2 mc hb=>afh mc hb⟩
def pa:cK->List AV->Option AV
 |a,[]=>some<|LA a
 |_,_=>none
def Xb:FuncId×KE:=(28,.raw<|lQ 2<|bJ aX pa)
theorem ada(hP:bB pg)(h:aV L):aV<|Xb::L:=Bu hP h cO Tryz.func28 fun a rest y e=>by unfold pa at e;split at e<;>cases e;exact⟨aL.1 aY,fun B c1 c2 mc hb=>ag6 mc hb⟩
def oB:cK->List AV->Option AV
 |a,[]=>some<|JQ a
 |_,_=>none
def UE:FuncId×KE:=(29,.raw<|lQ 2<|bJ aX oB)
theorem aaU(hP:bB pg)(h:aV L):aV<|UE::L:=Bu hP h cO Tryz.func29 fun a rest y e=>by unfold oB at e;split at e<;>cases e;exact⟨aL.1 aY,fun B c1 c2 mc hb=>acM mc hb⟩
def ni:cK->List AV->Option AV
 |a,[.int .i64 x0]=>some<|zO a x0
 |_,_=>none
def Vt:FuncId×KE:=(11,.raw<|lQ 2<|bJ aX ni)
theorem abf(hP:bB pg)(h:aV L):aV<|Vt::L:=Bu hP h cO Tryz.func11 fun a rest y e=>by unfold ni at e;split at e<;>cases e;exact⟨aL.1 aY,fun B c1 c2 mc hb=>adW mc hb hb.1.1⟩
end
end AL
end
section
open Go Go.Rn Go.RowKit Go.Proofs
namespace CR
open cr fQ fc hI n9 nV AG Cs yN EW fF cS dL F7 dj dA gF fT ia ig iv iF iw iG iT iU jH jN kK lr mg jU gK jq pq sB ql wE uL
def Fa:St->Int| .mk _ t _ _ _ _=>t
def ox:Nat->List St->Prop
 |0,l=>l=[]
 |d+1,l=>l.length<=1000000/\∀s∈l,(1<=iR s/\iR s<=8)/\(0<=Fa s/\Fa s<8)/\ox d (ct s)/\ox d (cm s)
theorem Ww:∀d,ox d []
 |0=>rfl
 |d+1=>⟨Nat.zero_le _,fun s h=>by cases h⟩
def pG:List Fr->Nat
 |[]=>0
 |f::r=>pG r+(if f.aU=true then 1 else 0)
def wF:List Fr->Prop
 |[]=>True
 |f::r=>ox (6 - r.length) f.block/\(0<=f.au/\f.au<=(f.block.length:Int))/\(0<=f.turns/\f.turns<=7)/\f.kept.length=8/\(f.aU=true->r≠[]/\∃ol,f.other=some ol/\ox (6 - r.length) ol)/\wF r
structure Inv (st:List Fr) (b:bA):Prop where
 wf:wF st
 len:b.length=pG st+1
 buf:fy b
theorem af9{d:Nat}{l:List St}(h:ox d l):l.length<=1000000:=by
 cases d with
 |zero=>have:l=[]:=h;subst this;exact Nat.zero_le _
 |succ d=>exact h.1
def wG:List Fr->Nat
 |[]=>0
 |f::r=>wG r+f.turns.toNat+1
theorem Gm:∀(k:Nat) (st:List Fr) (b:bA),Inv st b->wG st<k->∃bq b',lX k st b=some (bq,b')/\Inv bq b'/\bq.length<=st.length
 |0,_,_,_,h=>by omega
 |k+1,[],b,hi,_=>⟨[],b,rfl,hi,Nat.le_refl _⟩
 |k+1,f::r,b,hi,hm=>by
  obtain⟨⟨h1,h2,h3,h4,h5,h6⟩,hl,hb⟩:=hi;unfold lX;by_cases c1:f.au<(f.block.length:Int)
  ·rw[if_pos c1];exact⟨_,_,rfl,⟨⟨h1,h2,h3,h4,h5,h6⟩,hl,hb⟩,Nat.le_refl _⟩
  ·rw[if_neg c1];by_cases c2:0<f.turns
   ·rw[if_pos c2];have i2:Inv ({f with au:=0,turns:=f.turns - 1}::r) b:=⟨⟨h1,⟨by show(0:Int)<=0;omega,by show(0:Int)<=_;omega⟩,⟨by show 0<=f.turns - 1;omega,by show f.turns - 1<=7;omega⟩,h4,h5,h6⟩,hl,hb⟩;by_cases c3:0<(f.block.length:Int)
    ·rw[if_pos c3];exact⟨_,_,rfl,i2,Nat.le_refl _⟩
    ·rw[if_neg c3];exact Gm k _ b i2 (by show wG r+(f.turns - 1).toNat+1<k;have:wG (f::r)=wG r+f.turns.toNat+1:=rfl;omega)
   ·rw[if_neg c2];have eD:wG r<k:=by have:wG (f::r)=wG r+f.turns.toNat+1:=rfl;omega
    have hlen:b.length=pG r+(if f.aU=true then 1 else 0)+1:=hl;by_cases c4:f.aU=true
    ·rw[if_pos c4];rw[if_pos c4] at hlen;have c5:2<=b.length:=by omega
     rw[if_pos c5];obtain⟨bq,b',e,i,l⟩:=Gm k r (gU b) ⟨h6,by have:=Ji b c5;omega,JV hb c5⟩ eD;exact⟨bq,b',e,i,by rw[List.length_cons];omega⟩
    ·rw[if_neg c4];rw[if_neg c4] at hlen;obtain⟨bq,b',e,i,l⟩:=Gm k r b ⟨h6,hlen,hb⟩ eD;exact⟨bq,b',e,i,by rw[List.length_cons];omega⟩
theorem PF:∀{st:List Fr},wF st->wG st<=8*st.length
 |[],_=>Nat.le_refl _
 |f::r,h=>by have:=PF h.2.2.2.2.2;have h3:=h.2.2.1;show wG r+f.turns.toNat+1<=8*(r.length+1);omega
theorem Xc:∀{st:List Fr},wF st->pG st+1<=st.length\/pG st=0
 |[],_=>.inr rfl
 |f::r,h=>by
  rcases Xc h.2.2.2.2.2 with q|q
  ·left;show pG r+(if f.aU=true then 1 else 0)+1<=r.length+1;split<;>omega
  ·by_cases c:f.aU=true
   ·obtain⟨hr,_⟩:=h.2.2.2.2.1 c;left;show pG r+(if f.aU=true then 1 else 0)+1<=r.length+1;rw[if_pos c];cases r with
    |nil=>exact absurd rfl hr
    |cons a r=>rw[List.length_cons];omega
   ·right;show pG r+(if f.aU=true then 1 else 0)=0;rw[if_neg c];exact q
structure mj (a:dQ):Prop where
 inv:Inv a.fs.reverse a.b
 l:a.l.length=8
 top:a.fs.reverse=[]\/∃f r,a.fs.reverse=f::r/\f.au<(f.block.length:Int)
 aH:a.aH.length<=1000
 vars:1<=a.vars/\a.vars<=32
theorem Ht{f:Fr}{r:List Fr}(h:wF<|f::r)(ht:f.au<(f.block.length:Int)):∃d s,6 - r.length=d+1/\f.block[f.au.toNat]? =some s/\(1<=iR s/\iR s<=8)/\(0<=Fa s/\Fa s<8)/\ox d (ct s)/\ox d (cm s):=by
 have h0:=h.2.1.1;have cF:f.au.toNat<f.block.length:=by omega
 have hb:=h.1;cases e:6 - r.length with
 |zero=>rw[e] at hb;have:f.block=[]:=hb;rw[this] at cF;simp at cF
 |succ d=>rw[e] at hb;obtain⟨q1,q2,q3,q4⟩:=hb.2 _<|List.getElem_mem cF;exact⟨d,_,rfl,List.getElem?_eq_getElem cF,q1,q2,q3,q4⟩
theorem Xd:∀{st:List Fr},wF st->∀f∈st,((0<=f.turns/\f.turns<=1000000)/\f.kept.length=8)/\(0<=f.au/\f.au<=1000000)
 |[],_,f,h=>by cases h
 |g::r,h,f,hf=>by
  rcases List.mem_cons.1 hf with rfl|hf
  ·have:=af9 h.1;have:=h.2.1;have:=h.2.2.1;exact⟨⟨by omega,h.2.2.2.1⟩,by omega⟩
  ·exact Xd h.2.2.2.2.2 f hf
section
variable {a:dQ}
theorem mj.jc(h:mj a):a.fs.length<=6:=by
 rw[←List.length_reverse];rcases h.top with e|⟨f,r,e,ht⟩
 ·rw[e];exact Nat.zero_le _
 ·rw[e];have hw:=h.inv.wf;rw[e] at hw;obtain⟨d,_,hd,_⟩:=Ht hw ht;rw[List.length_cons];omega
theorem mj.b6(h:mj a):a.b.length<=6:=by have h6:=h.jc;rw[←List.length_reverse] at h6;have:=h.inv.len;rcases Xc h.inv.wf with q|q<;>omega
theorem mj.qk(h:mj a)(hs:0<=a.steps/\a.steps<=1000000000000):Good a:=by have hw:=Xd h.inv.wf;exact⟨⟨h.l,h.inv.buf,by have:=h.jc;omega,h.aH,h.vars⟩,fun f hf=>(hw f<|List.mem_reverse.2 hf).1,h.jc,h.b6,hs,fun f hf=>(hw f<|List.mem_reverse.2 hf).2⟩
theorem mj.ask(h:mj a)(hs:0<=a.steps/\a.steps<=1000000000000):Qc a:=by
 refine⟨h.qk hs,?_⟩;rcases h.top with e|⟨f,r,e,ht⟩
 ·exact .inl<|List.reverse_eq_nil_iff.1 e
 ·have hw:=h.inv.wf;rw[e] at hw;obtain⟨d,s,_,q,_⟩:=Ht hw ht;exact .inr ⟨f,r,s,e,hw.2.1.1,q⟩
end
theorem O5:∀{st:List Fr} {g:Fr} {r':List Fr},wF st->below st=some (g,r')->wF (g::r')/\g.aU=true/\pG st=pG r'+1/\r'.length<st.length
 |[],_,_,_,h=>by cases h
 |f::r,g,r',hw,h=>by
  unfold pq.below at h;by_cases c:f.aU=true
  ·rw[if_pos c] at h;injection h with h;injection h with h1 h2
   subst h1;subst h2;exact⟨hw,c,by show pG r+(if f.aU=true then 1 else 0)=_;rw[if_pos c],by rw[List.length_cons];omega⟩
  ·rw[if_neg c] at h;obtain⟨a1,a2,a3,a4⟩:=O5 hw.2.2.2.2.2 h;exact⟨a1,a2,by show pG r+(if f.aU=true then 1 else 0)=_;rw[if_neg c];exact a3,by rw[List.length_cons];omega⟩
theorem xJ{a:dQ}{st:List Fr}{b:bA}(hl:a.l.length=8)(hg:a.aH.length<=1000)(hv:1<=a.vars/\a.vars<=32)(hi:Inv st b)(hn:st.length<=8):∃a',fin a st b=some a'/\mj a'/\a'.steps=a.steps/\a'.vars=a.vars/\a'.aH=a.aH:=by
 have hm:=PF hi.wf;obtain⟨bq,b',e,i,l⟩:=Gm 1000 st b hi ah;refine⟨{a with fs:=bq.reverse,b:=b'},by unfold fin;rw[e],⟨?_,hl,?_,hg,hv⟩,rfl,rfl,rfl⟩
 ·show Inv bq.reverse.reverse b';rw[List.reverse_reverse];exact i
 ·show bq.reverse.reverse=[]\/∃f r,bq.reverse.reverse=f::r/\_;rw[List.reverse_reverse];exact DO _ _ _ _ _ e
theorem Jt(b:bA)(v x:Int):(mD b v x).length=b.length:=by
 rcases List.eq_nil_or_concat b with rfl|⟨l,m,rfl⟩
 ·rfl
 ·rw[List.concat_eq_append,TN,List.length_append,List.length_append];rfl
section
variable {a:dQ}
theorem UF(h:mj a):fU a=(1,0,0)\/(∃v,fU a=(2,v,0)/\0<=v/\v<a.vars)\/(∃x,fU a=(3,0,x))\/fU a=(4,0,0):=by
 unfold fU;rcases h.top with e|⟨f,r,e,ht⟩
 ·rw[e];exact .inr<|.inr<|.inl ⟨0,rfl⟩
 ·have hw:=h.inv.wf;rw[e] at hw ⊢;obtain⟨d,⟨kind,to,ea,eb,bd,el⟩,_,q,_⟩:=Ht hw ht;simp only[q]
  repeat' split
  ·exact .inr<|.inr<|.inl ⟨_,rfl⟩
  ·exact .inr<|.inr<|.inr rfl
  ·exact .inr<|.inl ⟨_,rfl,afV h.vars.1⟩
  ·exact .inl rfl
theorem OI(h:mj a)(hs:0<=a.steps/\a.steps<=1000000000000)(hk:fU a=(1,0,0)):O2 a/\∃a',E5 a=some a'/\mj a'/\a'.steps=a.steps+1/\a'.vars=a.vars/\a'.aH=a.aH:=by
 rcases h.top with e|⟨f,r,e,ht⟩
 ·exfalso;unfold fU at hk;rw[e] at hk;injection hk with q _;omega
 have hw:=h.inv.wf;have hlen:=h.inv.len;rw[e] at hw hlen;have h6:=h.jc;rw[←List.length_reverse,e,List.length_cons] at h6;obtain⟨d,⟨kind,to,ea,eb,bd,el⟩,hd,q,k1,k2,k3,k4⟩:=Ht hw ht;have k1:1<=kind/\kind<=8:=k1;have k2:0<=to/\to<8:=k2;have k3:ox d bd:=k3;have k4:ox d el:=k4;have jV:=hk;unfold fU at jV;rw[e] at jV;simp only[q] at jV;have n8:kind≠8:=fun c=>by rw[if_pos c] at jV;injection jV with z _;omega
 rw[if_neg n8] at jV;have n6:kind=6->below (f::r)≠none:=fun c z=>by rw[if_pos ⟨c,z⟩] at jV;injection jV with z _;omega
 have w1:wF<|{f with au:=f.au+1}::r:=⟨hw.1,⟨by show 0<=f.au+1;have:=hw.2.1.1;omega,by show f.au+1<=(f.block.length:Int);omega⟩,hw.2.2⟩;have i1:∀b:bA,fy b->b.length=a.b.length->Inv ({f with au:=f.au+1}::r) b:=fun b hb hl=>⟨w1,by rw[hl];exact hlen,hb⟩;have Sq:6 - (r.length+1)=d:=by omega
 have push:∀(g:Fr) (b:bA),ox d g.block->g.au=0->(0<=g.turns/\g.turns<=7)->g.kept.length=8->g.aU=false->fy b->b.length=a.b.length->Inv (g::{f with au:=f.au+1}::r) b:=fun g b g1 g2 g3 g4 g5 hb hl=>⟨⟨by rw[List.length_cons,Sq];exact g1,by rw[g2];omega,g3,g4,fun c=>(by rw[g5] at c;cases c),w1⟩,by show b.length=pG ({f with au:=f.au+1}::r)+(if g.aU=true then 1 else 0)+1;rw[g5,hl];exact hlen,hb⟩;refine⟨⟨h.qk hs,hk,f,r,kind,to,ea,eb,bd,el,e,q,⟨hw.2.1.1,fun _=>k2,fun c g r' hb=>?_⟩⟩,?_⟩
 ·obtain⟨b1,b2,b3,_⟩:=O5 hw hb;obtain⟨b4,_⟩:=b1.2.2.2.2.1 b2;exact⟨b4,by omega⟩
 ·unfold E5;rw[e];simp only[q];have l8:∀(z:Int),(a.l.set to.toNat z).length=8:=fun z=>by rw[List.length_set];exact h.l
  by_cases c1:kind=1
  ·rw[if_pos c1];exact xJ (a:={a with l:=a.l.set to.toNat<|gd a ea,steps:=a.steps+1}) (l8 _) h.aH h.vars (i1 _ h.inv.buf rfl) Ia
  rw[if_neg c1];by_cases c2:kind=2
  ·rw[if_pos c2];exact xJ (a:={a with l:=a.l.set to.toNat (lq a.b<|iV (gd a ea) a.vars).1,steps:=a.steps+1}) (l8 _) h.aH h.vars (i1 _ h.inv.buf rfl) Ia
  rw[if_neg c2];by_cases c3:kind=3
  ·rw[if_pos c3];exact xJ (a:={a with steps:=a.steps+1}) h.l h.aH h.vars (i1 _ (Ov h.inv.buf _ _)<|Jt _ _ _) Ia
  rw[if_neg c3];by_cases c4:kind=4
  ·rw[if_pos c4];exact xJ (a:={a with steps:=a.steps+1}) h.l h.aH h.vars (push _ _ (by show ox d (if _ then bd else el);split;exact k3;exact k4) rfl ⟨by show(0:Int)<=0;omega,by show(0:Int)<=7;omega⟩ rfl rfl h.inv.buf rfl) Q6
  rw[if_neg c4];by_cases c5:kind=5
  ·rw[if_pos c5];by_cases z:0<mA (gd a ea)
   ·rw[if_pos z];have:=Vq<|gd a ea;exact xJ (a:={a with steps:=a.steps+1}) h.l h.aH h.vars (push _ _ k3 rfl ⟨by show 0<=mA _ - 1;omega,by show mA _ - 1<=7;omega⟩ rfl rfl h.inv.buf rfl) Q6
   ·rw[if_neg z];exact xJ (a:={a with steps:=a.steps+1}) h.l h.aH h.vars (i1 _ h.inv.buf rfl) Ia
  rw[if_neg c5];by_cases c6:kind=6
  ·rw[if_pos c6];cases hb:below (f::r) with
   |none=>exact absurd hb<|n6 c6
   |some p=>
    obtain⟨⟨fb,fa,ft,fo,kept,oth⟩,r'⟩:=p;obtain⟨b1,b2,b3,b4⟩:=O5 hw hb;obtain⟨b5,ol,b6,b7⟩:=b1.2.2.2.2.1 b2;have b6:oth=some ol:=b6;subst b6;have Sn:kept.length=8:=b1.2.2.2.1;refine xJ (a:={a with l:=kept,steps:=a.steps+1}) Sn h.aH h.vars ⟨⟨b7,⟨by show(0:Int)<=0;omega,by show(0:Int)<=_;omega⟩,⟨by show(0:Int)<=0;omega,by show(0:Int)<=7;omega⟩,rfl,fun c=>(by cases c),b1.2.2.2.2.2⟩,?_,Py h.inv.buf ah⟩ ?_
    ·rw[List.length_dropLast];show _=pG r'+(if false=true then 1 else 0)+1;rw[if_neg (by intro c;cases c)];omega
    ·rw[List.length_cons];rw[List.length_cons] at b4;omega
  rw[if_neg c6];by_cases c7:kind=7
  ·rw[if_pos c7];have Z0:=h.b6;refine xJ (a:={a with steps:=a.steps+1}) h.l h.aH h.vars ⟨⟨by rw[List.length_cons,Sq];exact k3,⟨by show(0:Int)<=0;omega,by show(0:Int)<=_;omega⟩,⟨by show(0:Int)<=0;omega,by show(0:Int)<=7;omega⟩,h.l,fun _=>⟨(by intro c;cases c),el,rfl,by rw[List.length_cons,Sq];exact k4⟩,w1⟩,?_,Px h.inv.buf ah⟩ Q6;rw[List.length_append];show a.b.length+1=pG ({f with au:=f.au+1}::r)+(if true=true then 1 else 0)+1;rw[if_pos rfl,hlen];rfl
  ·exact absurd k1.2 ah
theorem aga(h:mj a)(hs:0<=a.steps/\a.steps<=1000000000000){v:Int}(hk:fU a=(2,v,0))(x:Int):Qd a/\∃a',BS a x=some a'/\mj a'/\a'.steps=a.steps+1/\a'.vars=a.vars/\a'.aH=a.aH:=by
 rcases h.top with e|⟨f,r,e,ht⟩
 ·exfalso;unfold fU at hk;rw[e] at hk;injection hk with q _;omega
 have hw:=h.inv.wf;have hlen:=h.inv.len;rw[e] at hw hlen;have h6:=h.jc;rw[←List.length_reverse,e,List.length_cons] at h6;obtain⟨d,⟨kind,to,ea,eb,bd,el⟩,hd,q,k1,k2,k3,k4⟩:=Ht hw ht;have k2:0<=to/\to<8:=k2;have w1:wF<|{f with au:=f.au+1}::r:=⟨hw.1,⟨by show 0<=f.au+1;have:=hw.2.1.1;omega,by show f.au+1<=(f.block.length:Int);omega⟩,hw.2.2⟩;refine⟨⟨h.qk hs,⟨v,hk⟩,f,r,kind,to,ea,eb,bd,el,e,hw.2.1.1,q,k2.1,k2.2⟩,?_⟩;unfold BS;rw[e];simp only[q];exact xJ (a:={a with l:=a.l.set to.toNat x,steps:=a.steps+1}) (by rw[List.length_set];exact h.l) h.aH h.vars ⟨w1,hlen,h.inv.buf⟩ Ia
end
end CR
end
section
open Go Go.Rn Go.RowKit Go.Proofs
namespace HM
open cr fQ fc hI n9 nV AG Cs yN EW fF cS dL F7 wA yu u6 qR dj dA gF fT ia ig iv iF iw iG iT iU jH jN kK lr mg jU gK jq pq sB ql wE uL CR Ao
variable {tx:List St}
def AM:Nat->Int->List St->Prop
 |0,_,_=>False
 |k+1,n,l=>∀s∈l,mT s n=true/\AM k n (ct s)/\AM k n (cm s)
theorem Wx{k:Nat}{n:Int}(he:∀l p,fK gz k l (.int .i64 n) (.bool false)=some p->p.ret=true->AM k n l):∀r p,kV (fK gz k) gz r (.int .i64 n) (.bool false)=some p->p.ret=true->∀s∈r,mT s n=true/\AM k n (ct s)/\AM k n (cm s)
 |[],_,_,_,s,hs=>by cases hs
 |t::r,p,h,hp,s,hs=>by
  unfold kV at h;split at h
  ·cases h
  rename_i p1 e1;obtain⟨n',⟨fC,_⟩,hq⟩:=Pu e1;injection fC with _ fC
  subst fC;cases Sr:mT t n with
  |false=>
   rw[Sr,if_neg (by intro q;cases q)] at hq;subst hq;have h:some (pN n)=some p:=h;injection h with h;subst h
   cases hp
  |true=>
   rw[Sr,if_pos rfl] at hq;subst hq;have h:(match fK gz k (ct t) (.int .i64 n) (.bool false) with
    |none=>none
    |some q=>match q.ret with
     |false=>some q
     |true=>match fK gz k (cm t) q.v1 q.v2 with
      |none=>none
      |some u=>match u.ret with
       |false=>some u
       |true=>kV (fK gz k) gz r u.v1 u.v2)=some p:=h
   split at h
   ·cases h
   rename_i q2 e2;rcases Bs k _ _ e2 with rfl|rfl
   ·have h:(match fK gz k (cm t) (.int .i64 n) (.bool false) with
     |none=>none
     |some u=>match u.ret with
      |false=>some u
      |true=>kV (fK gz k) gz r u.v1 u.v2)=some p:=h
    split at h
    ·cases h
    rename_i q3 e3;rcases Bs k _ _ e3 with rfl|rfl
    ·have h:kV (fK gz k) gz r (.int .i64 n) (.bool false)=some p:=h;rcases List.mem_cons.1 hs with rfl|hs
     ·exact⟨Sr,he _ _ e2 rfl,he _ _ e3 rfl⟩
     ·exact Wx he r p h hp s hs
    ·have h:some (pN n)=some p:=h;injection h with h;subst h;cases hp
   ·have h:some (pN n)=some p:=h;injection h with h;subst h;cases hp
theorem BE{n:Int}:∀k l p,fK gz k l (.int .i64 n) (.bool false)=some p->p.ret=true->AM k n l
 |0,_,_,h,_=>by cases h
 |k+1,l,p,h,hp=>by
  unfold fK at h;split at h
  ·exact Wx (BE k) l p h hp
  ·cases h
theorem PG(x y:Int):x<=cR x y/\y<=cR x y:=by
 unfold cR;split<;>rename_i q
 ·have:=of_decide_eq_true q;omega
 ·have:=of_decide_eq_false q;omega
theorem QG{k:Nat}:∀(l:List St) (m:Int),m<=l.foldl (fun m s=>jv (ct s).length (cm s).length m (fw k<|ct s)<|fw k<|cm s) m/\∀s∈l,(ct s≠[]->fw k (ct s)<=l.foldl (fun m s=>jv (ct s).length (cm s).length m (fw k<|ct s)<|fw k<|cm s) m)/\(cm s≠[]->fw k (cm s)<=l.foldl (fun m s=>jv (ct s).length (cm s).length m (fw k<|ct s)<|fw k<|cm s) m)
 |[],m=>⟨Int.le_refl _,fun s h=>by cases h⟩
 |t::l,m=>by
  have one:m<=jv (ct t).length (cm t).length m (fw k<|ct t) (fw k<|cm t)/\(ct t≠[]->fw k (ct t)<=jv (ct t).length (cm t).length m (fw k<|ct t) (fw k<|cm t))/\(cm t≠[]->fw k (cm t)<=jv (ct t).length (cm t).length m (fw k<|ct t) (fw k<|cm t)):=by
   have g1:=PG m<|fw k<|ct t;have g2:=PG (cR m<|fw k<|ct t)<|fw k<|cm t;have g3:=PG m<|fw k<|cm t;unfold jv;by_cases c1:0<(cm t).length<;>by_cases c2:0<(ct t).length
   ·rw[if_pos c1,if_pos c2];exact⟨by omega,fun _=>by omega,fun _=>by omega⟩
   ·rw[if_pos c1,if_neg c2];exact⟨by omega,fun q=>absurd (List.length_pos_iff.2 q) c2,fun _=>by omega⟩
   ·rw[if_neg c1,if_pos c2];exact⟨by omega,fun _=>by omega,fun q=>absurd (List.length_pos_iff.2 q) c1⟩
   ·rw[if_neg c1,if_neg c2];exact⟨Int.le_refl _,fun q=>absurd (List.length_pos_iff.2 q) c2,fun q=>absurd (List.length_pos_iff.2 q) c1⟩
  obtain⟨a1,a2⟩:=QG (k:=k) l<|jv (ct t).length (cm t).length m (fw k<|ct t)<|fw k<|cm t;rw[List.foldl_cons];refine⟨Int.le_trans one.1 a1,fun s hs=>?_⟩;rcases List.mem_cons.1 hs with rfl|hs
  ·exact⟨fun q=>Int.le_trans (one.2.1 q) a1,fun q=>Int.le_trans (one.2.2 q) a1⟩
  ·exact a2 s hs
theorem abg{s:St}{n:Int}(h:mT s n=true)(hk:0<=iR s):(1<=iR s/\iR s<=8)/\(0<=Fa s/\Fa s<8):=by
 obtain⟨kind,to,a,b,bd,el⟩:=s;have h:A8 (qy kind) to a b bd el n=true:=h;have hk:0<=kind:=hk;show(1<=kind/\kind<=8)/\(0<=to/\to<8);have IT:∀l,A8 l to a b bd el n=true->0<=to/\to<8:=fun l h=>by
  unfold A8 at h;split at h
  ·obtain⟨_,h⟩:=and_true.1 h;obtain⟨h,_⟩:=and_true.1 h;exact of_decide_eq_true h
  ·cases h
 refine⟨?_,IT _ h⟩;by_cases c:kind<=8
 ·refine⟨?_,c⟩;by_cases c0:kind=0
  ·subst c0;exfalso;have e:qy 0=[false,false,false,false,false,false]:=rfl;rw[e] at h;cases h
  ·omega
 ·exfalso;have e:qy kind=[false,false,false,false,false,false]:=by unfold qy;rw[List.getD_eq_getElem?_getD,List.getElem?_eq_none (show MH.length<=kind.toNat by show 9<=kind.toNat;omega)];rfl
  rw[e] at h;cases h
def Il:Nat->List St->Prop
 |0,_=>True
 |k+1,l=>∀s∈l,0<=iR s/\Il k (ct s)/\Il k (cm s)
theorem QH{n:Int}:∀(d k:Nat) (l:List St),ll k l=true->AM k n l->Il k l->fw k l<=d->ox d l
 |_,0,_,h,_,_,_=>by cases h
 |0,k+1,l,_,_,_,h=>by have h:l.foldl _ 0+1<=(0:Int):=h;have:=(QG (k:=k) l 0).1;omega
 |d+1,k+1,l,hc,ha,hp,h=>by
  have h:l.foldl (fun m s=>jv (ct s).length (cm s).length m (fw k<|ct s)<|fw k<|cm s) 0+1<=((d+1:Nat):Int):=h;obtain⟨c1,c2⟩:=and_true.1 (show(decide (l.length<=1000000)&&l.all fun s=>ll k (ct s)&&ll k (cm s))=true from hc);refine⟨of_decide_eq_true c1,fun s hs=>?_⟩;obtain⟨a1,a2,a3⟩:=ha s hs;obtain⟨p1,p2,p3⟩:=hp s hs;obtain⟨e1,e2⟩:=and_true.1<|List.all_eq_true.1 c2 s hs;obtain⟨g1,g2⟩:=(QG (k:=k) l 0).2 s hs;obtain⟨q1,q2⟩:=abg a1 p1;refine⟨q1,q2,?_,?_⟩
  ·by_cases z:ct s=[]
   ·rw[z];exact Ww d
   ·have:=g1 z;exact QH d k _ e1 a2 p2 ah
  ·by_cases z:cm s=[]
   ·rw[z];exact Ww d
   ·have:=g2 z;exact QH d k _ e2 a3 p3 ah
theorem ahI{n:Int}(h:AH tx n true)(hc:ll 60 tx=true)(hp:Il 60 tx):ox 6 tx:=by obtain⟨c1,c2,p,_,e,hb⟩:=h;obtain⟨h1,h2⟩:=and_true.1 hb.symm;obtain⟨h2,_⟩:=and_true.1 h2;have h1:=of_decide_eq_true h1;exact QH 6 60 tx hc (BE 60 tx p e h2) hp h1.2.2.1
theorem agb{vars:Int}{aH:List Int}(h:ox 6 tx)(hg:aH.length<=1000)(hv:1<=vars/\vars<=32):∃st bb,lX 1000 [Cv tx] [[]]=some (st,bb)/\mj ⟨vars,aH,Z8,bb,st.reverse,0⟩:=by
 have hi:Inv [Cv tx] [[]]:=⟨⟨h,⟨by show(0:Int)<=0;omega,by show(0:Int)<=_;omega⟩,⟨by show(0:Int)<=0;omega,by show(0:Int)<=7;omega⟩,rfl,fun c=>(by cases c),trivial⟩,rfl,P1⟩;obtain⟨bq,b',e,i,_⟩:=Gm 1000 _ _ hi (by have:=PF hi.wf;have l1:[Cv tx].length=1:=rfl;omega);refine⟨bq,b',e,?_,rfl,?_,hg,hv⟩
 ·show Inv bq.reverse.reverse b';rw[List.reverse_reverse];exact i
 ·show bq.reverse.reverse=[]\/∃f r,bq.reverse.reverse=f::r/\_;rw[List.reverse_reverse];exact DO _ _ _ _ _ e
end HM
end
section
open Go Go.Rn Go.RowKit Go.Proofs
namespace CS
open cr cS dj dA fc gK jq dL u6 n9 nV uH qR
variable {k N L N0 L0:Nat} {dp i bV n0 c:Int} {B:aJ}
noncomputable section
def sC(f:Ex->Int×Bool):List Ex->Int->Int×Bool
 |[],m=>(m,false)
 |a::r,m=>if(f a).2=true then(0,true) else if m+(f a).1>1000 then(0,true) else sC f r (m+(f a).1)
def dS:Nat->Ex->Int×Bool
 |0,_=>(0,true)
 |k+1,.mk _ _ args=>if k=0\/args.length>10 then(0,true) else sC (dS k) args 1
def p0(k:Nat)(args:List AV)(v:AV):Prop:=∃e:Ex,args=[.agg<|aM e,.int .i64<|22 - (k:Int)]/\(1<=k/\k<=22)/\v= .tuple [.int .i64 (dS k e).1,.bool (dS k e).2]
theorem p0.bR(args:List AV)(v v':AV)(h:p0 k args v)(h':p0 k args v'):v=v':=by obtain⟨e,rfl,_,rfl⟩:=h;obtain⟨e',h1,_,rfl⟩:=h';simp only[List.cons.injEq,AV.agg.injEq,_root_.and_true] at h1;rw[nP _ _ h1]
def oP(k:Nat):FuncId×KE:=(37,.val<|ba<|p0 k)
def kj(f:List St->Int×Bool):List St->Int->Int×Bool
  |[],m=>(m,false)
  | s::r,m=>if(dS 22<|iC s).2=true\/(dS 22<|ib s).2=true\/(f<|ct s).2=true\/(f<|cm s).2=true then(0,true)
    else if m+1+(dS 22<|iC s).1+(dS 22<|ib s).1+(f<|ct s).1+(f<|cm s).1>3000 then(0,true)
    else kj f r (m+1+(dS 22<|iC s).1+(dS 22<|ib s).1+(f<|ct s).1+(f<|cm s).1)
def dc:Nat->List St->Int×Bool
 |0,_=>(0,true)
 |k+1,l=>if k=0\/l.length>500 then(0,true) else kj (dc k) l 0
def pb(k:Nat)(args:List AV)(v:AV):Prop:=∃l:List St,args=[.ab (nm<|bC l) 0 l.length,.int .i64<|22 - (k:Int)]/\(1<=k/\k<=22)/\v= .tuple [.int .i64 (dc k l).1,.bool (dc k l).2]
theorem pb.bR(args:List AV)(v v':AV)(h:pb k args v)(h':pb k args v'):v=v':=by obtain⟨e,rfl,_,rfl⟩:=h;obtain⟨e',h1,_,rfl⟩:=h';simp only[List.cons.injEq,AV.ab.injEq,true_and,_root_.and_true] at h1;rw[tH _ _<|tZ (lU _) (lU _) h1.1]
def wj(k:Nat):FuncId×KE:=(16,.val<|ba<|pb k)
def FA(dp m i:Int):List<|Nat×AV:=[(1,(i6 dp)),(2,(.ptr<|some (270,0))),(6,(i6 m)),(7,(i6 i))]
def sD(dp m i:Int):AF:=⟨37,aP<|FA dp m i,(max Tryz.f37.ntmps 2),[.code<|aW pg 37 [1,1,1,0,1,0,0],.inLoop<|aW pg 37 [1,1,1,0,1,0,0],.inBlock 0,.code<|aW pg 37 [1,1,1,1]],[],none⟩
def nN(op n:Int)(N L:Nat):List<|Nat×Option ae:=(aq++[(270,some<|.cells 3 (Tr.fill [(u8<|op),(i6 n),(.ab N 0 L)] 0 .nil) [])])
theorem akO(dp m i op n:Int)(N L:Nat):((FA dp m i).map (fun q=>some q.2)=(FA dp m i).map (fun q=>some q.2))/\((nN op n N L).map (fun q=>q.2)=(nN op n N L).map (fun q=>q.2))/\(sD dp m i=sD dp m i/\aj (nN op n N L) 271=aj (nN op n N L) 271):=⟨rfl,rfl,rfl,rfl⟩
theorem sdT{op n m:Int}{v:AV}(mc:Mt [oP k] B)(hn:top<=N)(hi:0<=i)(hL:L<=10)(hm:0<=m/\m<=1000)(jr:0<=c/\c<=1000)(hd:0<=dp/\dp<=20)(hx:cx FU N (0+i.toNat*3+0) 3=some [(u8<|bV),(i6 n0),(.ab N0 0 L0)])(h1:i<(L:Int))(hc:bp (ba<|p0 k) [(.agg [(u8<|bV),(i6 n0),(.ab N0 0 L0)]),.int .i64<|dp+1]=some (.tuple [.int .i64 c,.bool true]))(hv:(.tuple [.int .i64 0,.bool true])=v):av pg B 270 (Fin pg (aA Tryz.f37) fun y _=>y=v) (sD dp m i)<|aj (nN op n N L) 271:=wS mc (.st 2<|.rg<|.go 4<|.fk (.en<|.st 5<|.rg<|.go 3<|.eF<|.eG [(u8<|bV),(i6 n0),(.ab N0 0 L0)]<|.go 1<|.vl (i6<|dp+1)<|.kn (.tuple [(i6 c),(.bool true)])<|.go 5<|.en<|.st 1<|.rg<|.go 2<|.vl (i6<|m+c)<|.go 1<|.en<|.rt 6 .no)<|.no)<|ax (i<(L:Int)) (fun _=>(eZ i (L:Int)<|ai hn<|ai hx<|ai (wI<|dp+1)<|ai hc<|ai (wI<|m+c) (show(.tuple [i0,(.bool true)])=v from hv))) eM
theorem sdF{op n m:Int}{v:AV}(mc:Mt [oP k] B)(hn:top<=N)(hi:0<=i)(hL:L<=10)(hm:0<=m/\m<=1000)(jr:0<=c/\c<=1000)(hd:0<=dp/\dp<=20)(hx:cx FU N (0+i.toNat*3+0) 3=some [(u8<|bV),(i6 n0),(.ab N0 0 L0)])(h1:i<(L:Int))(hc:bp (ba<|p0 k) [(.agg [(u8<|bV),(i6 n0),(.ab N0 0 L0)]),.int .i64<|dp+1]=some (.tuple [.int .i64 c,.bool false]))(hv:m+c>1000->(.tuple [.int .i64 0,.bool true])=v)(H:¬((m+c)>(1000:Int))->av pg B 270 (Fin pg (aA Tryz.f37) fun y _=>y=v) (sD dp (m+c)<|i+1) (aj (nN op n N L) 271)):av pg B 270 (Fin pg (aA Tryz.f37) fun y _=>y=v) (sD dp m i)<|aj (nN op n N L) 271:=wC mc (C:=(fun fr s1 _=>fr=sD dp (m+c) (i+1)/\s1=aj (nN op n N L) 271/\¬((m+c)>(1000:Int)))) (fun fr s1 p hC=>by obtain⟨rfl,rfl,hq⟩:=hC;exact H hq) (.st 2<|.rg<|.go 4<|.fk (.en<|.st 5<|.rg<|.go 3<|.eF<|.eG [(u8<|bV),(i6 n0),(.ab N0 0 L0)]<|.go 1<|.vl (i6<|dp+1)<|.kn (.tuple [(i6 c),(.bool false)])<|.go 5<|.en<|.st 1<|.rg<|.go 2<|.vl (i6<|m+c)<|.go 1<|.en<|.st 1<|.rg<|.go 3<|.fk (.go 1<|.en<|.rt 4 .no)<|.go 1<|.en<|.st 3<|.rg<|.go 1<|.vl (i6<|i+1)<|.go 1<|.en<|.st 1<|.ls (FA dp (m+c)<|i+1) (nN op n N L) 271 .no)<|.no)<|ax (i<(L:Int)) (fun _=>(eZ i (L:Int)<|ai hn<|ai hx<|ai (wI<|dp+1)<|ai hc<|ai (wI<|m+c)<|ax ((m+c)>1000) (fun _=>(show(.tuple [i0,(.bool true)])=v from hv ah)) fun _=>(ai (wI<|i+1)<|ai (mS<|FA dp (m+c)<|i+1)<|ai (mO<|nN op n N L) (show(sD dp (m+c)<|i+1)=(sD dp (m+c)<|i+1)/\(aj (nN op n N L) 271)=(aj (nN op n N L) 271)/\¬((m+c)>(1000:Int)) from⟨rfl,rfl,by omega⟩)))) eM
theorem sdE{op n m:Int}{v:AV}(mc:Mt [oP k] B)(h1:(L:Int)<=i)(hv:(.tuple [.int .i64 m,.bool false])=v):av pg B 270 (Fin pg (aA Tryz.f37) fun y _=>y=v) (sD dp m i)<|aj (nN op n N L) 271:=wS mc (.st 2<|.rg<|.go 4<|.fk (.no)<|.en<|.rt 5 .no) Yu
theorem sdG{op n:Int}{v:AV}(mc:Mt [oP k] B)(hd:dp<=20)(hL:L<=10)(H:av pg B 270 (Fin pg (aA Tryz.f37) fun y _=>y=v) (sD dp 1 0)<|aj (nN op n N L) 271):av pg B 270 (Fin pg (aA Tryz.f37) fun y _=>y=v) (sF 37 Tryz.f37 [(.agg [(u8<|op),(i6 n),(.ab N 0 L)]),(i6 dp)])<|aj aq 270:=wC mc (C:=(fun fr s1 _=>fr=sD dp 1 0/\s1=aj (nN op n N L) 271)) nJ (.st 4<|.rg<|.go 1<|.fk (.no)<|.go 4<|.fk (.no)<|.go 1<|.en<|.st 9<|.ls (FA dp 1 0) (nN op n N L) 271 .no)<|ax (dp>20) eM fun _=>(ax ((L:Int)>10) eM fun _=>(akO dp 1 0 op n N L))
theorem sdB{op n:Int}{v:AV}(mc:Mt [oP k] B)(hd:dp>20\/(L:Int)>10)(hv:(.tuple [.int .i64 0,.bool true])=v):av pg B 270 (Fin pg (aA Tryz.f37) fun y _=>y=v) (sF 37 Tryz.f37 [(.agg [(u8<|op),(i6 n),(.ab N 0 L)]),(i6 dp)])<|aj aq 270:=wS mc (.st 4<|.rg<|.go 1<|.fk (.go 6<|.en<|.rt 4 .no)<|.go 4<|.fk (.go 1<|.en<|.rt 4 .no)<|.no)<|ax (dp>20) (fun _=>(show(.tuple [i0,(.bool true)])=v from hv)) fun _=>(ax ((L:Int)>10) (fun _=>(show(.tuple [i0,(.bool true)])=v from hv)) eM)
def FB(N L:Nat)(dp m i:Int):List<|Nat×AV:=[(0,(.ab N 0 L)),(1,(i6 dp)),(6,(i6 m)),(7,(i6 i))]
def sH(N L:Nat)(dp m i:Int):AF:=⟨16,aP<|FB N L dp m i,(max Tryz.f16.ntmps 2),[.code<|aW pg 16 [1,1,1,0,1,0,0],.inLoop<|aW pg 16 [1,1,1,0,1,0,0],.inBlock 0,.code<|aW pg 16 [1,1,1,1]],[],none⟩
theorem akP(N L:Nat)(dp m i:Int):((FB N L dp m i).map (fun q=>some q.2)=(FB N L dp m i).map (fun q=>some q.2))/\(aq.map (fun q=>q.2)=aq.map (fun q=>q.2))/\(sH N L dp m i=sH N L dp m i/\aj aq 270=aj aq 270):=⟨rfl,rfl,rfl,rfl⟩
theorem MY{B:aJ}{k N L Na La Nb Lb Nd Ld Ne Le:Nat}{jL na jM nb dp m i a b c d:Int}{x y z w:Bool}{v:AV}(hk:x=true\/(x=false/\y=true)\/(x=false/\y=false/\z=true)\/(x=false/\y=false/\z=false/\w=true))(mc:Mt [oP 22,wj k] B)(hn:top<=N)(hi:0<=i)(hL:L<=500)(hm:0<=m/\m<=3000)(hb:(0<=a/\a<=1000)/\(0<=b/\b<=1000)/\(0<=c/\c<=3000)/\(0<=d/\d<=3000))(hd:0<=dp/\dp<=20)(Ss:cx FU N (0+i.toNat*10+2) 3=some [(u8<|jL),(i6 na),(.ab Na 0 La)])(Su:cx FU N (0+i.toNat*10+5) 3=some [(u8<|jM),(i6 nb),(.ab Nb 0 Lb)])(Sv:cx FU N (0+i.toNat*10+8) 1=some [.ab Nd 0 Ld])(Sw:cx FU N (0+i.toNat*10+9) 1=some [.ab Ne 0 Le])(h1:i<(L:Int))(ha:bp (ba<|p0 22) [(.agg [(u8<|jL),(i6 na),(.ab Na 0 La)]),.int .i64 0]=some (.tuple [.int .i64 a,.bool x]))(Sx:bp (ba<|p0 22) [(.agg [(u8<|jM),(i6 nb),(.ab Nb 0 Lb)]),.int .i64 0]=some (.tuple [.int .i64 b,.bool y]))(Sy:bp (ba<|pb k) [.ab Nd 0 Ld,.int .i64<|dp+1]=some (.tuple [.int .i64 c,.bool z]))(Sz:bp (ba<|pb k) [.ab Ne 0 Le,.int .i64<|dp+1]=some (.tuple [.int .i64 d,.bool w]))(hv:(.tuple [.int .i64 0,.bool true])=v):av pg B 270 (Fin pg (aA Tryz.f16) fun y _=>y=v) (sH N L dp m i)<|aj aq 270:=by
 have TT:=(ax (i<(L:Int)) (fun _=>(eZ i (L:Int)<|ai hn<|ai Ss<|ai ha<|eZ i (L:Int)<|ai hn<|ai Su<|ai Sx<|eZ i (L:Int)<|ai hn<|ai Sv<|ai (wI<|dp+1)<|ai Sy<|eZ i (L:Int)<|ai hn<|ai Sw<|ai (wI<|dp+1)<|ai Sz<|ai (wI<|m+1)<|ai (wI<|(m+1)+a)<|ai (wI<|((m+1)+a)+b)<|ai (wI<|(((m+1)+a)+b)+c)<|ai (wI<|((((m+1)+a)+b)+c)+d) (show(.tuple [i0,(.bool true)])=v from hv))) fun _=>(oF ah));let P:Pl:=(.st 2<|.rg<|.go 3<|.fk (.en<|.st 5<|.rg<|.go 2<|.eF<|.go 1<|.eG [(u8<|jL),(i6 na),(.ab Na 0 La)]<|.kn (.tuple [(i6 a),(.bool x)])<|.go 5<|.en<|.st 1<|.rg<|.go 2<|.eF<|.go 1<|.eG [(u8<|jM),(i6 nb),(.ab Nb 0 Lb)]<|.kn (.tuple [(i6 b),(.bool y)])<|.go 5<|.en<|.st 1<|.rg<|.go 2<|.eF<|.go 1<|.eG [(.ab Nd 0 Ld)]<|.go 1<|.vl (i6<|dp+1)<|.kn (.tuple [(i6 c),(.bool z)])<|.go 5<|.en<|.st 1<|.rg<|.go 2<|.eF<|.go 1<|.eG [(.ab Ne 0 Le)]<|.go 1<|.vl (i6<|dp+1)<|.kn (.tuple [(i6 d),(.bool w)])<|.go 5<|.en<|.st 1<|.rg<|.go 1<|.vl (i6<|m+1)<|.go 1<|.vl (i6<|(m+1)+a)<|.go 1<|.vl (i6<|((m+1)+a)+b)<|.go 1<|.vl (i6<|(((m+1)+a)+b)+c)<|.go 1<|.vl (i6<|((((m+1)+a)+b)+c)+d)<|.go 1<|.en<|.rt 6 .no)<|.no);rcases hk with rfl|⟨rfl,rfl⟩|⟨rfl,rfl,rfl⟩|⟨rfl,rfl,rfl,rfl⟩
 all_goals exact l6 (E:=en [oP 22,wj k]) eH rfl bT mc.2.2.1 mc.2.2.2 900 P TT uC
theorem muN{B:aJ}{k N L Na La Nb Lb Nd Ld Ne Le:Nat}{jL na jM nb dp m i a b c d:Int}{x y z w:Bool}{v:AV}(mc:Mt [oP 22,wj k] B)(hn:top<=N)(hi:0<=i)(hL:L<=500)(hm:0<=m/\m<=3000)(hb:(0<=a/\a<=1000)/\(0<=b/\b<=1000)/\(0<=c/\c<=3000)/\(0<=d/\d<=3000))(hd:0<=dp/\dp<=20)(Ss:cx FU N (0+i.toNat*10+2) 3=some [(u8<|jL),(i6 na),(.ab Na 0 La)])(Su:cx FU N (0+i.toNat*10+5) 3=some [(u8<|jM),(i6 nb),(.ab Nb 0 Lb)])(Sv:cx FU N (0+i.toNat*10+8) 1=some [.ab Nd 0 Ld])(Sw:cx FU N (0+i.toNat*10+9) 1=some [.ab Ne 0 Le])(h1:i<(L:Int))(ha:bp (ba<|p0 22) [(.agg [(u8<|jL),(i6 na),(.ab Na 0 La)]),.int .i64 0]=some (.tuple [.int .i64 a,.bool false]))(Sx:bp (ba<|p0 22) [(.agg [(u8<|jM),(i6 nb),(.ab Nb 0 Lb)]),.int .i64 0]=some (.tuple [.int .i64 b,.bool false]))(Sy:bp (ba<|pb k) [.ab Nd 0 Ld,.int .i64<|dp+1]=some (.tuple [.int .i64 c,.bool false]))(Sz:bp (ba<|pb k) [.ab Ne 0 Le,.int .i64<|dp+1]=some (.tuple [.int .i64 d,.bool false]))(hv:(((((m+1)+a)+b)+c)+d)>3000->(.tuple [.int .i64 0,.bool true])=v)(H:¬((((((m+1)+a)+b)+c)+d)>(3000:Int))->av pg B 270 (Fin pg (aA Tryz.f16) fun y _=>y=v) (sH N L dp (((((m+1)+a)+b)+c)+d)<|i+1) (aj aq 270)):av pg B 270 (Fin pg (aA Tryz.f16) fun y _=>y=v) (sH N L dp m i)<|aj aq 270:=wC mc (C:=(fun fr s1 _=>fr=sH N L dp (((((m+1)+a)+b)+c)+d) (i+1)/\s1=aj aq 270/\¬((((((m+1)+a)+b)+c)+d)>(3000:Int)))) (fun fr s1 p hC=>by obtain⟨rfl,rfl,hq⟩:=hC;exact H hq) (.st 2<|.rg<|.go 3<|.fk (.en<|.st 5<|.rg<|.go 2<|.eF<|.go 1<|.eG [(u8<|jL),(i6 na),(.ab Na 0 La)]<|.kn (.tuple [(i6 a),(.bool false)])<|.go 5<|.en<|.st 1<|.rg<|.go 2<|.eF<|.go 1<|.eG [(u8<|jM),(i6 nb),(.ab Nb 0 Lb)]<|.kn (.tuple [(i6 b),(.bool false)])<|.go 5<|.en<|.st 1<|.rg<|.go 2<|.eF<|.go 1<|.eG [(.ab Nd 0 Ld)]<|.go 1<|.vl (i6<|dp+1)<|.kn (.tuple [(i6 c),(.bool false)])<|.go 5<|.en<|.st 1<|.rg<|.go 2<|.eF<|.go 1<|.eG [(.ab Ne 0 Le)]<|.go 1<|.vl (i6<|dp+1)<|.kn (.tuple [(i6 d),(.bool false)])<|.go 5<|.en<|.st 1<|.rg<|.go 1<|.vl (i6<|m+1)<|.go 1<|.vl (i6<|(m+1)+a)<|.go 1<|.vl (i6<|((m+1)+a)+b)<|.go 1<|.vl (i6<|(((m+1)+a)+b)+c)<|.go 1<|.vl (i6<|((((m+1)+a)+b)+c)+d)<|.go 1<|.en<|.st 1<|.rg<|.go 12<|.fk (.go 1<|.en<|.rt 4 .no)<|.go 1<|.en<|.st 3<|.rg<|.go 1<|.vl (i6<|i+1)<|.go 1<|.en<|.st 1<|.ls (FB N L dp (((((m+1)+a)+b)+c)+d)<|i+1) aq 270 .no)<|.no)<|ax (i<(L:Int)) (fun _=>(eZ i (L:Int)<|ai hn<|ai Ss<|ai ha<|eZ i (L:Int)<|ai hn<|ai Su<|ai Sx<|eZ i (L:Int)<|ai hn<|ai Sv<|ai (wI<|dp+1)<|ai Sy<|eZ i (L:Int)<|ai hn<|ai Sw<|ai (wI<|dp+1)<|ai Sz<|ai (wI<|m+1)<|ai (wI<|(m+1)+a)<|ai (wI<|((m+1)+a)+b)<|ai (wI<|(((m+1)+a)+b)+c)<|ai (wI<|((((m+1)+a)+b)+c)+d)<|ax ((((((m+1)+a)+b)+c)+d)>3000) (fun _=>(show(.tuple [i0,(.bool true)])=v from hv ah)) fun _=>(ai (wI<|i+1)<|ai (mS<|FB N L dp (((((m+1)+a)+b)+c)+d)<|i+1)<|ai (mO aq) (show(sH N L dp (((((m+1)+a)+b)+c)+d)<|i+1)=(sH N L dp (((((m+1)+a)+b)+c)+d)<|i+1)/\(aj aq 270)=(aj aq 270)/\¬((((((m+1)+a)+b)+c)+d)>(3000:Int)) from⟨rfl,rfl,by omega⟩)))) eM
theorem muE{m:Int}{v:AV}(mc:Mt [oP 22,wj k] B)(h1:(L:Int)<=i)(hv:(.tuple [.int .i64 m,.bool false])=v):av pg B 270 (Fin pg (aA Tryz.f16) fun y _=>y=v) (sH N L dp m i)<|aj aq 270:=wS mc (.st 2<|.rg<|.go 3<|.fk (.no)<|.en<|.rt 5 .no) Yu
theorem muG{v:AV}(mc:Mt [oP 22,wj k] B)(hd:dp<=20)(hL:L<=500)(H:av pg B 270 (Fin pg (aA Tryz.f16) fun y _=>y=v) (sH N L dp 0 0)<|aj aq 270):av pg B 270 (Fin pg (aA Tryz.f16) fun y _=>y=v) (sF 16 Tryz.f16 [(.ab N 0 L),(i6 dp)])<|aj aq 270:=wC mc (C:=(fun fr s1 _=>fr=sH N L dp 0 0/\s1=aj aq 270)) nJ (.st 4<|.rg<|.go 1<|.fk (.no)<|.go 3<|.fk (.no)<|.go 1<|.en<|.st 9<|.ls (FB N L dp 0 0) aq 270 .no)<|ax (dp>20) eM fun _=>(ax ((L:Int)>500) eM fun _=>(akP N L dp 0 0))
theorem muB{v:AV}(mc:Mt [oP 22,wj k] B)(hd:dp>20\/(L:Int)>500)(hv:(.tuple [.int .i64 0,.bool true])=v):av pg B 270 (Fin pg (aA Tryz.f16) fun y _=>y=v) (sF 16 Tryz.f16 [(.ab N 0 L),(i6 dp)])<|aj aq 270:=wS mc (.st 4<|.rg<|.go 1<|.fk (.go 5<|.en<|.rt 4 .no)<|.go 3<|.fk (.go 1<|.en<|.rt 4 .no)<|.no)<|ax (dp>20) (fun _=>(show(.tuple [i0,(.bool true)])=v from hv)) fun _=>(ax ((L:Int)>500) (fun _=>(show(.tuple [i0,(.bool true)])=v from hv)) eM)
end
end CS
end
section
open Go Go.Rn Go.RowKit Go.Proofs
namespace Fb
open cr cS dj dA fc gK AE jq dL u6 n9 nV uH qR CS
variable {k i:Nat} {L:bU}
theorem Wy{f:Ex->Int×Bool}(hf:∀e,0<=(f e).1/\(f e).1<=1000):∀(l:List Ex) (m:Int),0<=m/\m<=1000->0<=(sC f l m).1/\(sC f l m).1<=1000
 |[],m,h=>h
 |a::r,m,h=>by
  unfold sC;have:=hf a;split
  ·show(0:Int)<=0/\(0:Int)<=1000;omega
  ·split
   ·show(0:Int)<=0/\(0:Int)<=1000;omega
   ·exact Wy hf r _ ah
theorem vx:∀(k:Nat) (e:Ex),0<=(dS k e).1/\(dS k e).1<=1000
 |0,_=>by show(0:Int)<=0/\(0:Int)<=1000;omega
 |k+1,.mk _ _ args=>by
  unfold dS;split
  ·show(0:Int)<=0/\(0:Int)<=1000;omega
  ·exact Wy (vx k) args 1 ah
theorem Wz{α:Type}{l r:List α}{a:α}(hr:l.drop i=a::r):i<l.length/\l[i]? =some a/\a∈l/\l.drop (i+1)=r:=by
 have ha:l[i]? =some a:=by have:=congrArg (fun q=>q[0]?) hr;simp only[List.getElem?_drop,List.getElem?_cons_zero,Nat.add_zero] at this;exact this
 refine⟨(List.getElem?_eq_some_iff.1 ha).1,ha,List.mem_of_getElem? ha,?_⟩;have:=congrArg (List.drop 1) hr;rw[List.drop_drop] at this;exact this
theorem ab6(hP:bB pg)(h':aV [oP k])(h:aV L):aV<|oP (k+1)::L:=by
 refine g9 hP h h' Tryz.func37 fun args v e=>?_;obtain⟨⟨op,n,l⟩,rfl,hk,rfl⟩:=gf e;refine⟨aL.1 aY,fun B mc=>?_⟩;rw[←gN,aM];have ed:(22:Int) - ((k+1:Nat):Int)=21 - (k:Int):=by omega
 rw[ed];unfold dS;by_cases c:k=0\/l.length>10
 ·rw[if_pos c];exact sdB mc ah rfl
 ·rw[if_neg c];have Zi:k≠0:=fun q=>c<|.inl q;have hl:l.length<=10:=by
   by_cases q:l.length<=10
   ·exact q
   ·exact absurd (.inr ah) c
  have key:∀(r:List Ex) (i:Nat) (m:Int),l.drop i=r->0<=m/\m<=1000->
   av pg B 270 (Fin pg (aA Tryz.f37) fun y _=>y= .tuple [.int .i64 (sC (dS k) r m).1,.bool (sC (dS k) r m).2]) (sD (21 - (k:Int)) m i) (aj (nN op n (nm<|dy l) l.length) 271):=by
   intro r;induction r with
   |nil=>intro i m hr hm;have hi:l.length<=i:=List.drop_eq_nil_iff.1 hr;exact sdE mc ah rfl
   |cons a r ih=>
    intro i m hr hm;obtain⟨hi,ha,qZ,lR⟩:=Wz hr;obtain⟨bV,n0,l0⟩:=a;have hx:=zP ha (z:=(i:Int)) ah;have iz:=vx k<|.mk bV n0 l0;have bI:bp (ba<|p0 k) [.agg<|aM<|.mk bV n0 l0,.int .i64<|21 - (k:Int)+1]=some (.tuple [.int .i64 (dS k<|.mk bV n0 l0).1,.bool (dS k<|.mk bV n0 l0).2]):=fu (ff p0.bR ⟨.mk bV n0 l0,by rw[show(21:Int) - (k:Int)+1=22 - (k:Int) by omega],by omega,rfl⟩) sr rfl;rw[aM] at hx bI;unfold sC;cases hb:(dS k<|.mk bV n0 l0).2 with
    |true=>rw[hb] at bI;rw[if_pos rfl];exact sdT mc (cU _) ah hl hm iz ah hx ah bI rfl
    |false=>
     rw[hb] at bI;rw[if_neg (by intro q;cases q)];refine sdF mc (cU _) ah hl hm iz ah hx ah bI (fun q=>?_) fun q=>?_
     ·rw[if_pos q]
     ·rw[if_neg q];exact ih (i+1) _ lR ah
  exact sdG mc ah hl<|key l 0 1 (by rw[List.drop_zero]) ah
theorem UG(hP:bB pg):∀(k:Nat) {L:bU},aV L->aV (oP k::L)
 |0,L,h=>by refine g9 hP h cO Tryz.func37 fun args v e=>?_;obtain⟨_,_,hk,_⟩:=gf e;omega
 |k+1,L,h=>ab6 hP (UG hP k cO) h
theorem WA{f:List St->Int×Bool}(hf:∀l,0<=(f l).1/\(f l).1<=3000):∀(l:List St) (m:Int),0<=m/\m<=3000->0<=(kj f l m).1/\(kj f l m).1<=3000
 |[],m,h=>h
 |s::r,m,h=>by
  unfold kj;have h1:=vx 22<|iC s;have h2:=vx 22<|ib s;have h3:=hf<|ct s;have h4:=hf<|cm s;split
  ·show(0:Int)<=0/\(0:Int)<=3000;omega
  ·split
   ·show(0:Int)<=0/\(0:Int)<=3000;omega
   ·exact WA hf r _ ah
theorem xT:∀(k:Nat) (l:List St),0<=(dc k l).1/\(dc k l).1<=3000
 |0,_=>by show(0:Int)<=0/\(0:Int)<=3000;omega
 |k+1,l=>by
  unfold dc;split
  ·show(0:Int)<=0/\(0:Int)<=3000;omega
  ·exact WA (xT k) l 0 ah
theorem Kp{l:List St}{s:St}(h:l[i]? =some s){z:Int}(hz:z.toNat=i)(j k:Nat)(hk:j+k<=10):cx FU (nm<|bC l) (0+z.toNat*10+j) k=some (((a9 s).drop j).take k):=by rw[vu,hz,Nat.zero_add,ya lD h j k hk]
theorem adb(hP:bB pg)(h':aV [oP 22,wj k])(h:aV L):aV<|wj (k+1)::L:=by
 refine g9 hP h h' Tryz.func16 fun args v e=>?_;obtain⟨l,rfl,hk,rfl⟩:=gf e;refine⟨aL.1 aY,fun B mc=>?_⟩;rw[←gN];have ed:(22:Int) - ((k+1:Nat):Int)=21 - (k:Int):=by omega
 rw[ed];unfold dc;by_cases c:k=0\/l.length>500
 ·rw[if_pos c];exact muB mc ah rfl
 ·rw[if_neg c];have Zi:k≠0:=fun q=>c<|.inl q;have hl:l.length<=500:=by
   by_cases q:l.length<=500
   ·exact q
   ·exact absurd (.inr ah) c
  have key:∀(r:List St) (i:Nat) (m:Int),l.drop i=r->0<=m/\m<=3000->
   av pg B 270 (Fin pg (aA Tryz.f16) fun y _=>y= .tuple [.int .i64 (kj (dc k) r m).1,.bool (kj (dc k) r m).2]) (sH (nm<|bC l) l.length (21 - (k:Int)) m i) (aj aq 270):=by
   intro r;induction r with
   |nil=>intro i m hr hm;have hi:l.length<=i:=List.drop_eq_nil_iff.1 hr;exact muE mc ah rfl
   |cons s r ih=>
    intro i m hr hm;obtain⟨hi,ha,qZ,lR⟩:=Wz hr;have p1:=Kp ha (z:=(i:Int)) ah 2 3 ah;have p2:=Kp ha (z:=(i:Int)) ah 5 3 ah;have p3:=Kp ha (z:=(i:Int)) ah 8 1 ah;have p4:=Kp ha (z:=(i:Int)) ah 9 1 ah;obtain⟨kind,to,⟨jL,na,la⟩,⟨jM,nb,lb⟩,bd,el⟩:=s;have e1:((a9<|.mk kind to (.mk jL na la) (.mk jM nb lb) bd el).drop 2).take 3=aM (.mk jL na la):=by rw[a9,aM,aM];rfl
    have e2:((a9<|.mk kind to (.mk jL na la) (.mk jM nb lb) bd el).drop 5).take 3=aM (.mk jM nb lb):=by rw[a9,aM,aM];rfl
    have e3:((a9<|.mk kind to (.mk jL na la) (.mk jM nb lb) bd el).drop 8).take 1=[.ab (nm<|bC bd) 0 bd.length]:=by rw[a9,aM,aM];rfl
    have e4:((a9<|.mk kind to (.mk jL na la) (.mk jM nb lb) bd el).drop 9).take 1=[.ab (nm<|bC el) 0 el.length]:=by rw[a9,aM,aM];rfl
    rw[e1] at p1;rw[e2] at p2;rw[e3] at p3;rw[e4] at p4;have uU:=vx 22<|.mk jL na la;have uS:=vx 22<|.mk jM nb lb;have jK:=xT k bd;have RX:=xT k el;have hS:∀e:Ex,bp (ba<|p0 22) [.agg<|aM e,.int .i64 0]=some (.tuple [.int .i64 (dS 22 e).1,.bool (dS 22 e).2]):=fun e=>fu (ff p0.bR ⟨e,rfl,by omega,rfl⟩) sr rfl;have hM:∀q:List St,bp (ba<|pb k) [.ab (nm<|bC q) 0 q.length,.int .i64<|21 - (k:Int)+1]=some (.tuple [.int .i64 (dc k q).1,.bool (dc k q).2]):=fun q=>fu (ff pb.bR ⟨q,by rw[show(21:Int) - (k:Int)+1=22 - (k:Int) by omega],by omega,rfl⟩) (by rw[List.all_cons,uf];rfl) rfl;have s1:=hS<|.mk jL na la;have s2:=hS<|.mk jM nb lb;have m1:=hM bd;have m2:=hM el;rw[aM] at p1 p2 s1 s2;have hb:(0<=(dS 22<|.mk jL na la).1/\(dS 22<|.mk jL na la).1<=1000)/\(0<=(dS 22<|.mk jM nb lb).1/\(dS 22<|.mk jM nb lb).1<=1000)/\(0<=(dc k bd).1/\(dc k bd).1<=3000)/\(0<=(dc k el).1/\(dc k el).1<=3000):=⟨uU,uS,jK,RX⟩;show av pg B 270 (Fin pg (aA Tryz.f16) fun y _=>y= .tuple [.int .i64 (kj (dc k) (.mk kind to (.mk jL na la) (.mk jM nb lb) bd el::r) m).1,.bool (kj (dc k) (.mk kind to (.mk jL na la) (.mk jM nb lb) bd el::r) m).2]) _ _;unfold kj;show av pg B 270 (Fin pg (aA Tryz.f16) fun y _=>y= .tuple [.int .i64 (if(dS 22<|.mk jL na la).2=true\/(dS 22<|.mk jM nb lb).2=true\/(dc k bd).2=true\/(dc k el).2=true then(0,true) else if m+1+(dS 22<|.mk jL na la).1+(dS 22<|.mk jM nb lb).1+(dc k bd).1+(dc k el).1>3000 then(0,true) else kj (dc k) r (m+1+(dS 22<|.mk jL na la).1+(dS 22<|.mk jM nb lb).1+(dc k bd).1+(dc k el).1)).1,.bool (if(dS 22<|.mk jL na la).2=true\/(dS 22<|.mk jM nb lb).2=true\/(dc k bd).2=true\/(dc k el).2=true then(0,true) else if m+1+(dS 22<|.mk jL na la).1+(dS 22<|.mk jM nb lb).1+(dc k bd).1+(dc k el).1>3000 then(0,true) else kj (dc k) r (m+1+(dS 22<|.mk jL na la).1+(dS 22<|.mk jM nb lb).1+(dc k bd).1+(dc k el).1)).2]) _ _;cases x:(dS 22<|.mk jL na la).2 with
    |true=>rw[x] at s1;rw[if_pos<|.inl rfl];exact MY (x:=true) (.inl rfl) mc (cU _) ah hl hm hb ah p1 p2 p3 p4 ah s1 s2 m1 m2 rfl
    |false=>
     rw[x] at s1;cases y:(dS 22<|.mk jM nb lb).2 with
     |true=>rw[y] at s2;rw[if_pos<|.inr<|.inl rfl];exact MY (x:=false) (y:=true) (.inr<|.inl ⟨rfl,rfl⟩) mc (cU _) ah hl hm hb ah p1 p2 p3 p4 ah s1 s2 m1 m2 rfl
     |false=>
      rw[y] at s2;cases z:(dc k bd).2 with
      |true=>rw[z] at m1;rw[if_pos<|.inr<|.inr<|.inl rfl];exact MY (x:=false) (y:=false) (z:=true) (.inr<|.inr<|.inl ⟨rfl,rfl,rfl⟩) mc (cU _) ah hl hm hb ah p1 p2 p3 p4 ah s1 s2 m1 m2 rfl
      |false=>
       rw[z] at m1;cases w:(dc k el).2 with
       |true=>rw[w] at m2;rw[if_pos<|.inr<|.inr<|.inr rfl];exact MY (x:=false) (y:=false) (z:=false) (w:=true) (.inr<|.inr<|.inr ⟨rfl,rfl,rfl,rfl⟩) mc (cU _) ah hl hm hb ah p1 p2 p3 p4 ah s1 s2 m1 m2 rfl
       |false=>
        rw[w] at m2;rw[if_neg<|by simp];refine muN (x:=false) (y:=false) (z:=false) (w:=false) mc (cU _) ah hl hm hb ah p1 p2 p3 p4 ah s1 s2 m1 m2 (fun q=>?_) fun q=>?_
        ·rw[if_pos q]
        ·rw[if_neg q];exact ih (i+1) _ lR ah
  exact muG mc ah hl<|key l 0 0 (by rw[List.drop_zero]) ah
theorem Vu(hP:bB pg):∀(k:Nat) {L:bU},aV L->aV (wj k::L)
 |0,L,h=>by refine g9 hP h cO Tryz.func16 fun args v e=>?_;obtain⟨_,_,hk,_⟩:=gf e;omega
 |k+1,L,h=>adb hP (UG hP 22<|Vu hP k cO) h
end Fb
end
section
open Go Go.Rn Go.RowKit Go.Proofs
namespace QI
open cr fQ fc CL hI n9 nV AG Cs yN EW fF cS dL F7 wA yu u6 uH qR Ie LB dj dA gF fT ia ig iv iF iw iG iT iU jH jN kK lr mg jU gK jq pq sB ql wE uL CR HM Ao CS Fb
variable {k:Nat}
theorem TP{f:Ex->Int×Bool}:∀(l:List Ex) (m:Int),(sC f l m).2=false->(∀a∈l,(f a).2=false)/\(sC f l m).1=l.foldl (fun n a=>n+(f a).1) m/\(m<=1000->(sC f l m).1<=1000)
 |[],m,_=>⟨fun a h=>(by cases h),rfl,fun h=>h⟩
 |a::r,m,h=>by
  unfold sC at h ⊢;by_cases c1:(f a).2=true
  ·rw[if_pos c1] at h;cases h
  ·rw[if_neg c1] at h ⊢;by_cases c2:m+(f a).1>1000
   ·rw[if_pos c2] at h;cases h
   ·rw[if_neg c2] at h ⊢;obtain⟨h1,h2,h3⟩:=TP r _ h;refine⟨fun b hb=>?_,by rw[h2,List.foldl_cons],fun _=>h3 ah⟩;rcases List.mem_cons.1 hb with rfl|hb
    ·exact Bool.eq_false_iff.2 c1
    ·exact h1 b hb
theorem fold_congr{f g:Ex->Int}:∀(l:List Ex) (m:Int),(∀a∈l,f a=g a)->l.foldl (fun n a=>n+f a) m=l.foldl (fun n a=>n+g a) m
 |[],_,_=>rfl
 |a::l,m,h=>by rw[List.foldl_cons,List.foldl_cons,h a List.mem_cons_self];exact fold_congr l _ fun b hb=>h b<|List.mem_cons_of_mem _ hb
theorem Jn:∀(k j:Nat) (e:Ex),k<=j->(dS k e).2=false->ux j e=true/\lG j e=(dS k e).1
 |0,_,_,_,h=>by cases h
 |k+1,0,_,hj,_=>by omega
 |k+1,j+1,.mk op n l,hj,h=>by
  unfold dS at h ⊢;by_cases c:k=0\/l.length>10
  ·rw[if_pos c] at h;cases h
  ·rw[if_neg c] at h ⊢;obtain⟨h1,h2,_⟩:=TP l 1 h;refine⟨List.all_eq_true.2 fun a ha=>(Jn k j a ah<|h1 a ha).1,?_⟩;rw[h2];exact fold_congr l 1 fun a ha=>(Jn k j a ah<|h1 a ha).2
theorem Jw{f:List St->Int×Bool}(hf:∀l,0<=(f l).1):∀(l:List St) (m:Int),(kj f l m).2=false->m<=(kj f l m).1/\∀s∈l,(dS 22<|iC s).2=false/\(dS 22<|ib s).2=false/\(f<|ct s).2=false/\(f<|cm s).2=false
 |[],m,_=>⟨Int.le_refl _,fun s h=>by cases h⟩
 |t::r,m,h=>by
  unfold kj at h ⊢;have a1:=vx 22<|iC t;have a2:=vx 22<|ib t;have a3:=hf<|ct t;have a4:=hf<|cm t;by_cases c1:(dS 22<|iC t).2=true\/(dS 22<|ib t).2=true\/(f<|ct t).2=true\/(f<|cm t).2=true
  ·rw[if_pos c1] at h;cases h
  ·rw[if_neg c1] at h ⊢;by_cases c2:m+1+(dS 22<|iC t).1+(dS 22<|ib t).1+(f<|ct t).1+(f<|cm t).1>3000
   ·rw[if_pos c2] at h;cases h
   ·rw[if_neg c2] at h ⊢;obtain⟨h1,h2⟩:=Jw hf r _ h;refine⟨by omega,fun s hs=>?_⟩;rcases List.mem_cons.1 hs with rfl|hs
    ·refine⟨Bool.eq_false_iff.2 fun q=>c1<|.inl q,Bool.eq_false_iff.2 fun q=>c1<|.inr<|.inl q,Bool.eq_false_iff.2 fun q=>c1<|.inr<|.inr<|.inl q,Bool.eq_false_iff.2 fun q=>c1<|.inr<|.inr<|.inr q⟩
    ·exact h2 s hs
theorem ab7{l:List St}:dc (k+1) l=if k=0\/l.length>500 then(0,true) else kj (dc k) l 0:=rfl
theorem NM{l:List St}(h:(dc (k+1) l).2=false):l.length<=500/\(dc (k+1) l).1=(kj (dc k) l 0).1/\(kj (dc k) l 0).2=false/\∀s∈l,(dS 22<|iC s).2=false/\(dS 22<|ib s).2=false/\(dc k<|ct s).2=false/\(dc k<|cm s).2=false:=by
 rw[ab7] at h ⊢;by_cases c:k=0\/l.length>500
 ·rw[if_pos c] at h;cases h
 ·rw[if_neg c] at h ⊢;refine⟨?_,rfl,h,(Jw (fun l=>(xT k l).1) l 0 h).2⟩;by_cases q:l.length<=500
  ·exact q
  ·exact absurd (.inr ah) c
theorem DU:∀(k j:Nat) (l:List St),k<=j->(dc k l).2=false->ll j l=true/\sb j l=true
 |0,_,_,_,h=>by cases h
 |k+1,0,_,hj,_=>by omega
 |k+1,j+1,l,hj,h=>by
  obtain⟨h1,_,_,h4⟩:=NM h;have hl:decide (l.length<=1000000)=true:=decide_eq_true ah;constructor
  ·show(decide (l.length<=1000000)&&l.all fun s=>ll j (ct s)&&ll j (cm s))=true;rw[hl];exact List.all_eq_true.2 fun s hs=>and_true.2 ⟨(DU k j _ ah (h4 s hs).2.2.1).1,(DU k j _ ah (h4 s hs).2.2.2).1⟩
  ·show(decide (l.length<=1000000)&&l.all fun s=>((ct s).isEmpty||sb j (ct s))&&((cm s).isEmpty||sb j (cm s)))=true;rw[hl];exact List.all_eq_true.2 fun s hs=>and_true.2 ⟨by rw[(DU k j _ ah (h4 s hs).2.2.1).2,Bool.or_true],by rw[(DU k j _ ah (h4 s hs).2.2.2).2,Bool.or_true]⟩
theorem Vv{k j:Nat}(he:∀l n1 n2,(dc j l).2=false->0<=n1/\n1+(dc j l).1<=1000000000->0<=n2/\n2+(dc j l).1<=1000000000->∃m1 m2,fK (py 60) k l (.int .i64 n1) (.int .i64 n2)=some ⟨true,.int .i64 m1,.int .i64 m2,none⟩/\(n1<=m1/\m1<=n1+(dc j l).1)/\n2<=m2/\m2<=n2+(dc j l).1):
 ∀(r:List St) (m n1 n2:Int),(kj (dc j) r m).2=false->0<=m->m<=3000->0<=n1->0<=n2->n1+((kj (dc j) r m).1 - m)<=1000000000->n2+((kj (dc j) r m).1 - m)<=1000000000->∃m1 m2,kV (fK (py 60) k) (py 60) r (.int .i64 n1) (.int .i64 n2)=some ⟨true,.int .i64 m1,.int .i64 m2,none⟩/\(n1<=m1/\m1<=n1+((kj (dc j) r m).1 - m))/\n2<=m2/\m2<=n2+((kj (dc j) r m).1 - m)
 |[],m,n1,n2,_,_,_,_,_,_,_=>⟨n1,n2,rfl,by show n1<=n1/\n1<=n1+(m - m);omega,by show n2<=n2/\n2<=n2+(m - m);omega⟩
 |t::r,m,n1,n2,h,hm,cW,h1,h2,h3,h4=>by
  unfold kj at h h3 h4 ⊢;have a1:=vx 22<|iC t;have a2:=vx 22<|ib t;have a3:=xT j<|ct t;have a4:=xT j<|cm t;by_cases c1:(dS 22<|iC t).2=true\/(dS 22<|ib t).2=true\/(dc j<|ct t).2=true\/(dc j<|cm t).2=true
  ·rw[if_pos c1] at h;cases h
  ·rw[if_neg c1] at h h3 h4 ⊢;by_cases c2:m+1+(dS 22<|iC t).1+(dS 22<|ib t).1+(dc j<|ct t).1+(dc j<|cm t).1>3000
   ·rw[if_pos c2] at h;cases h
   ·rw[if_neg c2] at h h3 h4 ⊢;have g:=(Jw (fun l=>(xT j l).1) r _ h).1;obtain⟨d1,e1⟩:=Jn 22 60 (iC t) ah<|Bool.eq_false_iff.2 fun q=>c1<|.inl q;obtain⟨d2,e2⟩:=Jn 22 60 (ib t) ah<|Bool.eq_false_iff.2 fun q=>c1<|.inr<|.inl q;have z1:0<=mC 60 (iC t)/\mC 60 (iC t)<=(dS 22<|iC t).1:=by have:=GA 60 (iC t) d1;unfold mC;split<;>omega
    have z2:0<=mC 60 (ib t)/\mC 60 (ib t)<=(dS 22<|ib t).1:=by have:=GA 60 (ib t) d2;unfold mC;split<;>omega
    have hc:QA 60 t n1 n2:=⟨by omega,by omega,d1,d2,by rw[e1];omega,by rw[e2];omega⟩;have hr:py 60 t (.int .i64 n1) (.int .i64 n2)=some ⟨true,.int .i64<|n1+1,.int .i64<|n2+(mC 60 (iC t)+mC 60 (ib t)),none⟩:=if_pos hc;obtain⟨p1,p2,q1,q2,q3⟩:=he (ct t) (n1+1) (n2+(mC 60 (iC t)+mC 60 (ib t))) (Bool.eq_false_iff.2 fun q=>c1<|.inr<|.inr<|.inl q) ah ah;obtain⟨u1,u2,w1,w2,w3⟩:=he (cm t) p1 p2 (Bool.eq_false_iff.2 fun q=>c1<|.inr<|.inr<|.inr q) ah ah;obtain⟨y1,y2,x1,x2,x3⟩:=Vv he r _ u1 u2 h ah ah ah ah ah ah;refine⟨y1,y2,?_,by omega,by omega⟩;unfold kV;rw[hr];simp only[q1,w1];exact x1
theorem TQ:∀(k j:Nat) (l:List St) (n1 n2:Int),j<=k->(dc j l).2=false->0<=n1/\n1+(dc j l).1<=1000000000->0<=n2/\n2+(dc j l).1<=1000000000->∃m1 m2,fK (py 60) k l (.int .i64 n1) (.int .i64 n2)=some ⟨true,.int .i64 m1,.int .i64 m2,none⟩/\(n1<=m1/\m1<=n1+(dc j l).1)/\n2<=m2/\m2<=n2+(dc j l).1
 |_,0,_,_,_,_,h,_,_=>by cases h
 |0,j+1,_,_,_,hj,_,_,_=>by omega
 |k+1,j+1,l,n1,n2,hj,h,h1,h2=>by obtain⟨g1,g2,g3,_⟩:=NM h;rw[g2] at h1 h2 ⊢;have g4:=(Jw (fun l=>(xT j l).1) l 0 g3).1;obtain⟨m1,m2,e,a,b⟩:=Vv (k:=k) (fun l n1 n2 x y z=>TQ k j l n1 n2 ah x y z) l 0 n1 n2 g3 ah ah h1.1 h2.1 ah ah;refine⟨m1,m2,?_,by omega,by omega⟩;unfold fK;rw[show decide (l.length<=1000000)=true from decide_eq_true ah];exact e
def sj:Nat->List St->Prop
 |0,_=>True
 |k+1,l=>∀s∈l,(0<=iR s/\iR s<256)/\sj k (ct s)/\sj k (cm s)
theorem O6:∀{k:Nat} {l:List St},sj k l->Il k l
 |0,_,_=>trivial
 |k+1,l,h=>fun s hs=>⟨(h s hs).1.1,O6 (h s hs).2.1,O6 (h s hs).2.2⟩
theorem Vx{k:Nat}{n:Int}(he:∀l,ll k l=true->sj k l->∃p,fK gz k l (.int .i64 n) (.bool false)=some p):∀r:List St,(∀s∈r,(ll k (ct s)=true/\ll k (cm s)=true)/\(0<=iR s/\iR s<256)/\sj k (ct s)/\sj k (cm s))->∃p,kV (fK gz k) gz r (.int .i64 n) (.bool false)=some p
 |[],_=>⟨_,rfl⟩
 |t::r,h=>by
  obtain⟨⟨d1,d2⟩,k1,k2,k3⟩:=h t List.mem_cons_self;unfold kV;have e1:gz t (.int .i64 n) (.bool false)=some (if mT t n=true then pY n else pN n):=by
   show(if 0<=iR t/\iR t<256 then(match mT t n with
    |true=>some (⟨true,.int .i64 n,.bool false,none⟩:fE)
    |false=>some ⟨false,.int .i64 n,.bool false,some .ret⟩) else none)=_
   rw[if_pos k1];cases mT t n<;>rfl
  rw[e1];cases hs:mT t n with
  |false=>exact⟨_,rfl⟩
  |true=>
   rw[if_pos rfl];show ∃p,(match fK gz k (ct t) (.int .i64 n) (.bool false) with
    |none=>none
    |some q=>match q.ret with
     |false=>some q
     |true=>match fK gz k (cm t) q.v1 q.v2 with
      |none=>none
      |some u=>match u.ret with
       |false=>some u
       |true=>kV (fK gz k) gz r u.v1 u.v2)=some p
   obtain⟨q1,w1⟩:=he _ d1 k2;rw[w1];rcases Bs k _ _ w1 with rfl|rfl
   ·show ∃p,(match fK gz k (cm t) (.int .i64 n) (.bool false) with
     |none=>none
     |some u=>match u.ret with
      |false=>some u
      |true=>kV (fK gz k) gz r u.v1 u.v2)=some p
    obtain⟨q2,w2⟩:=he _ d2 k3;rw[w2];rcases Bs k _ _ w2 with rfl|rfl
    ·exact Vx he r fun s hs=>h s<|List.mem_cons_of_mem _ hs
    ·exact⟨_,rfl⟩
   ·exact⟨_,rfl⟩
theorem TS{n:Int}:∀(k:Nat) (l:List St),ll k l=true->sj k l->∃p,fK gz k l (.int .i64 n) (.bool false)=some p
 |0,_,h,_=>by cases h
 |k+1,l,hd,hk=>by obtain⟨c1,c2⟩:=and_true.1 (show(decide (l.length<=1000000)&&l.all fun s=>ll k (ct s)&&ll k (cm s))=true from hd);unfold fK;rw[c1];exact Vx (TS k) l fun s hs=>⟨and_true.1<|List.all_eq_true.1 c2 s hs,hk s hs⟩
theorem ab8{s:St}{n:Int}(h:mT s n=true):pz 6 (iC s)=true/\pz 6 (ib s)=true:=by
 obtain⟨kind,to,a,b,bd,el⟩:=s;have h:A8 (qy kind) to a b bd el n=true:=h;have fit:∀(q:Bool) (e:Ex),uI q e n=true->pz 6 e=true:=fun q e h=>by
  cases q with
  |true=>have h:(eP 6 e&&rW 6 e n)=true:=h;exact PW (and_true.1 h).1
  |false=>have h:decide (EV e)=true:=h;have h:=of_decide_eq_true h;obtain⟨op,m,l⟩:=e;have hl:l=[]:=List.length_eq_zero_iff.1 h.2.2;subst hl;show(eP 6 (.mk op m [])||true)=true;rw[Bool.or_true]
 unfold A8 at h;split at h
 ·obtain⟨_,h⟩:=and_true.1 h;obtain⟨_,h⟩:=and_true.1 h;obtain⟨_,h⟩:=and_true.1 h;obtain⟨h1,h⟩:=and_true.1 h;obtain⟨h2,_⟩:=and_true.1 h;exact⟨fit _ _ h1,fit _ _ h2⟩
 ·cases h
theorem PH{n:Int}:∀(k j i:Nat) (l:List St),k<=j->(dc k l).2=false->AM i n l->k<=i->qS j l=true
 |0,_,_,_,_,h,_,_=>by cases h
 |k+1,0,_,_,hj,_,_,_=>by omega
 |k+1,j+1,0,_,_,_,h,_=>by cases h
 |k+1,j+1,i+1,l,hj,h,ha,hi=>by obtain⟨h1,_,_,h4⟩:=NM h;show(decide (l.length<=10000)&&l.all fun s=>pz 6 (iC s)&&(pz 6 (ib s)&&(qS j (ct s)&&qS j (cm s))))=true;rw[decide_eq_true (show l.length<=10000 by omega)];refine List.all_eq_true.2 fun s hs=>?_;obtain⟨a1,a2,a3⟩:=ha s hs;obtain⟨w1,w2⟩:=ab8 a1;rw[w1,w2,PH k j i _ ah (h4 s hs).2.2.1 a2 ah,PH k j i _ ah (h4 s hs).2.2.2 a3 ah];rfl
theorem aet{tx:List St}{n:Nat}(h:(dc 22 tx).2=false)(hk:sj 60 tx):∃b,AH tx (n:Int) b/\(b=true->qS 60 tx=true/\ox 6 tx):=by obtain⟨d1,d2⟩:=DU 22 60 tx ah h;have iz:=xT 22 tx;obtain⟨m1,m2,e1,_,_⟩:=TQ 60 22 tx 0 0 ah h ah ah;obtain⟨p,e2⟩:=TS (n:=(n:Int)) 60 tx d1 hk;have hm:AH tx (n:Int)<|decide (0<=(n:Int)/\(n:Int)<6/\fw 60 tx<=6/\sc 60 tx<=2000)&&(p.ret&&decide (m1<=40/\m2<=300)):=⟨m1,m2,p,e1,e2,rfl⟩;refine⟨_,hm,fun hb=>?_⟩;have hp:p.ret=true:=(and_true.1 (and_true.1 hb).2).1;refine⟨PH 22 60 60 tx ah h (BE 60 tx p e2 hp) ah,?_⟩;rw[hb] at hm;exact ahI hm d1<|O6 hk
end QI
end
section
open Go Go.Rn Go.RowKit Go.Proofs
namespace CT
open cr
variable {y:AV} {rest cs c:List AV} {T:Prop}
noncomputable section
abbrev IZ:=List AV->List AV->AV->List AV->Prop
open Classical in
def vO(R:IZ)(cs rest:List AV):Option<|AV×List AV:=if h:∃p:AV×List AV,R cs rest p.1 p.2 then some h.choose else none
theorem X0{R:IZ}(hd:∀cs rest y y' c c',R cs rest y c->R cs rest y' c'->y=y'/\c=c')(h:R cs rest y c):vO R cs rest=some (y,c):=by have hx:∃p:AV×List AV,R cs rest p.1 p.2:=⟨(y,c),h⟩;unfold vO;rw[dif_pos hx];obtain⟨e1,e2⟩:=hd _ _ _ _ _ _ hx.choose_spec h;exact congrArg some<|Prod.ext e1 e2
theorem Xf{R:IZ}(h:vO R cs rest=some (y,c)):R cs rest y c:=by
 unfold vO at h;split at h
 ·rename_i hx;injection h with h
  have:=hx.choose_spec;rw[h] at this;exact this
 ·cases h
def c3(v s:Int)(L:List Int):List AV:=[.int .i64 v,.int .i64 s,aD aG L]
theorem Xg{v s v' s':Int}{L L':List Int}(h:c3 v s L=c3 v' s' L'):v=v'/\s=s'/\L=L':=by
 injection h with h1 h;injection h with h2 h;injection h with h3 _
 injection h1 with _ h1;injection h2 with _ h2
 have e:di aG 1 (aD aG L) L':=by rw[h3];exact di.aD eI L'
 exact⟨h1,h2,di.inj rR (di.aD eI L) e⟩
abbrev oN(v s:Int)(L:List Int):List<|Nat×Option ae:=aq++[(270,some<|bt<|c3 v s L)]
abbrev nI(l:List Int):Nat:=nm (l.map aG).flatten
abbrev RO(y:AV)(cs:List AV)(y1:AV)(s':AS):Prop:=y1=y/\s'.h.get 270=some (bt cs)
section
variable {L:bU} {B:aJ} {f nt:Nat} {t:Tr AV} {K:List Item} {s:AS} {rs:List ResultVar} {R:AV->AS->Prop}
theorem oS(mc:Mt L B)(p:Pl)(x:T)(h:T=wp (rC L) 900 6 (.fr f nt K t s) p rs (fun v s _=>R v s) (fun _ _ _=>False):=by as_aux_lemma=>kernel_rfl)(h0:Nat.ble 271 s.nx=true:=by as_aux_lemma=>kernel_rfl):av pg B 271 (Fin pg rs R) ⟨f,t,nt,K,[],none⟩ s:=l6 (E:=rC L) eH rfl bT mc.2.2.1 mc.2.2.2 900 p x h h0
theorem oC(mc:Mt L B){F:AF}{S:AS}(H:av pg B 271 (Fin pg rs R) F S)(p:Pl)(x:T)(h:T=wp (rC L) 900 6 (.fr f nt K t s) p rs (fun v s _=>R v s) (fun fr s1 _=>fr=F/\s1=S):=by as_aux_lemma=>kernel_rfl)(h0:Nat.ble 271 s.nx=true:=by as_aux_lemma=>kernel_rfl):av pg B 271 (Fin pg rs R) ⟨f,t,nt,K,[],none⟩ s:=IL mc (C:=fun fr s1 _=>fr=F/\s1=S) (fun fr s1 p hC=>by obtain⟨rfl,rfl⟩:=hC;exact H) p x h h0
end
def I0(n i:Int):List<|Nat×AV:=[(0,.ptr<|some (270,0)),(1,.int .i64 n),(5,.int .i64 i)]
def Be(n i:Int):AF:=⟨57,aP<|I0 n i,max Tryz.f57.ntmps 2,[.code<|aW pg 57 [1,0,1,0,0],.inLoop<|aW pg 57 [1,0,1,0,0],.inBlock 0,.code<|aW pg 57 [1,1]],[],none⟩
abbrev DA(B:aJ)(b:Bool)(v s:Int)(L:List Int)(fr:AF):Prop:=av pg B 271 (Fin pg (aA Tryz.f57)<|RO (.bool b)<|c3 v s L) fr<|aj (oN v s L) 271
abbrev DB(l:List<|Nat×AV)(o:List<|Nat×Option ae)(fr:AF)(s:AS):Prop:=(l.map (fun q=>some q.2)=l.map (fun q=>some q.2))/\(o.map (fun q=>q.2)=o.map (fun q=>q.2))/\(fr=fr/\s=s)
abbrev MZ(y:AV)(cs:List AV):Prop:=y=y/\some (bt cs)=some (bt cs)
section
variable {B:aJ} {v s n i x:Int} {L:List Int} {b:Bool}
theorem a0(mc:Mt [] B)(H:DA B b v s L<|Be n 0):DA B b v s L<|sF 57 Tryz.f57 [.ptr<|some (270,0),.int .i64 n]:=oC mc H (.st 7<|.ls (I0 n 0) (oN v s L) 271 .no) (show DB (I0 n 0) (oN v s L) (Be n 0) (aj (oN v s L) 271) from⟨rfl,rfl,rfl,rfl⟩)
theorem aE(mc:Mt [] B)(h:(L.length:Int)<=i):DA B false v s L<|Be n i:=oS mc (.st 2<|.rg<|.go 6<|.fk .no<|.en<|.rt 5 .no)<|ax (i<(L.length:Int)) (fun h=>show False by omega) (fun _=>show MZ (.bool false) (c3 v s L) from⟨rfl,rfl⟩)
theorem aT(mc:Mt [] B)(h0:0<=i)(h:i<(L.length:Int))(hx:cx FU (nI L) (0+i.toNat*1+0) 1=some [.int .i64 n]):DA B true v s L<|Be n i:=oS mc (.st 2<|.rg<|.go 6<|.fk (.en<|.st 5<|.rg<|.go 5<|.eF<|.eG [.int .i64 n]<|.go 1<|.fk (.en<|.rt 4 .no) .no) .no)<|ax (i<(L.length:Int)) (fun _=>And.intro (show(0:Int)<=i from h0)<|ai (show i<(L.length:Int) from h)<|ai (cU (L.map aG).flatten)<|ai hx<|ax (n=n) (fun _=>show MZ (.bool true) (c3 v s L) from⟨rfl,rfl⟩) (fun h=>show False from h rfl)) (fun h=>show False by omega)
theorem aN(mc:Mt [] B)(hl:L.length<=1000000)(h0:0<=i)(h:i<(L.length:Int))(hx:cx FU (nI L) (0+i.toNat*1+0) 1=some [.int .i64 x])(hn:x≠n)(H:DA B b v s L<|Be n<|i+1):DA B b v s L<|Be n i:=oC mc H (.st 2<|.rg<|.go 6<|.fk (.en<|.st 5<|.rg<|.go 5<|.eF<|.eG [.int .i64 x]<|.go 1<|.fk .no<|.en<|.st 3<|.rg<|.go 1<|.vl (i6<|i+1)<|.go 1<|.en<|.st 1<|.ls (I0 n<|i+1) (oN v s L) 271 .no) .no)<|ax (i<(L.length:Int)) (fun _=>And.intro (show(0:Int)<=i from h0)<|ai (show i<(L.length:Int) from h)<|ai (cU (L.map aG).flatten)<|ai hx<|ax (x=n) (fun h=>show False from hn h) fun _=>And.intro (congrArg (AV.int .i64) (show IntKind.wrap .i64 (i+1)=i+1 from Bl ah)) (show DB (I0 n<|i+1) (oN v s L) (Be n<|i+1) (aj (oN v s L) 271) from⟨rfl,rfl,rfl,rfl⟩)) (fun h=>show False by omega)
theorem Im{k:Nat}(h:k<L.length):cx FU (nI L) (0+(k:Int).toNat*1+0) 1=some [.int .i64 L[k]]:=by rw[show 0+(k:Int).toNat*1+0=k*1+0 by omega];exact ya eI (List.getElem?_eq_getElem h) 0 1 ah
theorem Xh(mc:Mt [] B)(hl:L.length<=1000000):∀(m k:Nat),L.length - k=m->DA B (decide<|n∈L.drop k) v s L (Be n k)
 |0,k,h=>by rw[List.drop_of_length_le ah,decide_eq_false<|by simp];exact aE mc ah
 |m+1,k,h=>by
  have hk:k<L.length:=by omega
  rw[List.drop_eq_getElem_cons hk];by_cases q:L[k]=n
  ·rw[decide_eq_true (by rw[q];exact List.mem_cons_self)];have hx:=Im hk;rw[q] at hx;exact aT mc ah ah hx
  ·rw[show decide (n∈L[k]::L.drop (k+1))=decide (n∈L.drop (k+1)) from decide_eq_decide.2 (by rw[List.mem_cons];exact⟨fun e=>e.resolve_left fun e=>q e.symm,.inr⟩)];exact aN mc hl ah ah (Im hk) q<|Xh mc hl m (k+1) ah
end
def FC:IZ:=fun cs rest y c=>∃(v s n:Int) (L:List Int),cs=c3 v s L/\rest=[.int .i64 n]/\L.length<=1000000/\y= .bool (decide<|n∈L)/\c=cs
theorem FC.bR(cs rest:List AV)(y y':AV)(c c':List AV)(h:FC cs rest y c)(h':FC cs rest y' c'):y=y'/\c=c':=by
 obtain⟨v,s,n,L,rfl,rfl,_,rfl,rfl⟩:=h;obtain⟨v',s',n',L',e,e2,_,rfl,rfl⟩:=h';obtain⟨rfl,rfl,rfl⟩:=Xg e;injection e2 with e2 _;injection e2 with _ e2;subst e2
 exact⟨rfl,rfl⟩
def wJ:FuncId×KE:=(57,.raw<|uM<|vO FC)
theorem agc(hP:bB pg){L:bU}(h:aV L):aV<|wJ::L:=by refine WB hP gL eX ir gZ kG ki h cO Tryz.func57 (body:=aW pg 57 []) aY aY fun cs rest y kv e=>?_;obtain⟨v,s,n,L,rfl,rfl,hl,rfl,rfl⟩:=Xf e;refine⟨aL.1 aY,fun B mc=>?_⟩;exact a0 mc<|Xh mc hl _ 0 rfl
end
end CT
end
section
open Go Go.Rn Go.RowKit Go.Proofs
namespace Ar
open cr fQ kJ CT
variable {fz:lL}
noncomputable section
theorem Fc{lo bF nx:Nat}{l0 l:List<|Nat×AV}{o0 o:List<|Nat×Option ae}(h1:lo<=nx)(h2:nx<=bF)(h3:bF<top)(hs:∀r:Nat->Nat,(∀k,k<nx->r k=k)->(∀k,top<=k->r k=k)->∀p∈l,p.1<top/\∃x,(p.1,x)∈l0/\lH fz r x p.2)(ho:∀r:Nat->Nat,(∀k,k<nx->r k=k)->(∀k,top<=k->r k=k)->∀p∈o,p.1<nx/\∀y,p.2=some y->y.lZ=true/\∃x,(p.1,some x)∈o0/\fm x y/\fI fz r x y)(hz:∀p∈fz,nx<=p.1/\p.1<top/\FU p.2.1=some p.2.2/\∃N t z,(p.1,some<|.cells N t z)∈o0/\∀i x,p.2.2[i]? =some x->i<N/\cellAt t z i=some x/\x.cj=true/\x.cq=true):gY FU lo bF l0 o0 l o nx:=by
 let r:Nat->Nat:=fun k=>if k<nx\/top<=k then k else max k bF
 have r1:∀k,k<nx->r k=k:=fun k hk=>if_pos<|.inl hk;have r2:∀k,top<=k->r k=k:=fun k hk=>if_pos<|.inr hk;refine⟨fz,r,fun k hk=>r1 k ah,fun k a b=>?_,r2,by omega,hs r r1 r2,fun p hp=>?_,fun p hp q hq _ _ e=>?_,fun p hp=>?_,fun p hp q hq _ e=>?_⟩
 ·show bF<=(if _ then _ else _)/\(if _ then _ else _)<top;rw[if_neg ah];omega
 ·obtain⟨a,b⟩:=ho r r1 r2 p hp;exact⟨by omega,fun y hy=>by obtain⟨c1,x,c2,c3,c4⟩:=b y hy;rw[r1 _ a];exact⟨by omega,c1,x,c2,c3,c4⟩⟩
 ·have a:=(ho r r1 r2 p hp).1;have b:=(ho r r1 r2 q hq).1;rw[r1 _ a,r1 _ b] at e;exact e
 ·exact(hz p hp).2
 ·have a:=(ho r r1 r2 q hq).1;rw[r1 _ a] at e;have:=(hz p hp).1;omega
theorem LG{r:Nat->Nat}(hr:∀k,k<270->r k=k):∀p∈aq,p.1<270/\∀y,p.2=some y->y.lZ=true/\fI fz r y y:=fun p hp=>by
 have h1:(aq.all fun p=>Nat.blt p.1 270&&(match p.2 with|some x=>x.lZ|none=>true))=true:=by as_aux_lemma=>kernel_rfl
 obtain⟨a,b⟩:=and_true.1<|List.all_eq_true.1 h1 p hp;refine⟨(blt_eq _ _).mp a,fun y hy=>?_⟩;rw[hy] at b;exact⟨b,(GQ (nx:=270) hr cC p hp y hy).z⟩
def nO(n:Int):List Int->Nat
 |[]=>0
 |x::l=>if x<n then nO n l+1 else 0
def jW(L:List Int)(n:Int):List Int:=if n∈L then L else L.take (nO n L)++[n]++L.drop (nO n L)
theorem Xi{n:Int}:∀L:List Int,nO n L<=L.length
 |[]=>Nat.le_refl _
 |x::l=>by
  unfold nO;split
  ·have:=Xi (n:=n) l;rw[List.length_cons];omega
  ·omega
def xk(n i:Int):List<|Nat×AV:=[(0,.ptr<|some (270,0)),(1,.int .i64 n),(5,.int .i64 i)]
def Bf(n i:Int):AF:=⟨35,aP<|xk n i,max Tryz.f35.ntmps 2,[.code<|aW pg 35 [1,1,1,1,0,0,0],.inLoop<|aW pg 35 [1,1,1,1,0,0,0],.inBlock 0,.code<|aW pg 35 [1,1,1,1,1]],[],none⟩
abbrev qz(B:aJ)(c:List AV)(fr:AF)(s:AS):Prop:=av pg B 271 (Fin pg (aA Tryz.f35)<|RO (.int .i64 0) c) fr s
abbrev Rl(n:Int):AF:=(sF 35 Tryz.f35 [.ptr<|some (270,0),.int .i64 n])
abbrev oG(cs:List AV):AS->AS:=Rk 270 dV eB 270 cs
abbrev oQ(cs:List AV):AS->Prop:=YY 270 dV eB 270 cs
section
variable {B:aJ} {v s n i x:Int} {L:List Int} {c:List AV}
theorem YZ{T:Prop}(hl:L.length<=1000000){b:Bool}(hb:decide (n∈L)=b)(t:T):
 (∀z,oQ (c3 v s L) z->bg pg (sp [wJ]) FU 6 (.fn 57) [.ptr<|some (270,0),.int .i64 n] z= .ok (.bool b) (oG (c3 v s L) z))/\(true=true/\true=true/\some (bt<|c3 v s L)=some (bt<|c3 v s L))/\T:=
 ⟨Xe (n:=5) (val:=vO FC) cC rfl L9 H9 Yw (X0 FC.bR ⟨v,s,n,L,rfl,rfl,hl,by rw[hb],rfl⟩) (by show(true&&((true&&(true&&(Nat.ble top (nI L)&&true)))&&Nat.ble 3 top))=true;rw[aL.2<|cU _,aL.2 (show 3<=top by unfold top;omega)];rfl),⟨rfl,rfl,rfl⟩,t⟩
theorem b1(mc:Mt [wJ] B)(hl:L.length<=1000000)(hn:0<=n/\n<s)(hm:n∈L):qz B (c3 v s L) (Rl n)<|aj (oN v s L) 271:=oS mc (.st 4<|.rg<|.go 1<|.fk .no<|.go 6<|.fk .no<|.go 1<|.en<|.st 4<|.rg<|.go 2<|.cg (.bool true) (oG<|c3 v s L) (oQ<|c3 v s L)<|.en<|.rt 4 .no)<|ax (n<0) (fun h=>show False by omega) fun _=>ax (n>=s) (fun h=>show False by omega) fun _=>YZ (v:=v) (s:=s) hl (decide_eq_true hm) (show MZ i0 (c3 v s L) from⟨rfl,rfl⟩)
theorem b2(mc:Mt [wJ] B)(hl:L.length<=1000000)(hn:0<=n/\n<s)(hm:n ∉ L)(H:qz B c (Bf n 0)<|aj (oN v s L) 271):qz B c (Rl n)<|aj (oN v s L) 271:=oC mc H (.st 4<|.rg<|.go 1<|.fk .no<|.go 6<|.fk .no<|.go 1<|.en<|.st 4<|.rg<|.go 2<|.cg (.bool false) (oG<|c3 v s L) (oQ<|c3 v s L)<|.en<|.st 7<|.ls (xk n 0) (oN v s L) 271 .no)<|ax (n<0) (fun h=>show False by omega) fun _=>ax (n>=s) (fun h=>show False by omega) fun _=>YZ (v:=v) (s:=s) hl (decide_eq_false hm) (show DB (xk n 0) (oN v s L) (Bf n 0) (aj (oN v s L) 271) from⟨rfl,rfl,rfl,rfl⟩)
theorem b3(mc:Mt [wJ] B)(hl:L.length<=1000000)(h0:0<=i)(h:i<(L.length:Int))(hx:cx FU (nI L) (0+i.toNat*1+0) 1=some [.int .i64 x])(hn:x<n)(H:qz B c (Bf n<|i+1)<|aj (oN v s L) 271):qz B c (Bf n i)<|aj (oN v s L) 271:=oC mc H (.st 2<|.rg<|.go 6<|.fk (.go 6<|.eF<|.eG [.int .i64 x]<|.go 1<|.fk (.go 1<|.en<|.st 3<|.rg<|.go 1<|.vl (i6<|i+1)<|.go 1<|.en<|.st 2<|.ls (xk n<|i+1) (oN v s L) 271 .no) .no) .no)<|ax (i<(L.length:Int)) (fun _=>And.intro (show(0:Int)<=i from h0)<|ai (show i<(L.length:Int) from h)<|ai (cU (L.map aG).flatten)<|ai hx<|ax (x<n) (fun _=>And.intro (congrArg (AV.int .i64) (show IntKind.wrap .i64 (i+1)=i+1 from Bl ah)) (show DB (xk n<|i+1) (oN v s L) (Bf n<|i+1) (aj (oN v s L) 271) from⟨rfl,rfl,rfl,rfl⟩)) (fun h=>show False from h hn)) (fun h=>show False by omega)
def I1(n i:Int):AF:=⟨35,aP<|xk n i,max Tryz.f35.ntmps 2,(dq 35 [1,1,1,1,1]),[],none⟩
theorem b4(mc:Mt [wJ] B)(h:(L.length:Int)<=i)(H:qz B c (I1 n i)<|aj (oN v s L) 271):qz B c (Bf n i)<|aj (oN v s L) 271:=oC mc H (.st 2<|.rg<|.go 6<|.fk .no<|.go 11<|.en<|.st 2<|.ls (xk n i) (oN v s L) 271 .no)<|ax (i<(L.length:Int)) (fun h=>show False by omega) (fun _=>show DB (xk n i) (oN v s L) (I1 n i) (aj (oN v s L) 271) from⟨rfl,rfl,rfl,rfl⟩)
theorem b5(mc:Mt [wJ] B)(h0:0<=i)(h:i<(L.length:Int))(hx:cx FU (nI L) (0+i.toNat*1+0) 1=some [.int .i64 x])(hn:¬x<n)(H:qz B c (I1 n i)<|aj (oN v s L) 271):qz B c (Bf n i)<|aj (oN v s L) 271:=oC mc H (.st 2<|.rg<|.go 6<|.fk (.go 6<|.eF<|.eG [.int .i64 x]<|.go 1<|.fk .no<|.go 1<|.en<|.st 2<|.ls (xk n i) (oN v s L) 271 .no) .no)<|ax (i<(L.length:Int)) (fun _=>And.intro (show(0:Int)<=i from h0)<|ai (show i<(L.length:Int) from h)<|ai (cU (L.map aG).flatten)<|ai hx<|ax (x<n) (fun h=>show False from hn h) (fun _=>show DB (xk n i) (oN v s L) (I1 n i) (aj (oN v s L) 271) from⟨rfl,rfl,rfl,rfl⟩)) (fun h=>show False by omega)
theorem Xj(L:List Int)(lo hi:Nat)(h:lo<=hi)(h2:hi<=L.length):cx FU (nI L) (0+lo*1) ((hi - lo)*1)=some (((L.drop lo).take<|hi - lo).map aG).flatten:=by
 have e:∀l:List Int,(l.map aG).flatten=l.map (AV.int .i64):=fun l=>by
  induction l with
  |nil=>rfl
  |cons x l ih=>rw[List.map_cons,List.flatten_cons,ih];rfl
 unfold cx;rw[Cl<|eI.all L,e,e];show(match Nat.ble (0+lo*1+(hi - lo)*1) (L.map<|AV.int .i64).length with|true=>some (((L.map<|AV.int .i64).drop<|0+lo*1).take<|(hi - lo)*1)|false=>none)=_;rw[show Nat.ble (0+lo*1+(hi - lo)*1) (L.map<|AV.int .i64).length=true from aL.2 (by rw[List.length_map];omega)];show some _=_;rw[Nat.zero_add,Nat.mul_one,Nat.mul_one,List.map_take,List.map_drop]
def Bg:List<|Nat×AV:=[(4,.int .i64<|.ofNat 0)]
def o6(v s:Int)(L:List Int):List<|Nat×Option ae:=aq++[(270,some<|.cells 3 (Tr.fill [.int .i64 v,.int .i64 s,.slice (some (275,0)) L.length<|.ar L.length 1] 0 .nil) []),(275,some<|aI aG L)]
def M3:AF:=⟨35,aP Bg,max Tryz.f35.ntmps 2,(dq 35 [1,1,1,1,1,1,1]),[],none⟩
abbrev lA(L:List Int)(i:Int):List Int:=(L.drop 0).take<|i.toNat - 0
abbrev lB(L:List Int)(i:Int):List Int:=(L.drop i.toNat).take<|L.length - i.toNat
abbrev lC(L:List Int)(n i:Int):List Int:=(([]++lA L i)++[n])++lB L i
theorem b7(mc:Mt [wJ] B):qz B (c3 v s L) M3<|aj (oN v s L) 271:=oS mc (.rt 1 .no) (show MZ i0 (c3 v s L) from⟨rfl,rfl⟩)
theorem b6(mc:Mt [wJ] B)(hl:L.length<=100000)(h0:0<=i)(h:i<=(L.length:Int))(H:qz B c M3<|aj (oN v s<|lC L n i) 271):qz B c (I1 n i)<|aj (oN v s L) 271:=by
 have e1:(lA L i).length=i.toNat:=by rw[List.length_take,List.length_drop];omega
 have e2:(lB L i).length=L.length - i.toNat:=by rw[List.length_take,List.length_drop];omega
 have e3:(lC L n i).length<=100001:=by simp only[List.length_append,List.length_cons,List.length_nil,e1,e2];omega
 have hA:cx FU (nI L) (0+(0:Int).toNat*1) ((i.toNat - (0:Int).toNat)*1)=some ((lA L i).map aG).flatten:=Xj L 0 i.toNat (Nat.zero_le _) ah;have hB:cx FU (nI L) (0+i.toNat*1) (((Int.ofNat L.length).toNat - i.toNat)*1)=some ((lB L i).map aG).flatten:=Xj L i.toNat L.length ah<|Nat.le_refl _;exact oC mc H (.st 1<|.rg<|.go 7<|.sf 0 i<|.al Int aG [] (lA L i)<|.go 2<|.ap Int aG ([]++lA L i) n<|.go 5<|.sf i (Int.ofNat L.length)<|.al Int aG (([]++lA L i)++[n]) (lB L i)<|.go 3<|.en<|.st 2<|.rn Bg (o6 v s<|lC L n i) Bg (oN v s<|lC L n i) 276 271 .no)
  (ai (rX (0:Int))<|ai (rX i)<|ai (cU (L.map aG).flatten)<|ai (show(0:Int)<=0 from Int.le_refl _)<|ai (show(0:Int)<=i from h0) (ai (show i<=Int.ofNat L.length from h)
  (Gd aG [] (lA L i) (K:=1) (j8:=8) ⟨cU _,hA,e1.symm⟩ (fun x=>⟨rfl,rfl⟩) (by rw[e1];simp only[List.length_nil];unfold room;omega) (by rw[e1];simp only[List.length_nil];unfold top;omega)
  (wU aG ([]++lA L i) n (K:=1) (j8:=8) (fun x=>⟨rfl,rfl⟩) (by rw[List.nil_append,e1];unfold room;omega) (by rw[List.nil_append,e1];unfold top;omega)
  (ai (rX i)<|ai (rX<|Int.ofNat L.length)<|ai (cU (L.map aG).flatten)<|ai (show(0:Int)<=i from h0)<|ai (show i<=Int.ofNat L.length from h) (ai (show Int.ofNat L.length<=Int.ofNat L.length from Int.le_refl _)
  (Gd aG (([]++lA L i)++[n]) (lB L i) (K:=1) (j8:=8) ⟨cU _,hB,e2.symm⟩ (fun x=>⟨rfl,rfl⟩) (by rw[e2,List.nil_append,List.length_append,e1];simp only[List.length_cons,List.length_nil];unfold room;omega) (by rw[e2,List.nil_append,List.length_append,e1];simp only[List.length_cons,List.length_nil];unfold top;omega)
  (show(Bg.map (fun q=>some q.2)=Bg.map (fun q=>some q.2))/\((o6 v s<|lC L n i).map (fun q=>q.2)=(o6 v s<|lC L n i).map (fun q=>q.2))/\gY FU 271 276 Bg (o6 v s<|lC L n i) Bg (oN v s<|lC L n i) 271/\(M3=M3/\aj (oN v s<|lC L n i) 271=aj (oN v s<|lC L n i) 271) from
   ⟨rfl,rfl,Fc (fz:=[(275,nI<|lC L n i,((lC L n i).map aG).flatten)]) ah ah eX (fun r hr ht p hp=>by
    simp only[Bg,List.mem_cons,List.not_mem_nil,or_false] at hp;subst hp;exact⟨by show 4<top;unfold top;omega,_,mi 0,(bz.int _ _).z⟩) (fun r hr ht p hp=>by
    rcases List.mem_append.1 hp with hp|hp
    ·obtain⟨a,b⟩:=LG (fz:=[(275,nI<|lC L n i,((lC L n i).map aG).flatten)]) (fun k hk=>hr k ah) p hp;refine⟨by omega,fun y hy=>?_⟩;obtain⟨c,d⟩:=b y hy;exact⟨c,y,List.mem_append_left _ (by rw[←hy];exact hp),fm.refl _,d⟩
    ·rw[List.mem_singleton] at hp;subst hp;refine⟨by show 270<271;omega,fun y hy=>?_⟩;cases hy;exact⟨rfl,_,List.mem_append_right _ List.mem_cons_self,qH,fI.cells (l:=[.int .i64 v,.int .i64 s,.slice (some (275,0)) (lC L n i).length<|.ar (lC L n i).length 1]) (m:=c3 v s<|lC L n i) H9 ⟨(bz.int _ _).z,(bz.int _ _).z,GY (List.mem_singleton.2 rfl) ht rfl,trivial⟩ rfl⟩) (fun p hp=>by
    rw[List.mem_singleton] at hp;subst hp;exact⟨by show 271<=275;omega,GZ eI eX 275 eX<|List.mem_append_right _<|List.mem_cons_of_mem _ List.mem_cons_self⟩),rfl,rfl⟩))))))))
theorem X1{k:Nat}(h:k<=L.length):lC L n (k:Int)=L.take k++[n]++L.drop k:=by show(([]++(L.drop 0).take ((k:Int).toNat - 0))++[n])++(L.drop (k:Int).toNat).take (L.length - (k:Int).toNat)=_;rw[Int.toNat_natCast,List.drop_zero,Nat.sub_zero,List.nil_append,List.take_of_length_le (l:=L.drop k) (by rw[List.length_drop];omega)]
theorem Xk(mc:Mt [wJ] B)(hl:L.length<=100000):∀(m k:Nat),L.length - k=m->k<=L.length->qz B (c3 v s<|L.take (k+nO n (L.drop k))++[n]++L.drop (k+nO n (L.drop k))) (Bf n k) (aj (oN v s L) 271)
 |0,k,h,hk=>by
  have e:k=L.length:=by omega
  subst e;rw[List.drop_length,show nO n []=0 from rfl,Nat.add_zero];refine b4 mc ah<|b6 mc hl ah ah ?_;rw[X1<|Nat.le_refl _];exact b7 mc
 |m+1,k,h,hk=>by
  have rp:k<L.length:=by omega
  rw[List.drop_eq_getElem_cons rp,nO];by_cases q:L[k]<n
  ·rw[if_pos q,show k+(nO n (L.drop<|k+1)+1)=(k+1)+nO n (L.drop<|k+1) by omega];exact b3 mc ah ah ah (Im rp) q<|Xk mc hl m (k+1) ah ah
  ·rw[if_neg q,Nat.add_zero];refine b5 mc ah ah (Im rp) q<|b6 mc hl ah ah ?_;rw[X1 hk];exact b7 mc
end
def FD:IZ:=fun cs rest y c=>∃(v s n:Int) (L:List Int),cs=c3 v s L/\rest=[.int .i64 n]/\(0<=n/\n<s)/\L.length<=100000/\y= .int .i64 0/\c=c3 v s (jW L n)
theorem FD.bR(cs rest:List AV)(y y':AV)(c c':List AV)(h:FD cs rest y c)(h':FD cs rest y' c'):y=y'/\c=c':=by
 obtain⟨v,s,n,L,rfl,rfl,_,_,rfl,rfl⟩:=h;obtain⟨v',s',n',L',e,e2,_,_,rfl,rfl⟩:=h';obtain⟨rfl,rfl,rfl⟩:=Xg e;injection e2 with e2 _;injection e2 with _ e2;subst e2
 exact⟨rfl,rfl⟩
def Aa:FuncId×KE:=(35,.raw<|uM<|vO FD)
theorem ade(hP:bB pg){L:bU}(h:aV L):aV<|Aa::L:=by
 refine WB hP gL eX ir gZ kG ki h (agc hP cO) Tryz.func35 (body:=aW pg 35 []) aY aY fun cs rest y kv e=>?_;obtain⟨v,s,n,L,rfl,rfl,hn,hl,rfl,rfl⟩:=Xf e;refine⟨aL.1 aY,fun B mc=>?_⟩;show qz B (c3 v s<|jW L n) (Rl n)<|aj (oN v s L) 271;unfold jW;by_cases q:n∈L
 ·rw[if_pos q];exact b1 mc ah hn q
 ·rw[if_neg q];refine b2 mc ah hn q ?_;have:=Xk (v:=v) (s:=s) (n:=n) mc hl _ 0 rfl<|Nat.zero_le _;rw[List.drop_zero,Nat.zero_add] at this;exact this
theorem agd(L:List Int)(n:Int):(jW L n).length<=L.length+1:=by
 unfold jW;split
 ·omega
 ·have:=Xi (n:=n) L;rw[List.length_append,List.length_append,List.length_take,List.length_drop];simp only[List.length_cons,List.length_nil];omega
end
end Ar
end
section
open Go Go.Rn Go.RowKit Go.Proofs
namespace LH
open cr fQ kJ CT Ar
variable {T:Prop}
noncomputable section
def xm(r:List Int)(i:Int):List<|Nat×AV:=[(1,aD aG r),(6,.ptr<|some (270,0)),(8,.int .i64 i)]
def KT:List Item:=[.code<|aW pg 13 [1,1,1,0,1,0,0],.inLoop<|aW pg 13 [1,1,1,0,1,0,0],.inBlock 0,.code<|aW pg 13 [1,1,1,1]]
def nK(r:List Int)(i:Int):AF:=⟨13,aP<|xm r i,max Tryz.f13.ntmps 2,KT,[],none⟩
abbrev oZ(s:Int):List<|Nat×Option ae:=aq++[(270,some<|.cells 3 (Tr.fill [.int .i64 0,.int .i64 s,.slice none 0<|.known 0] 0 .nil) [])]
abbrev Bh(B:aJ)(y:AV)(fr:AF)(s:AS):Prop:=av pg B 270 (Fin pg (aA Tryz.f13) fun v _=>v=y) fr s
section
variable {B:aJ} {s i x:Int} {L r:List Int} {y:AV}
theorem cT(mc:Mt [Aa] B){t:Tr AV}{K:List Item}{z:AS}{F:AF}{S:AS}(H:Bh B y F S)(p:Pl)(x:T)(h:T=wp (en [Aa]) 900 6 (.fr 13 (max Tryz.f13.ntmps 2) K t z) p (aA Tryz.f13) (fun v _ _=>v=y) (fun fr s1 _=>fr=F/\s1=S):=by as_aux_lemma=>kernel_rfl)(h0:Nat.ble 270 z.nx=true:=by as_aux_lemma=>kernel_rfl):Bh B y ⟨13,t,max Tryz.f13.ntmps 2,K,[],none⟩ z:=wC mc (C:=fun fr s1 _=>fr=F/\s1=S) (fun fr s1 _ hC=>by obtain⟨rfl,rfl⟩:=hC;exact H) p x h h0
theorem t0(mc:Mt [Aa] B)(hs:1<=s/\s<=32)(H:Bh B y (nK r 0)<|aj (oN 0 s []) 271):Bh B y (sF 13 Tryz.f13 [.int .i64 s,aD aG r])<|aj aq 270:=
 cT mc H (.st 3<|.rg<|.go 1<|.il<|.st 4<|.rg<|.go 8<|.fk .no<|.go 3<|.fk .no<|.go 1<|.en<|.rt 5<|.go 5<|.en<|.st 10<|.rn (xm r 0) (oZ s) (xm r 0) (oN 0 s []) 271 271 .no)
  (ax (s<1) (fun h=>show False by omega) fun _=>ax (s>32) (fun h=>show False by omega) (fun _=>show((xm r 0).map (fun q=>some q.2)=(xm r 0).map (fun q=>some q.2))/\((oZ s).map (fun q=>q.2)=(oZ s).map (fun q=>q.2))/\gY FU 270 271 (xm r 0) (oZ s) (xm r 0) (oN 0 s []) 271/\(nK r 0=nK r 0/\aj (oN 0 s []) 271=aj (oN 0 s []) 271) from
   ⟨rfl,rfl,Fc (fz:=[]) ah ah eX (fun f hr ht p hp=>by
    simp only[xm,List.mem_cons,List.not_mem_nil,or_false] at hp;rcases hp with rfl|rfl|rfl
    ·exact⟨by show 1<top;unfold top;omega,_,mi 0,ae1 ht⟩
    ·exact⟨by show 6<top;unfold top;omega,_,mi 1,(bz.ptr<|hr 270 ah).z⟩
    ·exact⟨by show 8<top;unfold top;omega,_,mi 2,(bz.int _ _).z⟩) (fun f hr ht p hp=>by
    rcases List.mem_append.1 hp with hp|hp
    ·obtain⟨a,b⟩:=LG (fz:=[]) (fun k hk=>hr k ah) p hp;refine⟨by omega,fun y hy=>?_⟩;obtain⟨c,d⟩:=b y hy;exact⟨c,y,List.mem_append_left _ (by rw[←hy];exact hp),fm.refl _,d⟩
    ·rw[List.mem_singleton] at hp;subst hp;refine⟨by show 270<271;omega,fun y hy=>?_⟩;cases hy;exact⟨rfl,_,List.mem_append_right _ List.mem_cons_self,qH,fI.cells (l:=[.int .i64 0,.int .i64 s,.slice none 0<|.known 0]) (m:=c3 0 s []) H9 ⟨(bz.int _ _).z,(bz.int _ _).z,J9,trivial⟩ rfl⟩) (fun p hp=>by cases hp),rfl,rfl⟩))
theorem tE(mc:Mt [Aa] B)(h:(r.length:Int)<=i):Bh B (.tuple [aD aG L,.bool true]) (nK r i)<|aj (oN 0 s L) 271:=wS mc (R:=fun v _=>v= .tuple [aD aG L,.bool true]) (.st 2<|.rg<|.go 3<|.fk .no<|.en<|.rt 5 .no)<|ax (i<(r.length:Int)) (fun h=>show False by omega) (fun _=>show AV.tuple [aD aG L,.bool true]= .tuple [aD aG L,.bool true] from rfl)
theorem m8{n:Int}(hl:L.length<=10000)(hn:0<=n/\n<s)(t:T):
 (∀z,oQ (c3 0 s L) z->bg pg (sp [Aa]) FU 6 (.fn 35) [.ptr<|some (270,0),.int .i64 n] z= .ok (.int .i64 0) (oG (c3 0 s<|jW L n) z))/\(true=true/\true=true/\some (bt<|c3 0 s L)=some (bt<|c3 0 s L))/\T:=
 ⟨Xe (n:=5) (val:=vO FD) cC rfl L9 H9 Yw (X0 FD.bR ⟨0,s,n,L,rfl,rfl,hn,by omega,rfl,rfl⟩) (by show(true&&((true&&(true&&(Nat.ble top (nI<|jW L n)&&true)))&&Nat.ble 3 top))=true;rw[aL.2<|cU _,aL.2 (show 3<=top by unfold top;omega)];rfl),⟨rfl,rfl,rfl⟩,t⟩
theorem tN(mc:Mt [Aa] B)(hr:r.length<=100000)(hl:L.length<=10000)(h0:0<=i)(h:i<(r.length:Int))(hx:cx FU (nI r) (0+i.toNat*1+0) 1=some [.int .i64 x])(hn:0<=x/\x<s)(H:Bh B y (nK r<|i+1)<|aj (oN 0 s<|jW L x) 271):Bh B y (nK r i)<|aj (oN 0 s L) 271:=cT mc H (.st 2<|.rg<|.go 3<|.fk (.en<|.st 5<|.rg<|.go 3<|.eF<|.eG [.int .i64 x]<|.cg (.int .i64 0) (oG<|c3 0 s<|jW L x) (oQ<|c3 0 s L)<|.go 1<|.en<|.st 3<|.rg<|.go 1<|.vl (i6<|i+1)<|.go 1<|.en<|.st 1<|.ls (xm r<|i+1) (oN 0 s<|jW L x) 271 .no) .no)<|ax (i<(r.length:Int)) (fun _=>And.intro (show(0:Int)<=i from h0)<|ai (show i<(r.length:Int) from h)<|ai (cU (r.map aG).flatten)<|ai hx<|m8 (s:=s) (L:=L) (n:=x) hl hn<|ai (congrArg (AV.int .i64) (show IntKind.wrap .i64 (i+1)=i+1 from Bl ah)) (show DB (xm r<|i+1) (oN 0 s<|jW L x) (nK r<|i+1) (aj (oN 0 s<|jW L x) 271) from⟨rfl,rfl,rfl,rfl⟩)) (fun h=>show False by omega)
theorem Xl(mc:Mt [Aa] B)(hr:r.length<=5000)(hs:∀x∈r,0<=x/\x<s):∀(m k:Nat) (L:List Int),r.length - k=m->L.length<=k->k<=r.length->Bh B (.tuple [aD aG<|(r.drop k).foldl jW L,.bool true]) (nK r k) (aj (oN 0 s L) 271)
 |0,k,L,h,hl,hk=>by rw[List.drop_of_length_le ah];exact tE mc ah
 |m+1,k,L,h,hl,hk=>by
  have rp:k<r.length:=by omega
  rw[List.drop_eq_getElem_cons rp,List.foldl_cons];have:=agd L r[k];exact tN mc ah ah ah ah (Im rp) (hs _<|List.getElem_mem rp)<|Xl mc hr hs m (k+1) _ ah ah ah
end
def Eh(args:List AV)(v:AV):Prop:=∃(s:Int) (r:List Int),args=[.int .i64 s,aD aG r]/\(1<=s/\s<=32)/\(∀x∈r,0<=x/\x<s)/\r.length<=5000/\v= .tuple [aD aG<|r.foldl jW [],.bool true]
theorem Eh.bR(args:List AV)(v v':AV)(h:Eh args v)(h':Eh args v'):v=v':=by
 obtain⟨s,r,rfl,_,_,_,rfl⟩:=h;obtain⟨s',r',e,_,_,_,rfl⟩:=h';injection e with e1 e;injection e with e2 _
 have e:di aG 1 (aD aG r) r':=by rw[e2];exact di.aD eI r'
 rw[di.inj rR (di.aD eI r) e]
def X2:FuncId×KE:=(13,.val<|ba Eh)
theorem aev(hP:bB pg){L:bU}(h:aV L):aV<|X2::L:=by refine g9 hP h (ade hP cO) Tryz.func13 fun args v e=>?_;obtain⟨s,r,rfl,hs,hr,hl,rfl⟩:=gf e;refine⟨aL.1 aY,fun B mc=>?_⟩;rw[←gN];exact t0 mc hs<|Xl mc hl hr _ 0 [] rfl (Nat.zero_le _)<|Nat.zero_le _
end
end LH
end
section
open Go Go.Rn Go.RowKit Go.Proofs
namespace FE
open cr
noncomputable section
def KI:List Item:=[.code<|aW pg 14 [1,1,0,1,0,0],.inLoop<|aW pg 14 [1,1,0,1,0,0],.inBlock 0,.code<|aW pg 14 [1,1,1]]
abbrev Gi:Nat:=max Tryz.f14.ntmps 2
def pC(A C L:Nat)(i:Int):List<|Nat×AV:=[(0,.ab A 0 L),(1,.ab C 0 L),(5,.int .i64 i)]
def pF(A C L:Nat)(i:Int):AF:=⟨14,aP<|pC A C L i,Gi,KI,[],none⟩
abbrev u9(B:aJ)(b:Bool)(fr:AF)(s:AS):Prop:=av pg B 270 (Fin pg (aA Tryz.f14) fun y _=>y= .bool b) fr s
abbrev Z2(A C L:Nat)(i:Int):Prop:=((pC A C L i).map (fun q=>some q.2)=(pC A C L i).map (fun q=>some q.2))/\(aq.map (fun q=>q.2)=aq.map (fun q=>q.2))/\(pF A C L i=pF A C L i/\aj aq 270=aj aq 270)
section
variable {B:aJ} {b:Bool} {A C L:Nat} {i x y:Int}
theorem cI(mc:Mt [] B){t:Tr AV}{K:List Item}(H:u9 B b (pF A C L i)<|aj aq 270)(p:Pl){T:Prop}(z:T)(h:T=wp (en []) 900 6 (.fr 14 Gi K t<|aj aq 270) p (aA Tryz.f14) (fun y _ _=>y= .bool b) (fun fr s1 _=>fr=pF A C L i/\s1=aj aq 270):=by as_aux_lemma=>kernel_rfl):u9 B b ⟨14,t,Gi,K,[],none⟩<|aj aq 270:=wC mc (L:=[]) (C:=fun fr s1 _=>fr=pF A C L i/\s1=aj aq 270) (fun fr s1 _ hC=>by obtain⟨rfl,rfl⟩:=hC;exact H) p z h cn
theorem s0(mc:Mt [] B)(H:u9 B b (pF A C L 0)<|aj aq 270):u9 B b ⟨14,dZ [.ab A 0 L,.ab C 0 L],Gi,(dq 14 []),[],none⟩<|aj aq 270:=cI mc H (.st 4<|.rg<|.go 4<|.fk .no<|.en<|.st 7<|.ls (pC A C L 0) aq 270 .no)<|ax ((L:Int)≠(L:Int)) (fun h=>show False from h rfl) (fun _=>show Z2 A C L 0 from⟨rfl,rfl,rfl,rfl⟩)
theorem sN{L':Nat}(mc:Mt [] B)(hn:L≠L'):u9 B false ⟨14,dZ [.ab A 0 L,.ab C 0 L'],Gi,(dq 14 []),[],none⟩<|aj aq 270:=wS mc (L:=[]) (R:=fun y _=>y= .bool false) (.st 4<|.rg<|.go 4<|.fk (.en<|.rt 5 .no) .no) (ax ((L:Int)≠(L':Int)) (fun _=>show(AV.bool false)= .bool false from rfl) (fun h=>show False by omega)) cn cn
theorem stp(mc:Mt [] B)(hA:top<=A)(hC:top<=C)(hL:L<=1000000)(h0:0<=i)(h1:i<(L:Int))(hx:cx FU A (0+i.toNat*1+0) 1=some [.int .i64 x])(hy:cx FU C (0+i.toNat*1+0) 1=some [.int .i64 x])(H:u9 B b (pF A C L<|i+1)<|aj aq 270):u9 B b (pF A C L i)<|aj aq 270:=cI mc H (.st 2<|.rg<|.go 3<|.fk (.en<|.st 5<|.rg<|.go 2<|.eF<|.eG [.int .i64 x]<|.go 2<|.eF<|.eG [.int .i64 x]<|.fk .no<|.en<|.st 3<|.rg<|.go 1<|.vl (i6<|i+1)<|.go 1<|.en<|.st 1<|.ls (pC A C L<|i+1) aq 270 .no) .no)<|ax (i<(L:Int)) (fun _=>And.intro (show(0:Int)<=i from h0)<|ai (show i<(L:Int) from h1)<|ai hA<|ai hx<|ai (show(0:Int)<=i from h0)<|ai (show i<(L:Int) from h1)<|ai hC<|ai hy<|ax (x≠x) (fun h=>show False from h rfl) fun _=>And.intro (congrArg (AV.int .i64) (show IntKind.wrap .i64 (i+1)=i+1 from Bl ah)) (show Z2 A C L (i+1) from⟨rfl,rfl,rfl,rfl⟩)) (fun h=>show False from h h1)
theorem stN(mc:Mt [] B)(hA:top<=A)(hC:top<=C)(h0:0<=i)(h1:i<(L:Int))(hx:cx FU A (0+i.toNat*1+0) 1=some [.int .i64 x])(hy:cx FU C (0+i.toNat*1+0) 1=some [.int .i64 y])(cz:x≠y):u9 B false (pF A C L i)<|aj aq 270:=wS mc (L:=[]) (R:=fun y _=>y= .bool false) (.st 2<|.rg<|.go 3<|.fk (.en<|.st 5<|.rg<|.go 2<|.eF<|.eG [.int .i64 x]<|.go 2<|.eF<|.eG [.int .i64 y]<|.fk (.en<|.rt 4 .no) .no) .no) (ax (i<(L:Int)) (fun _=>And.intro (show(0:Int)<=i from h0)<|ai (show i<(L:Int) from h1)<|ai hA<|ai hx<|ai (show(0:Int)<=i from h0)<|ai (show i<(L:Int) from h1)<|ai hC<|ai hy<|ax (x≠y) (fun _=>show(AV.bool false)= .bool false from rfl) (fun h=>show False from h cz)) (fun h=>show False from h h1)) cn cn
theorem sE(mc:Mt [] B)(h1:(L:Int)<=i):u9 B true (pF A C L i)<|aj aq 270:=wS mc (L:=[]) (R:=fun y _=>y= .bool true) (.st 2<|.rg<|.go 3<|.fk .no<|.en<|.rt 5 .no) (ax (i<(L:Int)) (fun h=>show False by omega) (fun _=>show(AV.bool true)= .bool true from rfl)) cn cn
end
def Fe(args:List AV)(v:AV):Prop:=∃l m:List Int,args=[aD aG l,aD aG m]/\l.length<=1000000/\v= .bool (decide<|l=m)
theorem Vy{l m:List Int}(h:aD aG l=aD aG m):l=m:=by
 have e:di aG 1 (aD aG l) m:=by rw[h];exact di.aD eI m
 exact di.inj rR (di.aD eI l) e
theorem Fe.bR(args:List AV)(v v':AV)(h:Fe args v)(h':Fe args v'):v=v':=by
 obtain⟨l,m,rfl,_,rfl⟩:=h;obtain⟨l',m',e,_,rfl⟩:=h';injection e with e1 e;injection e with e2 _
 rw[Vy e1,Vy e2]
def X3:FuncId×KE:=(14,.val<|ba Fe)
theorem aew(hP:bB pg){L:bU}(h:aV L):aV<|X3::L:=by
 refine g9 hP h cO Tryz.func14 fun args v e=>?_;obtain⟨l,m,rfl,hl,rfl⟩:=gf e;refine⟨aL.1 aY,fun B mc=>?_⟩;rw[←gN];by_cases hn:l.length=m.length
 ·have key:∀(n i:Nat),l.length - i=n->i<=l.length->l.take i=m.take i->u9 B (decide<|l=m) (pF (nm (l.map aG).flatten) (nm (m.map aG).flatten) l.length i) (aj aq 270):=by
   intro n;induction n with
   |zero=>
    intro i h1 h2 h3;have:l=m:=by rw[List.take_of_length_le ah,List.take_of_length_le ah] at h3;exact h3
    rw[decide_eq_true this];exact sE mc ah
   |succ n ih=>
    intro i h1 h2 h3;have hi:i<l.length:=by omega
    have hx:=ya eI (List.getElem?_eq_getElem hi) 0 1 ah;have hy:=ya eI (List.getElem?_eq_getElem (show i<m.length by omega)) 0 1 ah;have ei:0+(i:Int).toNat*1+0=i*1+0:=by omega
    rw[←ei] at hx hy;by_cases q:l[i]=m[i]'ah
    ·rw[←q] at hy;have:=ih (i+1) ah ah (by rw[List.take_add_one,List.take_add_one,h3,List.getElem?_eq_getElem hi,List.getElem?_eq_getElem (show i<m.length by omega),q]);rw[show(((i+1:Nat)):Int)=(i:Int)+1 by omega] at this;exact stp mc (cU _) (cU _) hl ah ah hx hy this
    ·have:l≠m:=fun e=>q (by subst e;rfl);rw[decide_eq_false this];exact stN mc (cU _) (cU _) ah ah hx hy q
  have:=s0 mc<|key _ 0 rfl (Nat.zero_le _) rfl;show u9 B (decide<|l=m) ⟨14,dZ [.ab (nm (l.map aG).flatten) 0 l.length,.ab (nm (m.map aG).flatten) 0 m.length],Gi,(dq 14 []),[],none⟩<|aj aq 270;rw[←hn];exact this
 ·have:l≠m:=fun e=>hn (by rw[e]);rw[decide_eq_false this];exact sN mc hn
end
end FE
end
section
open Go Go.Rn Go.RowKit Go.Proofs
namespace FF
open cr fQ kJ A6 AL Ar
variable {s:AS} {T:Prop} {t:Tr AV} {nt f:Nat} {K:List Item}
noncomputable section
abbrev fp(L:bU):Env:=wx pg 270 eB dV L 270 false
abbrev bx(v:AV):Option ae:=some<|.cells 1 (Tr.fill [v] 0 .nil) []
abbrev kY:AV:=.slice none 0<|.known 0
def zr:Code:=aW pg 82 [1,0,1,0,0]
def lT:Code:=aW pg 82 [1,0,1,0,1]
def xo:AV:=.func (.func 83) [] [.ptr<|some (271,0)]
def DC:List<|Nat×AV:=[(0,kY),(1,xo),(2,.ptr<|some (272,0)),(4,kY),(6,xo)]
def KI:List Item:=[.inBlock 0,.code<|aW pg 82 [1,1]]
def iq(st:LoopState)(p:Option Code):ae:=.loop st p 82 (aP DC) 13 [7] zr lT 273
def xp(l:List Int):Nat->AV
 |0=>kY
 |j+1=>.slice (some (276+2*j,0)) l.length<|.ar l.length 1
def Z3(l:List Int)(b:Nat->Option ae):Nat->List (Nat×Option ae)
 |0=>[]
 |j+1=>((List.range<|2*j+1).map fun k=>(275+k,b k))++[(276+2*j,some<|aI aG l)]
def oR(a:dM)(l:List Int)(b:Nat->Option ae)(j:Nat)(lo:ae):List<|Nat×Option ae:=aq++([(270,some<|kI a),(271,bx<|.ptr<|some (270,0)),(272,bx<|xp l j),(273,some .defs),(274,some lo)]++Z3 l b j)
abbrev sR(a:dM)(l:List Int)(b:Nat->Option ae)(j:Nat)(lo:ae):AS:=aj (oR a l b j lo)<|275+2*j
def uK(b:Nat->Option ae)(j:Nat)(o:Option ae)(k:Nat):Option ae:=match Nat.beq k j with
 |true=>o
 |false=>b k
def nb(l:List Int)(b:Nat->Option ae)(x:Int):Nat->Nat->Option ae
 |0=>uK b 0<|bx<|.int .i64 x
 |j+1=>uK (uK b (2*j+1) none) (2*j+2)<|bx<|.int .i64 x
abbrev Gj(x:Int):Tr AV:=aP [(0,kY),(1,xo),(2,.ptr<|some (272,0)),(4,kY),(5,.int .i64 x),(6,xo),(7,.int .i64 x)]
def SA(P:Nat->Prop):Nat->Prop
 |0=>True
 |n+1=>SA P n/\P n
theorem M4{P:Nat->Prop}:∀{n:Nat},SA P n->∀{j:Nat},j<n->P j
 |n+1,h,j,hj=>if e:j=n then e▸h.2 else M4 h.1 ah
theorem kc{c j:Nat}{P:Nat->Nat->Prop}(hj:j<=32)(hc:c=1\/c=0/\j=0)(h1:SA (P 1) 33)(h0:P 0 0):P c j:=by
 rcases hc with rfl|⟨rfl,rfl⟩
 ·exact M4 h1 ah
 ·exact h0
section
variable {a:dM} {l:List Int} {b:Nat->Option ae} {x:Int}
abbrev CU(a:dM)(l:List Int)(b:Nat->Option ae)(j:Nat)(x:Int):Prop:=bg pg (sp []) FU 3 (.round 274) [.int .i64 x] (sR a l b j<|iq .ready none)= .ok (.bool true) (sR a (l++[x]) (nb l b x j) (j+1)<|iq .ready none)
abbrev Z4(a:dM)(l:List Int)(b:Nat->Option ae)(j:Nat)(x:Int):Prop:=(none:Option Nat)=none/\([]:List Nat)=[]/\(some (.bool true,sR a (l++[x]) (nb l b x j) (j+1)<|iq .ready none):Option<|AV×AS)=some (.bool true,sR a (l++[x]) (nb l b x j) (j+1)<|iq .ready none)
theorem Mj(j:Nat)(pl:Pl)(t:T)(k1:getLoop 274 (sR a l b j<|iq .ready none)= .ok (.loop .ready none 82 (aP DC) 13 [7] zr lT 273) (sR a l b j<|iq .ready none):=by as_aux_lemma=>kernel_rfl)(k2:((⟨82,Gj x,13,[.beginRound,.code lT],[],none⟩:AF)=⟨82,Gj x,13,[.beginRound,.code lT],[],none⟩/\sR a l b j (iq .ready none)=sR a l b j (iq .ready none))=
 wp (fp []) 900 2 (.fr 82 13 [.code zr,.beginRound,.code lT] (je [7] [.int .i64 x]<|aP DC)<|sR a l b j<|iq .ready none) (.st 1<|.cut .no) [] (fun _ _ _=>False) (fun fr s1 _=>fr=⟨82,Gj x,13,[.beginRound,.code lT],[],none⟩/\s1=sR a l b j (iq .ready none)):=by as_aux_lemma=>kernel_rfl)(k3:eg pg (bg pg (sp []) FU 2) 1 ⟨82,Gj x,13,[.beginRound,.code lT],[],some 274⟩ (sR a l b j<|iq .ready none)= .ok (.go ⟨82,Gj x,13,[.code lT],[],some 274⟩) (sR a l b j<|iq .busy none):=by as_aux_lemma=>kernel_rfl)(k4:T=wp (fp []) 900 2 (.fr 82 13 [.code lT] (Gj x)<|sR a l b j<|iq .busy none) pl [] (fun _ _ _=>False) (fun fr s1 _=>fr.round=none/\fr.defers=[]/\zN pg (bg pg (sp []) FU 2) 274 fr s1=some (.bool true,sR a (l++[x]) (nb l b x j) (j+1)<|iq .ready none)):=by as_aux_lemma=>kernel_rfl):CU a l b j x:=
 DN k1 rfl (zG (E:=fp []) eH rfl (fun fr s p h=>by obtain⟨rfl,rfl⟩:=h;exact⟨rfl,rfl,Chunk.ev 1 _ _ _ _ k3<|zG (E:=fp []) eH rfl (fun fr s p h=>DM h.1 h.2.1 h.2.2) 900 pl t k4⟩) 900 _ ⟨rfl,rfl⟩ k2)
theorem akQ(hl:l=[]):CU a l b 0 x:=by subst hl;exact Mj 0 (.st 1<|.rg<|.go 5<|.en<|.cut .no) (show Z4 a [] b 0 x from⟨rfl,rfl,rfl⟩)
theorem akR{j:Nat}(hj:j<32)(hl:l.length<=100):CU a l b (j+1) x:=by
 have TT:=wU aG l x (K:=1) (j8:=8) (fun x=>⟨rfl,rfl⟩) (by unfold room;omega) eX (show Z4 a l b (j+1) x from⟨rfl,rfl,rfl⟩);rcases(by omega:j=0\/j=1\/j=2\/j=3\/j=4\/j=5\/j=6\/j=7\/j=8\/j=9\/j=10\/j=11\/j=12\/j=13\/j=14\/j=15\/j=16\/j=17\/j=18\/j=19\/j=20\/j=21\/j=22\/j=23\/j=24\/j=25\/j=26\/j=27\/j=28\/j=29\/j=30\/j=31) with rfl|rfl|rfl|rfl|rfl|rfl|rfl|rfl|rfl|rfl|rfl|rfl|rfl|rfl|rfl|rfl|rfl|rfl|rfl|rfl|rfl|rfl|rfl|rfl|rfl|rfl|rfl|rfl|rfl|rfl|rfl|rfl
 all_goals exact Mj _ (.st 1<|.rg<|.go 3<|.ap Int aG l x<|.go 1<|.en<|.cut .no) TT aY aY aY aY
theorem OX{j:Nat}(hj:j<=32)(hl:l.length=j):CU a l b j x:=by
 cases j with
 |zero=>exact akQ<|List.eq_nil_of_length_eq_zero hl
 |succ j=>exact akR ah ah
def tk:List Nat:=[3,5,6,7,8,9,10,11,12,13,14,15,16]
def fJ(c:Nat)(i:Int)(d:Nat->AV):List<|Nat×AV:=[(0,.yield 274),(1,.ptr<|some (271,0)),(4,.int .i64 i)]++(match c with
 |0=>[]
 |_=>tk.map fun k=>(k,d k))
abbrev fX(c:Nat)(i:Int)(d:Nat->AV):AF:=⟨83,aP<|fJ c i d,17,[.code<|aW pg 83 [1,0,0],.inLoop<|aW pg 83 [1,0,0],.inBlock 0],[],none⟩
abbrev RJ(R:AS->Prop)(v:AV)(s:AS):Prop:=v= .tuple []/\R s
abbrev fW(R:AS->Prop)(fr:AF)(s:AS):Prop:=mP (fp []) 3 (aA Tryz.f83) (RJ R) fr s
def dT(i:Int)(k:Nat):AV:=[.bool true,.bool true,.bool true,.int .i64 i,.bool true,.bool true,.int .i64 i,.ptr<|some (270,0),.int .i64 i,.bool true,.bool true,.yield 274,.int .i64 i,.bool true,.bool false,.bool false,.int .i64<|i+1].getD k<|.bool true
def dF(i:Int)(k:Nat):AV:=[.bool true,.bool true,.bool true,.int .i64 i,.bool true,.bool true,.int .i64 i,.ptr<|some (270,0),.int .i64 i,.bool false,.bool false,nj,nj,nj,nj,.bool false,.int .i64<|i+1].getD k<|.bool true
section
variable {R:AS->Prop} {i:Int} {d:Nat->AV} {c j:Nat}
theorem Du{FR:AF}{S1:AS}(H:fW R FR S1)(p:Pl)(x:T)(h:T=wp (fp []) 900 3 (.fr f nt K t s) p (aA Tryz.f83) (fun v s _=>RJ R v s) (fun fr s1 _=>fr=FR/\s1=S1):=by as_aux_lemma=>kernel_rfl):fW R ⟨f,t,nt,K,[],none⟩ s:=v8 (C:=fun fr s1 _=>fr=FR/\s1=S1) eH rfl (fun fr s1 p h=>by obtain⟨rfl,rfl⟩:=h;exact H) 900 p x h
theorem MT(p:Pl)(x:T)(h:T=wp (fp []) 900 3 (.fr f nt K t s) p (aA Tryz.f83) (fun v s _=>RJ R v s) (fun _ _ _=>False):=by as_aux_lemma=>kernel_rfl):fW R ⟨f,t,nt,K,[],none⟩ s:=v8 (C:=fun _ _ _=>False) eH rfl (fun _ _ _ h=>h.elim) 900 p x h
abbrev sG(a:dM)(l:List Int)(b:Nat->Option ae)(j:Nat):AS:=sR a l b j<|iq .ready none
abbrev M5(fr:AF)(s:AS):Prop:=fr=fr/\s=s
theorem MU(hi:32<=i)(hR:R<|sG a l b j)(k:((i<32->False)/\(¬i<32->RJ R (.tuple []) (sG a l b j)))=wp (fp []) 900 3 (.fr 83 17 (fX c i d).todo (fX c i d).tmps<|sG a l b j) (.st 1<|.rg<|.fk .no<|.en<|.rt 4 .no) (aA Tryz.f83) (fun v s _=>RJ R v s) (fun _ _ _=>False):=by as_aux_lemma=>kernel_rfl):fW R (fX c i d)<|sG a l b j:=MT _ ⟨fun h=>by omega,fun _=>⟨rfl,hR⟩⟩ k
def SC(p q:Pl):Pl:=.st 1<|.rg<|.fk (.en<|.st 8<|.rg<|.go 2<|.il<|.st 3<|.rg<|.go 4<|.fk (.go 6 p) q) .no
theorem MV(ha:iS a)(hi:0<=i/\i<32)(hs:i<a.fG)(hb:hasB a i=true)(hr:CU a l b j i)(H:fW R (fX 1 (i+1)<|dT i)<|sG a (l++[i]) (nb l b i j)<|j+1)(k:((i<32->((i>=0->(cellsOf (some<|kI a) 1 1=some [.int .i64 a.fG]/\((i<a.fG->((0:Int)<=i/\i<Int.ofNat 32/\cellsOf (some<|kI a) (2+i.toNat*1) 1=some [.bool true]/\(CU a l b j i/\(AV.int .i64 (IntKind.wrap .i64<|i+1)= .int .i64 (i+1)/\M5 (fX 1 (i+1)<|dT i) (sG a (l++[i]) (nb l b i j)<|j+1)))))/\(¬i<a.fG->False))))/\(¬i>=0->False)))/\(¬i<32->False))=
 wp (fp []) 900 3 (.fr 83 17 (fX c i d).todo (fX c i d).tmps<|sG a l b j) (SC (.ld [.int .i64 a.fG]<|.fk (.go 6<|.Dd<|.ld [.bool true]<|.go 2<|.en<|.rt 1<|.go 3<|.cy (.bool true) (sG a (l++[i]) (nb l b i j)<|j+1)<|.go 2<|.en<|.st 3<|.rg<|.vl (i6<|i+1)<|.go 1<|.en<|.st 1<|.cut .no) .no) .no) (aA Tryz.f83) (fun v s _=>RJ R v s) (fun fr s1 _=>fr=fX 1 (i+1) (dT i)/\s1=sG a (l++[i]) (nb l b i j) (j+1)):=by as_aux_lemma=>kernel_rfl):fW R (fX c i d)<|sG a l b j:=
 Du H _ ⟨fun _=>⟨fun _=>⟨tP (xI ha) rfl,fun _=>⟨hi.1,hi.2,by rw[Nat.mul_one];exact tP (xI ha) (by rw[OQ ha hi.1 hi.2,hb]),hr,wI _,rfl,rfl⟩,fun h=>h hs⟩,fun h=>h hi.1⟩,fun h=>h hi.2⟩ k
theorem MW(ha:iS a)(hi:0<=i/\i<32)(hs:i<a.fG)(hb:hasB a i=false)(H:fW R (fX 1 (i+1)<|dF i)<|sG a l b j)(k:((i<32->((i>=0->(cellsOf (some<|kI a) 1 1=some [.int .i64 a.fG]/\((i<a.fG->((0:Int)<=i/\i<Int.ofNat 32/\cellsOf (some<|kI a) (2+i.toNat*1) 1=some [.bool false]/\(AV.int .i64 (IntKind.wrap .i64<|i+1)= .int .i64 (i+1)/\M5 (fX 1 (i+1)<|dF i) (sG a l b j))))/\(¬i<a.fG->False))))/\(¬i>=0->False)))/\(¬i<32->False))=
 wp (fp []) 900 3 (.fr 83 17 (fX c i d).todo (fX c i d).tmps<|sG a l b j) (SC (.ld [.int .i64 a.fG]<|.fk (.go 6<|.Dd<|.ld [.bool false]<|.go 2<|.en<|.rt 1<|.go 6<|.en<|.st 3<|.rg<|.vl (i6<|i+1)<|.go 1<|.en<|.st 1<|.cut .no) .no) .no) (aA Tryz.f83) (fun v s _=>RJ R v s) (fun fr s1 _=>fr=fX 1 (i+1) (dF i)/\s1=sG a l b j):=by as_aux_lemma=>kernel_rfl):fW R (fX c i d)<|sG a l b j:=
 Du H _ ⟨fun _=>⟨fun _=>⟨tP (xI ha) rfl,fun _=>⟨hi.1,hi.2,by rw[Nat.mul_one];exact tP (xI ha) (by rw[OQ ha hi.1 hi.2,hb]),wI _,rfl,rfl⟩,fun h=>h hs⟩,fun h=>h hi.1⟩,fun h=>h hi.2⟩ k
theorem Z5(ha:iS a)(hi:0<=i/\i<32)(hs:a.fG<=i)(H:fW R (fX 1 (i+1)<|dF i)<|sG a l b j)(k:((i<32->((i>=0->(cellsOf (some<|kI a) 1 1=some [.int .i64 a.fG]/\((i<a.fG->False)/\(¬i<a.fG->(AV.int .i64 (IntKind.wrap .i64<|i+1)= .int .i64 (i+1)/\M5 (fX 1 (i+1)<|dF i) (sG a l b j))))))/\(¬i>=0->False)))/\(¬i<32->False))=
 wp (fp []) 900 3 (.fr 83 17 (fX c i d).todo (fX c i d).tmps<|sG a l b j) (SC (.ld [.int .i64 a.fG]<|.fk .no<|.go 10<|.en<|.rt 1<|.go 6<|.en<|.st 3<|.rg<|.vl (i6<|i+1)<|.go 1<|.en<|.st 1<|.cut .no) .no) (aA Tryz.f83) (fun v s _=>RJ R v s) (fun fr s1 _=>fr=fX 1 (i+1) (dF i)/\s1=sG a l b j):=by as_aux_lemma=>kernel_rfl):fW R (fX c i d)<|sG a l b j:=
 Du H _ ⟨fun _=>⟨fun _=>⟨tP (xI ha) rfl,(fun h=>by omega),fun _=>⟨wI _,rfl,rfl⟩⟩,fun h=>h hi.1⟩,fun h=>h hi.2⟩ k
theorem kE(hj:j<=32)(hc:c=1\/c=0/\j=0)(hi:32<=i)(hR:R<|sG a l b j):fW R (fX c i d)<|sG a l b j:=kc (P:=fun c j=>R (sG a l b j)->fW R (fX c i d) (sG a l b j)) hj hc (by repeat' first|exact trivial|exact(fun hR=>MU hi hR)|refine And.intro ?_ ?_) (fun hR=>MU hi hR) hR
theorem kT(hj:j<=32)(hc:c=1\/c=0/\j=0)(hl:l.length=j)(ha:iS a)(hi:0<=i/\i<32)(hs:i<a.fG)(hb:hasB a i=true)(H:fW R (fX 1 (i+1)<|dT i)<|sG a (l++[i]) (nb l b i j)<|j+1):fW R (fX c i d)<|sG a l b j:=kc (P:=fun c j=>CU a l b j i->fW R (fX 1 (i+1)<|dT i) (sG a (l++[i]) (nb l b i j)<|j+1)->fW R (fX c i d) (sG a l b j)) hj hc (by repeat' first|exact trivial|exact(fun hr H=>MV ha hi hs hb hr H)|refine And.intro ?_ ?_) (fun hr H=>MV ha hi hs hb hr H) (OX hj hl) H
theorem kF(hj:j<=32)(hc:c=1\/c=0/\j=0)(ha:iS a)(hi:0<=i/\i<32)(hs:i<a.fG)(hb:hasB a i=false)(H:fW R (fX 1 (i+1)<|dF i)<|sG a l b j):fW R (fX c i d)<|sG a l b j:=kc (P:=fun c j=>fW R (fX 1 (i+1)<|dF i) (sG a l b j)->fW R (fX c i d) (sG a l b j)) hj hc (by repeat' first|exact trivial|exact(fun H=>MW ha hi hs hb H)|refine And.intro ?_ ?_) (fun H=>MW ha hi hs hb H) H
theorem kS(hj:j<=32)(hc:c=1\/c=0/\j=0)(ha:iS a)(hi:0<=i/\i<32)(hs:a.fG<=i)(H:fW R (fX 1 (i+1)<|dF i)<|sG a l b j):fW R (fX c i d)<|sG a l b j:=kc (P:=fun c j=>fW R (fX 1 (i+1)<|dF i) (sG a l b j)->fW R (fX c i d) (sG a l b j)) hj hc (by repeat' first|exact trivial|exact(fun H=>Z5 ha hi hs H)|refine And.intro ?_ ?_) (fun H=>Z5 ha hi hs H) H
end
def tq(a:dM):Nat->Nat->List Int
 |0,_=>[]
 |m+1,i=>if(i:Int)<a.fG/\hasB a (i:Int)=true then(i:Int)::tq a m (i+1) else tq a m (i+1)
def qm(a:dM):List Int:=tq a 32 0
abbrev RL(a:dM)(L:List Int)(s:AS):Prop:=∃b,s=sG a L b L.length
theorem BQ(ha:iS a):∀(m i c:Nat) (l:List Int) (b:Nat->Option ae) (d:Nat->AV),i+m=32->(c=1\/c=0/\l.length=0)->l.length<=i->fW (RL a<|l++tq a m i) (fX c (i:Int) d) (sG a l b l.length)
 |0,i,c,l,b,d,hi,hc,hl=>by rw[show l++tq a 0 i=l from List.append_nil l];exact kE ah hc ah ⟨b,rfl⟩
 |m+1,i,c,l,b,d,hi,hc,hl=>by
  have e1:(((i+1:Nat)):Int)=(i:Int)+1:=by omega
  unfold tq;by_cases q1:(i:Int)<a.fG
  ·cases q2:hasB a (i:Int) with
   |true=>rw[if_pos ⟨q1,rfl⟩];have ih:=BQ ha m (i+1) 1 (l++[(i:Int)]) (nb l b (i:Int) l.length) (dT (i:Int)) ah (.inl rfl) (by rw[List.length_append];show l.length+1<=i+1;omega);rw[List.append_assoc,List.length_append,e1] at ih;exact kT ah hc rfl ha ah q1 q2 ih
   |false=>rw[if_neg fun h=>by cases h.2];have ih:=BQ ha m (i+1) 1 l b (dF (i:Int)) ah (.inl rfl) ah;rw[e1] at ih;exact kF ah hc ha ah q1 q2 ih
  ·rw[if_neg fun h=>q1 h.1];have ih:=BQ ha m (i+1) 1 l b (dF (i:Int)) ah (.inl rfl) ah;rw[e1] at ih;exact kS ah hc ha ah ah ih
theorem Hu{a:dM}:∀m i,(tq a m i).length<=m
 |0,_=>Nat.le_refl _
 |m+1,i=>by
  unfold tq;have:=Hu (a:=a) m<|i+1;split
  ·rw[List.length_cons];omega
  ·omega
end
theorem age{P:Program}{SI:aO}{rs:List ResultVar}{k l:Nat}{fr:AF}{s2:AS}{v:AV}{R:AV->AS->Prop}(h:yM P SI rs k l fr s=some (v,s2))(hR:R v s2):Ev P SI (fun aQ jm s1=>∃v s2,finish P rs aQ jm s1= .ok v s2/\R v s2) (uz l fr) s:=by
 unfold yM at h;split at h
 ·rename_i aQ j s1 e;split at h
  ·rename_i v2 s3 e2;injection h with h;injection h with h3 h4
   subst h3;subst h4;exact⟨k,aQ,j,s1,e,_,_,e2,hR⟩
  ·cases h
 ·cases h
def oF(a:dM)(l:List Int)(b:Nat->Option ae)(j:Nat):List<|Nat×Option ae:=aq++([(270,some<|kI a),(271,bx<|.ptr<|some (270,0)),(272,bx<|xp l j),(273,none),(274,some<|iq .exhausted none)]++Z3 l b j)
abbrev I2(a:dM)(l:List Int)(b:Nat->Option ae)(j:Nat):AS:=aj (oF a l b j)<|275+2*j
abbrev sX(a:dM):AS:=aj (aq++[(270,some<|kI a),(271,bx<|.ptr<|some (270,0))]) 272
abbrev sY(a:dM):AS:=aj (aq++[(270,some<|kI a),(271,bx<|.ptr<|some (270,0)),(272,bx kY)]) 273
theorem yq:aW pg 82 [1,0,1,0]= .rangeFunc (.tmp 6) #[7] zr lT:=by kernel_rfl
abbrev M6:AF:=⟨82,aP DC,13,.code (aW pg 82 [1,0,1,0])::KI,[],none⟩
abbrev R8(a:dM)(v:AV)(s:AS):Prop:=∃b,v=xp (qm a) (qm a).length/\s=I2 a (qm a) b (qm a).length
theorem ahJ{a:dM}{l:List Int}{b:Nat->Option ae}{j:Nat}(hj:j<=32):lf 274 (sG a l b j)= .ok none (sR a l b j<|iq .exhausted none)/\yM pg (bg pg (sp []) FU 4) (aA Tryz.f82) 8 273 ⟨82,aP DC,13,andThen none KI,[],none⟩ (sR a l b j<|iq .exhausted none)=some (xp l j,I2 a l b j):=M4 (n:=33) (P:=fun j=>lf 274 (sG a l b j)= .ok none (sR a l b j<|iq .exhausted none)/\yM pg (bg pg (sp []) FU 4) (aA Tryz.f82) 8 273 ⟨82,aP DC,13,andThen none KI,[],none⟩ (sR a l b j<|iq .exhausted none)=some (xp l j,I2 a l b j)) (by repeat' first|exact trivial|exact⟨by as_aux_lemma=>kernel_rfl,by as_aux_lemma=>kernel_rfl⟩|refine And.intro ?_ ?_) ah
theorem aex{a:dM}(ha:iS a):mP (fp []) 4 (aA Tryz.f82) (R8 a) (sF 82 Tryz.f82 [kY,xo])<|sX a:=by refine v8 (E:=fp []) (C:=fun fr s1 _=>fr=M6/\s1=sY a) eH rfl (fun fr s1 p h=>?_) 900 (.st 6<|.cut .no) (show M6=M6/\sY a=sY a from⟨rfl,rfl⟩);obtain⟨rfl,rfl⟩:=h;unfold M6;rw[yq];have H:fW (RL a<|qm a) (fX 0 0 fun _=>.bool true)<|sG a [] (fun _=>none) 0:=BQ ha 32 0 0 [] (fun _=>none) (fun _=>.bool true) rfl (.inr ⟨rfl,rfl⟩)<|Nat.le_refl _;have W:fW (RL a<|qm a) (sF 83 Tryz.f83 [.yield 274,.ptr<|some (271,0)])<|sG a [] (fun _=>none) 0:=Du H (.st 4<|.cut .no) (show M5 (fX 0 0 fun _=>.bool true) (sG a [] (fun _=>none) 0) from⟨rfl,rfl⟩);obtain⟨v,s2,h1,rfl,b,rfl⟩:=mP.call (E:=fp []) (n:=3) (args:=[.yield 274,.ptr<|some (271,0)]) Tryz.func83 (xF Tryz.func83 cC) W;obtain⟨l1,l2⟩:=ahJ (a:=a) (l:=qm a) (b:=b)<|Hu 32 0;exact Chunk.ev 1 _ _ _ _ (GR (gv:=xo) (s1:=aj (aq++[(270,some<|kI a),(271,bx<|.ptr<|some (270,0)),(272,bx kY),(273,some .defs)]) 274) cC cC cC h1 l1)<|age (fr:=⟨82,aP DC,13,andThen none KI,[],none⟩) l2 ⟨b,rfl,rfl⟩
theorem aey{a:dM}(ha:iS a):∃v s2,bg pg (sp []) FU 6 (.fn 58) [xo] (sX a)= .ok v s2/\R8 a v s2:=by obtain⟨v,s2,h1,h2⟩:=mP.call (E:=fp []) (n:=4) (args:=[kY,xo]) Tryz.func82 (xF Tryz.func82 cC)<|aex ha;refine mP.call (E:=fp []) (n:=5) (args:=[xo]) Tryz.func58 (xF Tryz.func58 cC)<|v8 (E:=fp []) (C:=fun _ _ _=>False) eH rfl (fun _ _ _ h=>h.elim) 900 (.st 3<|.rg<|.go 1<|.cu v s2<|.go 1<|.en<|.rt 1 .no)<|ai h1 (show R8 a v s2 from h2)
end
end FF
end
section
open Go Go.Rn Go.RowKit Go.Proofs
namespace FG
open cr fQ kJ A6 AL Ar FF
variable {r:Nat->Nat} {fz:lL}
noncomputable section
abbrev oE(a:dM):List<|Nat×Option ae:=aq++[(270,some<|kI a)]
def oQ(a:dM)(L:List Int):Nat->List (Nat×Option ae)
 |0=>aq++[(270,some<|kI a)]
 |j+1=>aq++[(270,some<|kI a),(276+2*j,some<|aI aG L)]
def mR(v:AV):AF:=⟨36,aP [(2,v)],max Tryz.f36.ntmps 1,(dq 36 [1,1]),[],none⟩
abbrev iJ(B:aJ)(a:dM)(L:List Int)(fr:AF)(s:AS):Prop:=av pg B 271 (Fin pg (aA Tryz.f36) fun y s=>m7 1 (aD aG L) (gR a) s y) fr s
abbrev Z6(a:dM)(L:List Int)(j:Nat):Prop:=(([(2,xp L j)]:List<|Nat×AV).map (fun q=>some q.2)=([(2,xp L j)]:List<|Nat×AV).map (fun q=>some q.2))/\((oQ a L j).map (fun q=>q.2)=(oQ a L j).map (fun q=>q.2))/\gY FU 271 (275+2*j) [(2,xp L j)] (oQ a L j) [(2,aD aG L)] (oE a) 271/\(mR (aD aG L)=mR (aD aG L)/\aj (oE a) 271=aj (oE a) 271)
theorem WC(ht:∀k,top<=k->r k=k):∀{l:List AV},(∀c∈l,c.cq=true)->mB fz r l l
 |[],_=>trivial
 |x::l,h=>⟨bz.z fun ρ v hv=>AV.tY (fun k y hk e=>by rw[ht k hk];exact e) (h x List.mem_cons_self) hv,WC ht fun c hc=>h c<|List.mem_cons_of_mem _ hc⟩
theorem aez(a:dM):(lp a).all AV.cj=true:=List.all_eq_true.2 fun c hc=>by
 rcases List.mem_append.1 hc with h|h
 ·simp only[List.mem_cons,List.not_mem_nil,or_false] at h;rcases h with rfl|rfl<;>rfl
 ·obtain⟨b,_,rfl⟩:=List.mem_map.1 h;rfl
section
variable {B:aJ} {a:dM} {L:List Int} {b:Nat->Option ae} {j:Nat}
theorem agf(ha:iS a)(ht:∀k,top<=k->r k=k):fI fz r (kI a)<|kI a:=by have e:=Cp<|lp a;show fI fz r (.cells ((lp a).map kD).flatten.length (Tr.fill ((lp a).map kD).flatten 0 .nil) [])<|.cells ((lp a).map kD).flatten.length (Tr.fill ((lp a).map kD).flatten 0 .nil) [];rw[e];exact fI.cells (xI ha) (WC ht<|V4 a)<|aez a
theorem akS(ha:iS a)(hl:L.length=j)(hj:j<=32):Z6 a L j:=by
 refine⟨rfl,rfl,?_,rfl,rfl⟩;have ob:∀(fz:lL) (more:List<|Nat×Option ae) (r:Nat->Nat),(∀k,k<271->r k=k)->(∀k,top<=k->r k=k)->∀p∈oE a,p.1<271/\∀y,p.2=some y->y.lZ=true/\∃x,(p.1,some x)∈aq++((270,some<|kI a)::more)/\fm x y/\fI fz r x y:=fun fz more r hr ht p hp=>by
  rcases List.mem_append.1 hp with hp|hp
  ·obtain⟨a,b⟩:=LG (fz:=fz) (fun k hk=>hr k ah) p hp;refine⟨by omega,fun y hy=>?_⟩;obtain⟨c,d⟩:=b y hy;exact⟨c,y,List.mem_append_left _ (by rw[←hy];exact hp),fm.refl _,d⟩
  ·rw[List.mem_singleton] at hp;subst hp;refine⟨by show 270<271;omega,fun y hy=>?_⟩;cases hy;exact⟨rfl,_,List.mem_append_right _ List.mem_cons_self,fm.refl _,agf ha ht⟩
 cases j with
 |zero=>obtain rfl:=List.eq_nil_of_length_eq_zero hl;refine Fc (fz:=[]) (Nat.le_refl _) ah eX (fun r hr ht p hp=>?_) (ob [] []) (fun p hp=>by cases hp);rw[List.mem_singleton] at hp;subst hp;exact⟨by show 2<top;unfold top;omega,_,mi 0,J9⟩
 |succ j=>
  refine Fc (fz:=[(276+2*j,nm (L.map aG).flatten,(L.map aG).flatten)]) (Nat.le_refl _) ah eX (fun r hr ht p hp=>?_) (ob _ [(276+2*j,some<|aI aG L)]) fun p hp=>?_
  ·rw[List.mem_singleton] at hp;subst hp;exact⟨by show 2<top;unfold top;omega,_,mi 0,GY (List.mem_singleton.2 rfl) ht rfl⟩
  ·rw[List.mem_singleton] at hp;subst hp;exact⟨by show 271<=276+2*j;omega,GZ eI (by rw[hl];unfold top;omega) (276+2*j) eX<|List.mem_append_right _<|List.mem_cons_of_mem _ List.mem_cons_self⟩
theorem ajx(mc:Mt [] B)(ha:iS a):iJ B a L (mR<|aD aG L)<|aj (oE a) 271:=oj mc (.rt 1 .no) (T:=m7 1 (aD aG L) (gR a) (aj (oE a) 271)<|aD aG L)<|CJ (.set a ha) rfl 271
def plE(a:dM)(L:List Int)(v:AV)(s:AS)(o:List<|Nat×Option ae)(n:Nat):Pl:=.st 3<|.rg<|.go 1<|.il<|.st 3<|.rg<|.go 2<|.en<|.rt 1<|.cu v s<|.go 1<|.en<|.rn [(2,v)] o [(2,aD aG L)] (oE a) n 271 .no
abbrev M7(a:dM)(L:List Int)(b:Nat->Option ae)(j:Nat):Prop:=bg pg (sp []) FU 6 (.fn 58) [xo] (sX a)= .ok (xp L j) (I2 a L b j)/\Z6 a L j
theorem ajy(mc:Mt [] B)(TT:M7 a L b j)(H:iJ B a L (mR<|aD aG L)<|aj (oE a) 271)(k:M7 a L b j=wp (rC []) 900 6 (.fr 36 (max Tryz.f36.ntmps 1) (dq 36 []) (dZ [.ptr<|some (270,0)])<|aj (oE a) 271) (plE a L (xp L j) (I2 a L b j) (oQ a L j)<|275+2*j) (aA Tryz.f36) (fun y s _=>m7 1 (aD aG L) (gR a) s y) (fun fr s1 _=>fr=mR (aD aG L)/\s1=aj (oE a) 271):=by as_aux_lemma=>kernel_rfl):iJ B a L (sF 36 Tryz.f36 [.ptr<|some (270,0)])<|aj (oE a) 271:=IL mc (C:=fun fr s1 _=>fr=mR (aD aG L)/\s1=aj (oE a) 271) (fun fr s1 _ hC=>by obtain⟨rfl,rfl⟩:=hC;exact H) _ TT k cC
theorem ajz(mc:Mt [] B)(hj:j<=32)(TT:M7 a L b j)(H:iJ B a L (mR<|aD aG L)<|aj (oE a) 271):iJ B a L (sF 36 Tryz.f36 [.ptr<|some (270,0)])<|aj (oE a) 271:=M4 (n:=33) (P:=fun j=>M7 a L b j->iJ B a L (sF 36 Tryz.f36 [.ptr<|some (270,0)]) (aj (oE a) 271)) (by repeat' first|exact trivial|exact fun TT=>ajy mc TT H|refine And.intro ?_ ?_) ah TT
end
open Classical in
def Hv:dM->List AV->Option AV
 |a,[]=>if iS a then some (aD aG<|qm a) else none
 |_,_=>none
def Xm:FuncId×KE:=(36,.raw<|lQ 1<|bJ gR Hv)
theorem adf(hP:bB pg){L:bU}(h:aV L):aV<|Xm::L:=by
 refine O3 rD hP gL pW ir gZ kG ki h cO Tryz.func36 (body:=aW pg 36 []) aY aY fun v rest y e=>?_;obtain⟨a,rfl,e1⟩:=Oy e;unfold Hv at e1;split at e1<;>(try split at e1)<;>cases e1;rename_i dm;refine⟨aL.1 aY,fun L hx=>?_⟩;generalize hv:gR a=v at hx;cases hx with
 |set b hb=>obtain rfl:=zH _ _ hv;refine⟨271,by omega,by unfold top;omega,fun p hp=>by rw[List.mem_singleton] at hp;subst hp;show 270<271;omega,fun B mc=>?_⟩;obtain⟨v,s2,h1,b,rfl,rfl⟩:=aey hb;exact ajz mc (Hu 32 0) ⟨h1,akS hb rfl<|Hu 32 0⟩<|ajx mc hb
 |_=>cases hv
end
end FG
end
section
open Go Go.Rn Go.RowKit Go.Proofs
namespace FH
open cr fQ hI fc po Rc fF cS kJ jU jq pq sB ql wE uL zk HL Ao AL A6 CS Fb CT Ar LH FE FF FG
variable {s ve xq kq xn x ow kb an gy c:Int} {α:Type} {rJ rK nF oy:AV} {T:Prop} {r:Nat->Nat} {or' tu:Option ae} {o0:List<|Nat×Option ae} {ka nt f:Nat} {t:Tr AV} {enc:α->List AV} {K:List Item}
noncomputable section
def yl(args:List AV)(v:AV):Prop:=args=[]/\v= .bool true
theorem yl.bR(args:List AV)(v v':AV)(h:yl args v)(h':yl args v'):v=v':=by rw[h.2,h'.2]
def Xn:FuncId×KE:=(5,.val<|ba yl)
abbrev LL:bU:=[wj 22,Xn,XZ,XY,V6,XI,XJ,Vt,Wt,UD,Wu,Wv,Xb,UE,Xa,XX,YT,XH,YA,Xm,X2,X3]
structure bZ where
 (k th tx au v x gy:Int)
def eY(e:bZ):List AV:=[.int .u8 e.k,.int .i64 e.th,.int .i64 e.tx,.int .i64 e.au,.int .i64 e.v,.int .i64 e.x,.int .u8 e.gy]
abbrev oV(e:bZ):ae:=.cells 7 (Tr.fill (eY e) 0 .nil) []
def vR(n K L:Nat):AV:=.slice (some (n,0)) L<|.ar L K
def tw(ns i:Int)(G gl N len:Nat)(vm vr:AV):List<|Nat×AV:=[(2,.int .i64 ns),(3,.ab G 0 gl),(4,.ab N 0 len),(11,.ptr<|some (270,0)),(13,.ptr<|some (273,0)),(15,vm),(16,vr),(17,.int .i64 i)]
def zu(ns i:Int)(G gl N len:Nat)(vm vr:AV)(e:Nat)(b:Bool)(g:Int):List<|Nat×AV:=tw ns i G gl N len vm vr++[(18,.ptr<|some (e,0)),(19,.bool b),(20,.int .i64 g)]
def qA(ns:Int)(vr:AV):List<|Nat×AV:=[(2,.int .i64 ns),(13,.ptr<|some (273,0)),(16,vr)]
abbrev zw(l:List<|Nat×AV)(K:List Item):AF:=⟨3,aP l,max Tryz.f3.ntmps 5,K,[],none⟩
def KH:List Item:=[.code<|aW pg 3 [1,1,1,1,1,1,1,0,1,0,0],.inLoop<|aW pg 3 [1,1,1,1,1,1,1,0,1,0,0],.inBlock 0,.code<|aW pg 3 [1,1,1,1,1,1,1,1]]
def KP:List Item:=[.code<|aW pg 3 [1,1,1,1,1,1,1,0,1,0,0,1,0,0,1],.inBlock 1,.code<|aW pg 3 [1,1,1,1,1,1,1,0,1,0,0,1,1],.inLoop<|aW pg 3 [1,1,1,1,1,1,1,0,1,0,0],.inBlock 0,.code<|aW pg 3 [1,1,1,1,1,1,1,1]]
def KQ:List Item:=[.code<|aW pg 3 [1,1,1,1,1,1,1,0,1,0,0,1,0,0,1,1],.inBlock 1,.code<|aW pg 3 [1,1,1,1,1,1,1,0,1,0,0,1,1],.inLoop<|aW pg 3 [1,1,1,1,1,1,1,0,1,0,0],.inBlock 0,.code<|aW pg 3 [1,1,1,1,1,1,1,1]]
def KE:List Item:=(dq 3 [1,1,1,1,1,1,1,1])
def FI(w seen:Int)(gl:Nat)(nv ns:Int)(z:Nat):List AV:=[.int .i64 2,.int .i64 (gl:Int),.int .i64 nv,.int .i64 ns,.int .u8 w,.ptr<|some (271,0),.ptr<|some (z,0),.int .i64 seen]
def pI(z mN rN:Nat)(uh um us:AV)(w seen:Int)(gl:Nat)(nv ns:Int)(om aU:Option ae):List<|Nat×Option ae:=[(270,some<|.tok 2 uh),(271,some<|.tok 4 um),(z,some<|.tok 1 us),(273,some<|.cells 8 (Tr.fill (FI w seen gl nv ns z) 0 .nil) []),(mN,om),(rN,aU)]
def tz(z e:Nat)(uh um us:AV)(w seen:Int)(gl:Nat)(nv ns:Int)(om aU:Option ae)(ev:bZ):List<|Nat×Option ae:=pI z 274 275 uh um us w seen gl nv ns om aU++[(e,some<|oV ev)]
def xr(uh um us:AV)(w seen:Int)(gl:Nat)(nv ns:Int):List<|Nat×Option ae:=[(270,some<|.tok 2 uh),(271,some<|.tok 4 um),(272,some<|.tok 1 us),(273,some<|.cells 8 (Tr.fill (FI w seen gl nv ns 272) 0 .nil) [])]
abbrev vd(B:aJ)(fr:AF)(s:AS):Prop:=av pg B 270 (Fin pg (aA Tryz.f3) fun y _=>y= .bool true) fr s
abbrev MS(uh um us:AV)(w seen:Int)(gl:Nat)(nv ns:Int)(om aU:Option ae):AS:=aj (aq++pI 272 274 275 uh um us w seen gl nv ns om aU) 276
abbrev stV(uh um us:AV)(w seen:Int)(gl:Nat)(nv ns:Int)(om aU:Option ae)(ev:bZ):AS:=aj (aq++tz 272 276 uh um us w seen gl nv ns om aU ev) 277
abbrev nM(uh um us:AV)(w seen:Int)(gl:Nat)(nv ns:Int):AS:=aj (aq++xr uh um us w seen gl nv ns) 274
abbrev tG(n:Nat):AS->AS:=YW 270 dV eB n
abbrev tQ(k n:Nat)(u:AV):AS->Prop:=YV 270 dV eB k n u
theorem tR(L:bU)(g k n:Nat)(val:AV->List AV->Option AV)(rest:List AV)(v y:AV)(hv:val v rest=some y)(t:T)(h1:sp L g=some (lQ k val 270 eB dV):=by as_aux_lemma=>kernel_rfl)(h2:(rest.all AV.hi&&Nat.ble 270 n)=true:=by as_aux_lemma=>kernel_rfl)(h3:Nat.blt n top=true:=by as_aux_lemma=>kernel_rfl)(h4:y.hi=true:=by as_aux_lemma=>kernel_rfl):
 (∀s,tQ k n v s->bg pg (sp L) FU 6 (.fn g) (.ptr (some (n,0))::rest) s= .ok y (tG n s))/\(true=true/\true=true/\some (ae.tok k v)=some (.tok k v))/\T:=
 ⟨af8 (P:=pg) (F:=FU) (m:=5) h1 h2 h3 hv h4,⟨rfl,rfl,rfl⟩,t⟩
theorem nh{B:aJ}(mc:Mt LL B){s:AS}{FR:AF}{S1:AS}(H:vd B FR S1)(p:Pl)(x:T)(h:T=wp (en LL) 900 6 (.fr f nt K t s) p (aA Tryz.f3) (fun v s _=>v= .bool true) (fun fr s1 _=>fr=FR/\s1=S1):=by as_aux_lemma=>kernel_rfl)(h0:Nat.ble 270 s.nx=true:=by as_aux_lemma=>kernel_rfl):vd B ⟨f,t,nt,K,[],none⟩ s:=wC mc (C:=fun fr s1 _=>fr=FR/\s1=S1) nJ p x h h0
theorem I3{B:aJ}(mc:Mt LL B){s:AS}(p:Pl)(x:T)(h:T=wp (en LL) 900 6 (.fr f nt K t s) p (aA Tryz.f3) (fun v s _=>v= .bool true) (fun _ _ _=>False):=by as_aux_lemma=>kernel_rfl)(h0:Nat.ble 270 s.nx=true:=by as_aux_lemma=>kernel_rfl):vd B ⟨f,t,nt,K,[],none⟩ s:=l6 (E:=en LL) eH rfl bT mc.2.2.1 mc.2.2.2 900 p x h h0
def Rw(K:Nat)(enc:α->List AV)(n:Nat)(v:AV)(o:Option ae)(m:Nat)(v':AV)(o':Option ae):Prop:=(v=kY/\o=none/\v'=kY/\o'=none)\/∃l:List α,l≠[]/\l.length<=100000/\v=vR n K l.length/\o=some (aI enc l)/\v'=vR m K l.length/\o'=some (aI enc l)
abbrev Rs(K:Nat)(enc:α->List AV)(n:Nat)(v:AV)(o:Option ae):Prop:=Rw K enc n v o n v o
theorem eV:me 7 eY:=⟨fun _=>rfl,fun _=>rfl⟩
theorem Rw.v{α:Type}{K:Nat}{enc:α->List AV}{n m:Nat}{v v':AV}{o o':Option ae}{r:Nat->Nat}(h:Rw K enc n v o m v' o')(hr:r m=n):lH [] r v v':=by
 rcases h with⟨rfl,_,rfl,_⟩|⟨l,_,_,rfl,_,rfl,_⟩
 ·exact(show bz r kY kY from fun ρ v hv=>by simp only[VR] at hv ⊢;exact hv).z
 ·exact(Wf hr (Nat.le_refl _)<|Nat.le_refl _).z
theorem Rw.o{K:Nat}(he:me K enc)(hK:K<=7){n m:Nat}{v v':AV}{o o':Option ae}(h:Rw K enc n v o m v' o')(hr:r m=n)(ht:∀k,top<=k->r k=k)(hm:(n,o)∈o0):∀y,o'=some y->y.lZ=true/\∃x,(r m,some x)∈o0/\fm x y/\fI [] r x y:=fun y e=>by
 rcases h with⟨_,_,_,rfl⟩|⟨l,_,hl,_,rfl,_,rfl⟩
 ·cases e
 ·cases e;exact⟨rfl,_,by rw[hr];exact hm,fm.refl _,hI.G2 he l (by have:=Nat.mul_le_mul hl hK;unfold top;omega) ht⟩
theorem Z7{ns i:Int}{G gl N len:Nat}{vm vr:AV}{l0 tl:List<|Nat×AV}(hG:(AV.ab G 0 gl).cq=true)(hN:(AV.ab N 0 len).cq=true)(ht:∀k,top<=k->r k=k)(h0:r 270=270)(h3:r 273=273)(hm:lH [] r vm rK)(hq:lH [] r vr rJ)(hs:∀p∈tw ns i G gl N len vm vr,p∈l0)(rest:Dp r l0 tl):Dp r l0<|tw ns i G gl N len rK rJ++tl:=⟨⟨by show 2<top;unfold top;omega,_,hs _<|mi 0,vi⟩,⟨⟨by show 3<top;unfold top;omega,_,hs _<|mi 1,(Hj (x:=.ab G 0 gl) ht hG).z⟩,⟨⟨by show 4<top;unfold top;omega,_,hs _<|mi 2,(Hj (x:=.ab N 0 len) ht hN).z⟩,⟨⟨by show 11<top;unfold top;omega,_,hs _<|mi 3,(bz.ptr h0).z⟩,⟨⟨by show 13<top;unfold top;omega,_,hs _<|mi 4,(bz.ptr h3).z⟩,⟨⟨by show 15<top;unfold top;omega,_,hs _<|mi 5,hm⟩,⟨⟨by show 16<top;unfold top;omega,_,hs _<|mi 6,hq⟩,⟨⟨by show 17<top;unfold top;omega,_,hs _<|mi 7,vi⟩,rest⟩⟩⟩⟩⟩⟩⟩⟩
theorem Z9{gl z mN rN:Nat}{uh um us:AV}{w seen nv ns:Int}{vm vr:AV}{om aU:Option ae}{tl:List<|Nat×Option ae}(ht:∀k,top<=k->r k=k)(h0:r 270=270)(h1:r 271=271)(h2:r 272=z)(h3:r 273=273)(h4:r 274=mN)(h5:r 275=rN)(hm:Rw 7 eY mN vm om 274 rK tu)(hq:Rw 1 aG rN vr aU 275 rJ or')(hs:∀p∈pI z mN rN uh um us w seen gl nv ns om aU,p∈o0)(rest:xg r o0 tl):xg r o0<|pI 272 274 275 uh um us w seen gl nv ns tu or'++tl:=⟨mq (hs _<|mi 0) h0 (fm.refl _) G5,⟨mq (hs _<|mi 1) h1 (fm.refl _) G5,⟨mq (hs _<|mi 2) h2 (fm.refl _) G5,⟨mq (hs _<|mi 3) h3 qH<|KW (l:=FI w seen gl nv ns z) (m:=FI w seen gl nv ns 272) ⟨vi,vi,vi,vi,vi,(bz.ptr h1).z,(bz.ptr h2).z,vi,trivial⟩,⟨hm.o eV ah h4 ht<|hs _<|mi 4,⟨hq.o eI ah h5 ht<|hs _<|mi 5,rest⟩⟩⟩⟩⟩⟩
theorem ze{G gl N len:Nat}(K:List Item)(ns i:Int)(uh um us:AV)(w seen nv:Int)(z mN rN bF:Nat){vm vr:AV}{om aU:Option ae}(hG:(AV.ab G 0 gl).cq=true)(hN:(AV.ab N 0 len).cq=true)(hm:Rw 7 eY mN vm om 274 rK tu)(hq:Rw 1 aG rN vr aU 275 rJ or')(h:xf [(270,270),(271,271),(272,z),(273,273),(274,mN),(275,rN)] 270 bF 276 [270,271,272,273,274,275]=true:=by as_aux_lemma=>kernel_rfl)(hi:Fy [(270,270),(271,271),(272,z),(273,273),(274,mN),(275,rN)]=true:=by as_aux_lemma=>kernel_rfl):
 ((tw ns i G gl N len vm vr).map (fun q=>some q.2)=(tw ns i G gl N len vm vr).map (fun q=>some q.2))/\((aq++(pI z mN rN uh um us w seen gl nv ns om aU)).map (fun q=>q.2)=(aq++(pI z mN rN uh um us w seen gl nv ns om aU)).map (fun q=>q.2))/\gY FU 270 bF (tw ns i G gl N len vm vr) (aq++(pI z mN rN uh um us w seen gl nv ns om aU)) (tw ns i G gl N len rK rJ) (aq++(pI 272 274 275 uh um us w seen gl nv ns tu or')) 276/\(zw (tw ns i G gl N len rK rJ) K=zw (tw ns i G gl N len rK rJ) K/\aj (aq++(pI 272 274 275 uh um us w seen gl nv ns tu or')) 276=aj (aq++(pI 272 274 275 uh um us w seen gl nv ns tu or')) 276):=
 ⟨rfl,rfl,Ct (ps:=[(270,270),(271,271),(272,z),(273,273),(274,mN),(275,rN)]) (lo:=270) (bF:=bF) ah h hi (fun r hr ht=>Z7 hG hN ht (rq hr) (rq hr) (hm.v<|rq hr) (hq.v<|rq hr) (fun p hp=>hp) (tl:=[]) trivial) fun r hr ht=>Z9 ht (rq hr) (rq hr) (rq hr) (rq hr) (rq hr) (rq hr) hm hq (fun p hp=>hp) (tl:=[]) trivial,rfl,rfl⟩
theorem Dh{G gl N len:Nat}(K:List Item)(ns i:Int)(uh um us:AV)(w seen nv:Int)(z e bF:Nat){vm vr:AV}{om aU:Option ae}(b:Bool)(g:Int)(ev:bZ)(hG:(AV.ab G 0 gl).cq=true)(hN:(AV.ab N 0 len).cq=true)(hm:Rw 7 eY 274 vm om 274 rK tu)(hq:Rw 1 aG 275 vr aU 275 rJ or')(h:xf [(270,270),(271,271),(272,z),(273,273),(274,274),(275,275),(276,e)] 270 bF 277 [270,271,272,273,274,275,276]=true:=by as_aux_lemma=>kernel_rfl)(hi:Fy [(270,270),(271,271),(272,z),(273,273),(274,274),(275,275),(276,e)]=true:=by as_aux_lemma=>kernel_rfl):
 ((zu ns i G gl N len vm vr e b g).map (fun q=>some q.2)=(zu ns i G gl N len vm vr e b g).map (fun q=>some q.2))/\((aq++(tz z e uh um us w seen gl nv ns om aU ev)).map (fun q=>q.2)=(aq++(tz z e uh um us w seen gl nv ns om aU ev)).map (fun q=>q.2))/\gY FU 270 bF (zu ns i G gl N len vm vr e b g) (aq++(tz z e uh um us w seen gl nv ns om aU ev)) (zu ns i G gl N len rK rJ 276 b g) (aq++(tz 272 276 uh um us w seen gl nv ns tu or' ev)) 277/\(zw (zu ns i G gl N len rK rJ 276 b g) K=zw (zu ns i G gl N len rK rJ 276 b g) K/\aj (aq++(tz 272 276 uh um us w seen gl nv ns tu or' ev)) 277=aj (aq++(tz 272 276 uh um us w seen gl nv ns tu or' ev)) 277):=
 ⟨rfl,rfl,Ct (ps:=[(270,270),(271,271),(272,z),(273,273),(274,274),(275,275),(276,e)]) (lo:=270) (bF:=bF) ah h hi (fun r hr ht=>Z7 hG hN ht (rq hr) (rq hr) (hm.v<|rq hr) (hq.v<|rq hr) (fun p hp=>List.mem_append_left _ hp) ⟨⟨by show 18<top;unfold top;omega,_,mi 8,(bz.ptr<|rq hr).z⟩,⟨by show 19<top;unfold top;omega,_,mi 9,(bz.bool _).z⟩,⟨by show 20<top;unfold top;omega,_,mi 10,vi⟩,trivial⟩) fun r hr ht=>Z9 ht (rq hr) (rq hr) (rq hr) (rq hr) (rq hr) (rq hr) hm hq (fun p hp=>List.mem_append_left _ hp) ⟨mq (mi 6) (rq hr) (fm.refl _)<|KW (l:=eY ev) (m:=eY ev) ⟨vi,vi,vi,vi,vi,vi,vi,trivial⟩,trivial⟩,rfl,rfl⟩
abbrev mr(B:aJ)(K:List Item)(ns i:Int)(G gl N len:Nat)(uh um us:AV)(w seen nv:Int)(vm vr:AV)(om aU:Option ae):Prop:=vd B (zw (tw ns i G gl N len vm vr) K)<|MS uh um us w seen gl nv ns om aU
abbrev pJ(B:aJ)(ns i:Int)(G gl N len:Nat)(uh um us:AV)(w seen nv:Int)(vm vr:AV)(om aU:Option ae)(b:Bool)(g:Int)(ev:bZ):Prop:=vd B (zw (zu ns i G gl N len vm vr 276 b g) KQ)<|stV uh um us w seen gl nv ns om aU ev
abbrev vg(ns i:Int)(G gl N len:Nat)(uh um us:AV)(w seen nv:Int)(vm vr:AV)(om aU:Option ae)(z mN rN bF:Nat)(rK rJ:AV)(tu or':Option ae):Pl:=.rn (tw ns i G gl N len vm vr) (aq++pI z mN rN uh um us w seen gl nv ns om aU) (tw ns i G gl N len rK rJ) (aq++pI 272 274 275 uh um us w seen gl nv ns tu or') bF 276 .no
abbrev Bi(ns i:Int)(G gl N len:Nat)(uh um us:AV)(w seen nv:Int)(vm vr:AV)(om aU:Option ae)(z e bF:Nat)(b:Bool)(g:Int)(ev:bZ):Pl:=.rn (zu ns i G gl N len vm vr e b g) (aq++tz z e uh um us w seen gl nv ns om aU ev) (zu ns i G gl N len vm vr 276 b g) (aq++tz 272 276 uh um us w seen gl nv ns om aU ev) bF 277 .no
theorem F2{K:Nat}{l:List α}(n m:Nat)(h:l≠[])(hl:l.length<=100000):Rw K enc n (vR n K l.length) (some<|aI enc l) m (vR m K l.length)<|some<|aI enc l:=.inr ⟨l,h,hl,rfl,rfl,rfl,rfl⟩
theorem wI(i:Int)(h0:0<=i)(hl:i<=2000):(AV.int .i64<|IntKind.wrap .i64<|i+1)= .int .i64 (i+1):=congrArg (AV.int .i64)<|Bl ah
section
variable {B:aJ} {ns i:Int} {G gl N len:Nat} {uh um us:AV} {w seen nv:Int} {vm vr:AV} {om aU:Option ae}
section
variable (mc:Mt LL B) (hG:(AV.ab G 0 gl).cq=true) (hN:(AV.ab N 0 len).cq=true) (hm:Rs 7 eY 274 vm om) (hq:Rs 1 aG 275 vr aU)
include mc hG hN hm hq
theorem tnO{kd:Int}(hn:top<=N)(h0:0<=i)(hl:len<=2000)(h1:i<(len:Int))(hx:(cx FU N (0+i.toNat*4+0) 1=some [.int .u8 kd]))(hk:kd≠1/\kd≠2)(H:mr B KP ns i G gl N len uh um us w seen nv vm vr om aU):mr B KH ns i G gl N len uh um us w seen nv vm vr om aU:=nh mc H (.st 2<|.rg<|.go 3<|.fk (.en<|.st 6<|.rg<|.go 2<|.eF<|.go 1<|.eG [.int .u8 kd]<|.en<|.st 2<|.rg<|.fk .no<|.go 1<|.en<|.st 2<|.rg<|.fk .no<|.go 1<|.en<|.st 3<|vg ns i G gl N len uh um us w seen nv vm vr om aU 272 274 275 276 vm vr om aU) .no)<|ax (i<(len:Int)) (fun _=>(ai (show(0:Int)<=i from h0)<|ai (show i<(len:Int) from h1)<|ai hn<|ai hx<|ax (kd=1) (fun h=>show False by omega) fun _=>(ax (kd=2) (fun h=>show False by omega) fun _=>(ze KP ns i uh um us w seen nv 272 274 275 276 hG hN hm hq)))) (fun h=>show False by omega)
def pU(kd:Nat)(p:Pl):Pl:=match kd with
 |1=>.st 1<|.rg p
 |_=>.st 2<|.rg<|.go 2<|.en<|.st 1<|.rg p
theorem tnK{au dB r:Int}{u1:AV}{kd:Nat}{F:cK->List AV->Option (AV×cK)}(hk:(kd=1/\F=Me)\/(kd=2/\F=Mf))(hn:top<=N)(h0:0<=i)(hl:len<=2000)(h1:i<(len:Int))(hx:(cx FU N (0+i.toNat*4+0) 1=some [.int .u8<|.ofNat kd]))(hy:(cx FU N (0+i.toNat*4+1) 1=some [.int .i64 au]))(hz:(cx FU N (0+i.toNat*4+2) 1=some [.int .i64 dB]))(k0:gQ (eW aX F) uh [.int .i64 au,.int .i64 dB]=some (.int .i64 r,u1))(H:mr B KP ns i G gl N len u1 um us w seen nv vm vr om aU):mr B KH ns i G gl N len uh um us w seen nv vm vr om aU:=by
 have TT:=(ax (i<(len:Int)) (fun _=>(ai (show(0:Int)<=i from h0)
  (ai (show i<(len:Int) from h1)
  (ai hn
  (ai hx
  (ai (show(0:Int)<=i from h0)
  (ai (show i<(len:Int) from h1)
  (ai hn
  (ai hy
  (ai (show(0:Int)<=i from h0)
  (ai (show i<(len:Int) from h1)
  (ai hn
  (ai hz
  (ai k0
  (ze KP ns i u1 um us w seen nv 272 274 275 276 hG hN hm hq))))))))))))))) (fun h=>show False by omega))
 let P:Pl:=(.st 2<|.rg<|.go 3<|.fk (.en<|.st 6<|.rg<|.go 2<|.eF<|.go 1<|.eG [.int .u8<|.ofNat kd]<|.en<|.st 2<|.rg<|.go 2<|.en<|pU kd<|.go 3<|.eF<|.go 1<|.eG [.int .i64 au]<|.go 2<|.eF<|.go 1<|.eG [.int .i64 dB]<|.kt (.int .i64 r) u1<|.en<|.st 1<|vg ns i G gl N len u1 um us w seen nv vm vr om aU 272 274 275 276 vm vr om aU) .no);rcases hk with⟨rfl,rfl⟩|⟨rfl,rfl⟩
 all_goals exact nh mc H P TT uC
def pA(uh:AV)(nv ns:Int)(p:Pl):Pl:=(.st 1<|.rg<|.go 2<|.il<|.st 11<|.rg<|.go 1<|.cg (.int .i64 nv) (tG 270) (tQ 2 270 uh)<|.go 4<|.fk .no<|.go 2<|.cg (.int .i64 ns) (tG 270) (tQ 2 270 uh)<|.go 4<|.fk .no<|.go 2<|.en<|.st 6<|.rg<|.go 8<|.il p)
def pZ(p:Pl):Pl:=(.il<|.rt 7<|.go 4<|.en<|.rt 1<|.go 5<|.en<|.rt 3<|.go 8<|.en p)
def pY(p:Pl):Pl:=(.il<|.st 5<|.rg<|.go 4<|.il<|.rt 7<|.go 4<|.en<|.rt 1<|.go 4<|.en<|.rt 1<|.go 5<|.en<|.rt 3<|.go 8<|.en p)
theorem stX(hw:4<w)(H:pJ B ns i G gl N len uh um us w seen nv vm vr om aU false 7 ⟨0,0,0,0,0,0,0⟩):mr B KP ns i G gl N len uh um us w seen nv vm vr om aU:=nh mc H (.st 1<|.rg<|.go 2<|.il<|.st 8<|.rg<|.go 4<|.fk (.go 1<|.en<|.rt 4<|.go 8<|.en<|Bi ns i G gl N len uh um us w seen nv vm vr om aU 272 277 278 false 7 ⟨0,0,0,0,0,0,0⟩) .no)<|ax (w>4) (fun _=>(Dh KQ ns i uh um us w seen nv 272 277 278 false 7 ⟨0,0,0,0,0,0,0⟩ hG hN hm hq)) (fun h=>show False by omega)
noncomputable abbrev yA(ka:Nat)(an xn:Int):AV:=.agg [.int .u8<|.ofNat ka,.int .i64 an,.int .i64 xn]
theorem ib(hk:(ka=1/\kb=2)\/(ka=2/\kb=3)\/(ka=3/\kb=5)\/(ka=4/\kb=6))(k0:bJ aX pa uh []=some (.int .i64 nv))(k1:bJ aX oB uh []=some (.int .i64 ns))(k2:bJ aX EE uh []=some (.int .i64 c))(k3:lN Ec [.int .i64 c,.int .i64 ns]=some (some nF,fun p=>.tuple [p,.int .i64 0]))(k4:bJ eJ (fun a rest=>(mh a rest).map (·.1)) um []=some (yA ka an xn))(H:pJ B ns i G gl N len uh um nF kb seen nv vm vr om aU true 0 ⟨1,2,(gl:Int),0,c,0,0⟩):mr B KP ns i G gl N len uh um us 1 seen nv vm vr om aU:=by
 have TT:=(tR LL 28 2 270 (bJ aX pa) [] uh (.int .i64 nv) k0<|ax (nv≠nv) (fun h=>show False by omega) fun _=>(tR LL 29 2 270 (bJ aX oB) [] uh (.int .i64 ns) k1<|ax (ns≠ns) (fun h=>show False by omega) fun _=>(tR LL 46 2 270 (bJ aX EE) [] uh (.int .i64 c) k2<|ai k3<|tR LL 38 4 271 (bJ eJ fun a rest=>(mh a rest).map (·.1)) [] um (yA ka an xn) k4<|tR LL 46 2 270 (bJ aX EE) [] uh (.int .i64 c) k2<|Dh KQ ns i uh um nF kb seen nv 279 282 283 true 0 ⟨1,2,(gl:Int),0,c,0,0⟩ hG hN hm hq)));let P:Pl:=(pA uh nv ns<|.st 4<|.rg<|.go 1<|.cg (.int .i64 c) (tG 270) (tQ 2 270 uh)<|.go 4<|.nt (some nF) (fun p=>.tuple [p,.int .i64 0])<|.go 5<|.en<|.st 5<|.rg<|.go 1<|.il<|.rg<|.go 6<|.cg (yA ka an xn) (tG 271) (tQ 4 271 um)<|.go 5<|.en<|.rt 1<|.en<|.st 1<|.rg<|.go 6<|.cg (.int .i64 c) (tG 270) (tQ 2 270 uh)<|.go 1<|pZ<|Bi ns i G gl N len uh um nF kb seen nv vm vr om aU 279 282 283 true 0 ⟨1,2,(gl:Int),0,c,0,0⟩);rcases hk with⟨rfl,rfl⟩|⟨rfl,rfl⟩|⟨rfl,rfl⟩|⟨rfl,rfl⟩
 all_goals exact nh mc H P TT uC
theorem jw(hk:(ka=1/\kb=2)\/(ka=2/\kb=3)\/(ka=3/\kb=5)\/(ka=4/\kb=6))(k0:bJ aX pa uh []=some (.int .i64 nv))(k1:bJ aX oB uh []=some (.int .i64 ns))(k2:gQ (eW eJ E7) um []=some (.int .i64 0,oy))(k3:bJ eJ (fun a rest=>(mh a rest).map (·.1)) oy []=some (yA ka an xn))(H:pJ B ns i G gl N len uh oy us kb seen nv vm vr om aU false 0 ⟨0,0,0,0,0,0,0⟩):mr B KP ns i G gl N len uh um us 2 seen nv vm vr om aU:=by
 have TT:=(tR LL 28 2 270 (bJ aX pa) [] uh (.int .i64 nv) k0<|ax (nv≠nv) (fun h=>show False by omega) fun _=>(tR LL 29 2 270 (bJ aX oB) [] uh (.int .i64 ns) k1<|ax (ns≠ns) (fun h=>show False by omega) fun _=>(ai k2<|tR LL 38 4 271 (bJ eJ fun a rest=>(mh a rest).map (·.1)) [] oy (yA ka an xn) k3<|Dh KQ ns i uh oy us kb seen nv 272 279 280 false 0 ⟨0,0,0,0,0,0,0⟩ hG hN hm hq)));let P:Pl:=(pA uh nv ns<|.st 3<|.rg<|.go 4<|.kt (.int .i64 0) oy<|.en<|.st 1<|.rg<|.go 1<|.il<|.rg<|.go 6<|.cg (yA ka an xn) (tG 271) (tQ 4 271 oy)<|.go 5<|.en<|.rt 1<|.en<|.rt 3<|.go 5<|.en<|.rt 3<|.go 8<|.en<|Bi ns i G gl N len uh oy us kb seen nv vm vr om aU 272 279 280 false 0 ⟨0,0,0,0,0,0,0⟩);rcases hk with⟨rfl,rfl⟩|⟨rfl,rfl⟩|⟨rfl,rfl⟩|⟨rfl,rfl⟩
 all_goals exact nh mc H P TT uC
noncomputable abbrev wk(kq au xq:Int):AV:=.agg [.int .u8 kq,.int .i64 au,.int .i64 xq]
def pK(uh um:AV)(kq au xq s ow ve:Int)(p:Pl):Pl:=(.st 3<|.rg<|.go 5<|.cg (wk kq au xq) (tG 271) (tQ 4 271 um)<|.go 1<|.cg (.int .i64 s) (tG 270) (tQ 2 270 uh)<|.go 1<|.en<|.st 2<|.rg<|.go 6<|.cg (.int .i64 ow) (tG 270) (tQ 2 270 uh)<|.go 2<|.cg (.int .i64 ve) (tG 270) (tQ 2 270 uh) p)
theorem stK{au:Int}(k0:bJ aX pa uh []=some (.int .i64 nv))(k1:bJ aX oB uh []=some (.int .i64 ns))(k2:bJ eJ (fun a rest=>(mh a rest).map (·.1)) um []=some (wk kq au xq))(k3:bJ aX ni uh [.int .i64 au]=some (.int .i64 s))(k4:bJ aX ui uh [.int .i64 s]=some (.int .i64 ow))(k5:bJ aX rT uh [.int .i64 s]=some (.int .i64 ve))(k6:gQ (eW gR Cq) us [.int .i64 ow,.int .i64 ve]=some (.int .u8 0,us))(H:pJ B ns i G gl N len uh um us 4 ve nv vm vr om aU true 0 ⟨2,2,0,s,ve,0,0⟩):mr B KP ns i G gl N len uh um us 3 seen nv vm vr om aU:=nh mc H (pA uh nv ns<|pK uh um kq au xq s ow ve<|.kt (.int .u8 0) us<|.go 1<|.en<|.st 5<|.rg<|.go 4<|.cg (.int .i64 ve) (tG 270) (tQ 2 270 uh)<|.go 6<|.en<|.st 1<|.rg<|.go 7<|pZ<|Bi ns i G gl N len uh um us 4 ve nv vm vr om aU 272 281 282 true 0 ⟨2,2,0,s,ve,0,0⟩)<|tR LL 28 2 270 (bJ aX pa) [] uh (.int .i64 nv) k0<|ax (nv≠nv) (fun h=>show False by omega) fun _=>(tR LL 29 2 270 (bJ aX oB) [] uh (.int .i64 ns) k1<|ax (ns≠ns) (fun h=>show False by omega) fun _=>(tR LL 38 4 271 (bJ eJ fun a rest=>(mh a rest).map (·.1)) [] um (wk kq au xq) k2<|tR LL 11 2 270 (bJ aX ni) [.int .i64 au] uh (.int .i64 s) k3<|tR LL 51 2 270 (bJ aX ui) [.int .i64 s] uh (.int .i64 ow) k4<|tR LL 52 2 270 (bJ aX rT) [.int .i64 s] uh (.int .i64 ve) k5<|ai k6<|tR LL 52 2 270 (bJ aX rT) [.int .i64 s] uh (.int .i64 ve) k5<|Dh KQ ns i uh um us 4 ve nv 272 281 282 true 0 ⟨2,2,0,s,ve,0,0⟩ hG hN hm hq))
theorem Y0{au:Int}(hw:gy≠0)(k0:bJ aX pa uh []=some (.int .i64 nv))(k1:bJ aX oB uh []=some (.int .i64 ns))(k2:bJ eJ (fun a rest=>(mh a rest).map (·.1)) um []=some (wk kq au xq))(k3:bJ aX ni uh [.int .i64 au]=some (.int .i64 s))(k4:bJ aX ui uh [.int .i64 s]=some (.int .i64 ow))(k5:bJ aX rT uh [.int .i64 s]=some (.int .i64 ve))(k6:gQ (eW gR Cq) us [.int .i64 ow,.int .i64 ve]=some (.int .u8 gy,us))(H:pJ B ns i G gl N len uh um us 7 seen nv vm vr om aU true 0 ⟨10,2,0,s,0,0,gy⟩):mr B KP ns i G gl N len uh um us 3 seen nv vm vr om aU:=nh mc H (pA uh nv ns<|pK uh um kq au xq s ow ve<|.kt (.int .u8 gy) us<|.go 1<|.en<|.st 1<|.rg<|.go 1<|.fk (.en<|.st 2<|.rg<|.go 3<|pY<|Bi ns i G gl N len uh um us 7 seen nv vm vr om aU 272 282 283 true 0 ⟨10,2,0,s,0,0,gy⟩) .no)<|tR LL 28 2 270 (bJ aX pa) [] uh (.int .i64 nv) k0<|ax (nv≠nv) (fun h=>show False by omega) fun _=>(tR LL 29 2 270 (bJ aX oB) [] uh (.int .i64 ns) k1<|ax (ns≠ns) (fun h=>show False by omega) fun _=>(tR LL 38 4 271 (bJ eJ fun a rest=>(mh a rest).map (·.1)) [] um (wk kq au xq) k2<|tR LL 11 2 270 (bJ aX ni) [.int .i64 au] uh (.int .i64 s) k3<|tR LL 51 2 270 (bJ aX ui) [.int .i64 s] uh (.int .i64 ow) k4<|tR LL 52 2 270 (bJ aX rT) [.int .i64 s] uh (.int .i64 ve) k5<|ai k6<|ax (gy≠0) (fun _=>(Dh KQ ns i uh um us 7 seen nv 272 282 283 true 0 ⟨10,2,0,s,0,0,gy⟩ hG hN hm hq)) (fun h=>show False by omega)))
def pH(uh um:AV)(kq au xq s:Int)(p:Pl):Pl:=(.st 3<|.rg<|.go 4<|.cg (wk kq au xq) (tG 271) (tQ 4 271 um)<|.go 2<|.en<|.st 1<|.rg<|.go 2<|.cg (.int .i64 s) (tG 270) (tQ 2 270 uh)<|.go 1<|.en<|.st 2<|.rg<|.go 2 p)
theorem akT{au:Int}(hw:ow≠ -1\/ve≠seen)(k0:bJ aX pa uh []=some (.int .i64 nv))(k1:bJ aX oB uh []=some (.int .i64 ns))(k2:bJ eJ (fun a rest=>(mh a rest).map (·.1)) um []=some (wk kq au xq))(k3:bJ aX ni uh [.int .i64 au]=some (.int .i64 s))(k4:bJ aX ui uh [.int .i64 s]=some (.int .i64 ow))(k5:bJ aX rT uh [.int .i64 s]=some (.int .i64 ve))(H:pJ B ns i G gl N len uh um us 7 seen nv vm vr om aU true 0 ⟨10,2,0,s,0,0,3⟩):mr B KP ns i G gl N len uh um us 4 seen nv vm vr om aU:=nh mc H (pA uh nv ns<|pH uh um kq au xq s<|.cg (.int .i64 ow) (tG 270) (tQ 2 270 uh)<|.fk (.go 10<|.en<|.st 2<|.rg<|.go 2<|pY<|Bi ns i G gl N len uh um us 7 seen nv vm vr om aU 272 282 283 true 0 ⟨10,2,0,s,0,0,3⟩)<|.go 3<|.cg (.int .i64 ve) (tG 270) (tQ 2 270 uh)<|.go 4<|.fk (.go 1<|.en<|.st 2<|.rg<|.go 2<|pY<|Bi ns i G gl N len uh um us 7 seen nv vm vr om aU 272 282 283 true 0 ⟨10,2,0,s,0,0,3⟩) .no)<|tR LL 28 2 270 (bJ aX pa) [] uh (.int .i64 nv) k0<|ax (nv≠nv) (fun h=>show False by omega) fun _=>(tR LL 29 2 270 (bJ aX oB) [] uh (.int .i64 ns) k1<|ax (ns≠ns) (fun h=>show False by omega) fun _=>(tR LL 38 4 271 (bJ eJ fun a rest=>(mh a rest).map (·.1)) [] um (wk kq au xq) k2<|tR LL 11 2 270 (bJ aX ni) [.int .i64 au] uh (.int .i64 s) k3<|tR LL 51 2 270 (bJ aX ui) [.int .i64 s] uh (.int .i64 ow) k4<|ax (ow≠ -1) Ys fun _=>(tR LL 52 2 270 (bJ aX rT) [.int .i64 s] uh (.int .i64 ve) k5<|ax (ve≠seen) Ys (fun h=>show False by omega))))
theorem stL(hk:(ka=1/\kb=2)\/(ka=2/\kb=3)\/(ka=3/\kb=5)\/(ka=4/\kb=6)){au ra:Int}(k0:bJ aX pa uh []=some (.int .i64 nv))(k1:bJ aX oB uh []=some (.int .i64 ns))(k2:bJ eJ (fun a rest=>(mh a rest).map (·.1)) um []=some (wk kq au xq))(k3:bJ aX ni uh [.int .i64 au]=some (.int .i64 s))(k4:bJ aX ui uh [.int .i64 s]=some (i6<|-1))(k5:bJ aX rT uh [.int .i64 s]=some (.int .i64 seen))(k6:bJ aX Hs uh [.int .i64 au]=some (.int .i64 x))(k7:gQ (eW eJ CQ) um [.int .i64 x]=some (.int .i64 0,oy))(k8:gQ (eW gR Ic) us [.int .i64 s]=some (.int .i64 ra,nF))(k9:bJ eJ (fun a rest=>(mh a rest).map (·.1)) oy []=some (yA ka an xn))(H:pJ B ns i G gl N len uh oy nF kb seen nv vm vr om aU true 0 ⟨3,2,0,au,0,x,0⟩):mr B KP ns i G gl N len uh um us 4 seen nv vm vr om aU:=by
 have TT:=(tR LL 28 2 270 (bJ aX pa) [] uh (.int .i64 nv) k0<|ax (nv≠nv) (fun h=>show False by omega) fun _=>(tR LL 29 2 270 (bJ aX oB) [] uh (.int .i64 ns) k1<|ax (ns≠ns) (fun h=>show False by omega) fun _=>(tR LL 38 4 271 (bJ eJ fun a rest=>(mh a rest).map (·.1)) [] um (wk kq au xq) k2<|tR LL 11 2 270 (bJ aX ni) [.int .i64 au] uh (.int .i64 s) k3<|tR LL 51 2 270 (bJ aX ui) [.int .i64 s] uh (i6<|-1) k4<|tR LL 52 2 270 (bJ aX rT) [.int .i64 s] uh (.int .i64 seen) k5<|ax (seen≠seen) (fun h=>show False by omega) fun _=>(tR LL 54 2 270 (bJ aX Hs) [.int .i64 au] uh (.int .i64 x) k6 (ai k7
  (ai k8
  (tR LL 38 4 271 (bJ eJ fun a rest=>(mh a rest).map (·.1)) [] oy (yA ka an xn) k9<|Dh KQ ns i uh oy nF kb seen nv 272 281 282 true 0 ⟨3,2,0,au,0,x,0⟩ hG hN hm hq)))))))
 let P:Pl:=(pA uh nv ns<|pH uh um kq au xq s<|.cg (i6<|-1) (tG 270) (tQ 2 270 uh)<|.go 4<|.cg (.int .i64 seen) (tG 270) (tQ 2 270 uh)<|.go 4<|.fk .no<|.go 1<|.en<|.st 3<|.rg<|.go 2<|.cg (.int .i64 x) (tG 270) (tQ 2 270 uh)<|.go 1<|.en<|.st 1<|.rg<|.go 5<|.kt (.int .i64 0) oy<|.en<|.st 1<|.rg<|.go 5<|.kt (.int .i64 ra) nF<|.en<|.st 1<|.rg<|.go 1<|.il<|.rg<|.go 6<|.cg (yA ka an xn) (tG 271) (tQ 4 271 oy)<|.go 5<|.en<|.rt 1<|.en<|.st 1<|.rg<|.go 4<|pZ<|Bi ns i G gl N len uh oy nF kb seen nv vm vr om aU 272 281 282 true 0 ⟨3,2,0,au,0,x,0⟩);rcases hk with⟨rfl,rfl⟩|⟨rfl,rfl⟩|⟨rfl,rfl⟩|⟨rfl,rfl⟩
 all_goals exact nh mc H P TT uC
theorem evI(h0:0<=i)(hl:i<=2000)(H:mr B KH ns (i+1) G gl N len uh um us w seen nv vm vr om aU):pJ B ns i G gl N len uh um us w seen nv vm vr om aU false 0 ⟨0,0,0,0,0,0,0⟩:=nh mc H (.st 2<|.rg<|.go 2<|.en<|.st 4<|.rg<|.go 19<|.en<|.st 4<|.rg<|.go 2<|.en<|.st 2<|.rg<|.go 1<|.vl (i6<|i+1)<|.go 1<|.en<|.st 1<|vg ns (i+1) G gl N len uh um us w seen nv vm vr om aU 272 274 275 277 vm vr om aU)<|ai (wI i h0 hl)<|ze KH ns (i+1) uh um us w seen nv 272 274 275 277 hG hN hm hq
end
section
variable (mc:Mt LL B) (hG:(AV.ab G 0 gl).cq=true) (hN:(AV.ab N 0 len).cq=true) (h0:0<=i) (hl:i<=2000)
include mc hG hN h0 hl
theorem evB(hq:Rs 1 aG 275 vr aU)(H:mr B KH ns (i+1) G gl N len uh um us w seen nv (vR 274 7 [(⟨1,2,(gl:Int),0,c,0,0⟩:bZ)].length) vr (some<|aI eY [(⟨1,2,(gl:Int),0,c,0,0⟩:bZ)]) aU):pJ B ns i G gl N len uh um us w seen nv kY vr none aU true 0 (⟨1,2,(gl:Int),0,c,0,0⟩:bZ):=nh mc H (.st 2<|.rg<|.go 2<|.en<|.st 4<|.rg<|.go 19<|.en<|.st 4<|.rg<|.go 2<|.en<|.st 3<|.rg<|.go 1<|.en<|.st 2<|.rg<|.go 3<|.en<|.st 4<|.rg<|.go 2<|.en<|.st 2<|.rg<|.go 2<|.en<|.st 2<|.rg<|.go 7<|.fk .no<|.go 1<|.en<|.st 3<|.rg<|.go 5<|.en<|.st 1<|.rg<|.go 1<|.vl (i6<|i+1)<|.go 1<|.en<|.st 1<|vg ns (i+1) G gl N len uh um us w seen nv (vR 278 7 [(⟨1,2,(gl:Int),0,c,0,0⟩:bZ)].length) vr (some<|aI eY [(⟨1,2,(gl:Int),0,c,0,0⟩:bZ)]) aU 272 278 275 279 (vR 274 7 [(⟨1,2,(gl:Int),0,c,0,0⟩:bZ)].length) vr (some<|aI eY [(⟨1,2,(gl:Int),0,c,0,0⟩:bZ)]) aU)<|ax ((gl:Int)≠(gl:Int)) (fun h=>show False by omega) fun _=>(ai (wI i h0 hl)<|ze KH ns (i+1) uh um us w seen nv 272 278 275 279 hG hN (F2 278 274 (List.cons_ne_nil (⟨1,2,(gl:Int),0,c,0,0⟩:bZ) []) (by show 1<=100000;omega)) hq)
omit mc hG hN h0 hl in
theorem Gk{L:List bZ}{e0:bZ}(hp:0<L.length)(hL:L.length<=5000)(hx:L[((L.length:Int) - 1).toNat]? =some e0)(j:Nat)(t:T)(hj:Nat.ble (j+1) 7=true:=by rfl):AV.int .i64 (IntKind.wrap .i64<|(L.length:Int) - 1)= .int .i64 ((L.length:Int) - 1)/\(0:Int)<=(L.length:Int) - 1/\(L.length:Int) - 1<(L.length:Int)/\cellsOf (some<|aI eY L) (((L.length:Int) - 1).toNat*7+j) 1=some (((eY e0).drop j).take 1)/\T:=⟨congrArg (AV.int .i64)<|Bl ah,by omega,by omega,nk eV.1 eX hx j 1 hj,t⟩
def pT(L:List bZ)(i:Int)(e:bZ)(p:Pl):Pl:=(.rg<|.go 3<|.ap bZ eY L e<|.go 1<|.en<|.st 1<|.rg<|.go 1<|.vl (i6<|i+1)<|.go 1<|.en<|.st 1 p)
def pE(L:List bZ)(k:Int)(p:Pl):Pl:=(.st 2<|.rg<|.go 2<|.en<|.st 4<|.rg<|.go 19<|.en<|.st 4<|.rg<|.go 2<|.en<|.st 3<|.rg<|.go 1<|.en<|.st 2<|.rg<|.go 2<|.fk (.en<|.st 1<|.rg<|.go 3<|.vl (i6<|(L.length:Int) - 1)<|.ix<|.go 1<|.ld [.int .u8 k]<|.go 1<|.en<|.st 2<|.rg<|.go 2<|.en<|.st 2<|.rg<|.go 2<|.en<|.st 2<|.rg p) .no)
theorem evK{L:List bZ}{e0:bZ}(hq:Rs 1 aG 275 vr aU)(hp:0<L.length)(hL:L.length<=5000)(hx:L[((L.length:Int) - 1).toNat]? =some e0)(hk:e0.k=1\/e0.k=3)(H:mr B KH ns (i+1) G gl N len uh um us w seen nv (vR 274 7 (L++[(⟨2,2,0,s,ve,0,0⟩:bZ)]).length) vr (some<|aI eY<|L++[(⟨2,2,0,s,ve,0,0⟩:bZ)]) aU):pJ B ns i G gl N len uh um us w seen nv (vR 274 7 L.length) vr (some<|aI eY L) aU true 0 (⟨2,2,0,s,ve,0,0⟩:bZ):=nh mc H (pE L e0.k<|.go 2<|.en<|.st 2<|.rg<|.go 1<|.fk (.go 2<|.fk .no<|.go 1<|.en<|.st 3<|pT L i (⟨2,2,0,s,ve,0,0⟩:bZ)<|vg ns (i+1) G gl N len uh um us w seen nv (vR 278 7 (L++[(⟨2,2,0,s,ve,0,0⟩:bZ)]).length) vr (some<|aI eY<|L++[(⟨2,2,0,s,ve,0,0⟩:bZ)]) aU 272 278 275 279 (vR 274 7 (L++[(⟨2,2,0,s,ve,0,0⟩:bZ)]).length) vr (some<|aI eY<|L++[(⟨2,2,0,s,ve,0,0⟩:bZ)]) aU)<|.go 4<|.en<|.st 3<|pT L i (⟨2,2,0,s,ve,0,0⟩:bZ)<|vg ns (i+1) G gl N len uh um us w seen nv (vR 278 7 (L++[(⟨2,2,0,s,ve,0,0⟩:bZ)]).length) vr (some<|aI eY<|L++[(⟨2,2,0,s,ve,0,0⟩:bZ)]) aU 272 278 275 279 (vR 274 7 (L++[(⟨2,2,0,s,ve,0,0⟩:bZ)]).length) vr (some<|aI eY<|L++[(⟨2,2,0,s,ve,0,0⟩:bZ)]) aU)<|ax ((L.length:Int)>0) (fun _=>(Gk hp hL hx 0<|ax (e0.k≠1) (fun _=>(ax (e0.k≠3) (fun h=>show False by omega) fun _=>(wU eY L (⟨2,2,0,s,ve,0,0⟩:bZ) (K:=7) (j8:=56) (fun _=>⟨rfl,rfl⟩) CE CF Yp))) fun _=>(wU eY L (⟨2,2,0,s,ve,0,0⟩:bZ) (K:=7) (j8:=56) (fun _=>⟨rfl,rfl⟩) CE CF Yp))) (fun h=>show False by omega)
noncomputable abbrev Ff(L:List bZ)(au x:Int):Option ae:=some<|aI eY<|L++[(⟨3,2,0,au,0,x,0⟩:bZ)]
theorem akU{L:List bZ}{au:Int}(hp:0<L.length)(hL:L.length<=5000)(hx:L[((L.length:Int) - 1).toNat]? =some (⟨2,2,0,s,ve,0,0⟩:bZ))(k0:bJ aX ni uh [.int .i64 au]=some (.int .i64 s))(H:mr B KH ns (i+1) G gl N len uh um us w seen nv (vR 274 7 (L++[(⟨3,2,0,au,0,x,0⟩:bZ)]).length) (vR 275 1 [s].length) (Ff L au x)<|some<|aI aG [s]):pJ B ns i G gl N len uh um us w seen nv (vR 274 7 L.length) kY (some<|aI eY L) none true 0 (⟨3,2,0,au,0,x,0⟩:bZ):=nh mc H (pE L 2<|.go 2<|.en<|.st 2<|.rg<|.go 2<|.en<|.st 3<|.rg<|.go 6<|.cg (.int .i64 s) (tG 270) (tQ 2 270 uh)<|.go 3<|.vl (i6<|(L.length:Int) - 1)<|.ix<|.go 1<|.ld [.int .i64 s]<|.fk .no<|.go 1<|.en<|.st 2<|.rg<|.go 4<|.cg (.int .i64 s) (tG 270) (tQ 2 270 uh)<|.go 3<|.en<|.st 1<|pT L i (⟨3,2,0,au,0,x,0⟩:bZ)<|vg ns (i+1) G gl N len uh um us w seen nv (vR 280 7 (L++[(⟨3,2,0,au,0,x,0⟩:bZ)]).length) (vR 278 1 [s].length) (Ff L au x) (some<|aI aG [s]) 272 280 278 281 (vR 274 7 (L++[(⟨3,2,0,au,0,x,0⟩:bZ)]).length) (vR 275 1 [s].length) (Ff L au x)<|some<|aI aG [s])<|ax ((L.length:Int)>0) (fun _=>(Gk hp hL hx 0<|tR LL 11 2 270 (bJ aX ni) [.int .i64 au] uh (.int .i64 s) k0<|Gk hp hL hx 3<|ax (s≠s) (fun h=>show False by omega) fun _=>(tR LL 11 2 270 (bJ aX ni) [.int .i64 au] uh (.int .i64 s) k0<|wU eY L (⟨3,2,0,au,0,x,0⟩:bZ) (K:=7) (j8:=56) (fun _=>⟨rfl,rfl⟩) CE CF<|ai (wI i h0 hl)<|ze KH ns (i+1) uh um us w seen nv 272 280 278 281 hG hN Yr<|F2 278 275 (List.cons_ne_nil s []) (by show 1<=100000;omega)))) (fun h=>show False by omega)
theorem evL{L:List bZ}{R:List Int}{au:Int}(hp:0<L.length)(hL:L.length<=5000)(hx:L[((L.length:Int) - 1).toNat]? =some (⟨2,2,0,s,ve,0,0⟩:bZ))(hR:R.length<=5000)(k0:bJ aX ni uh [.int .i64 au]=some (.int .i64 s))(H:mr B KH ns (i+1) G gl N len uh um us w seen nv (vR 274 7 (L++[(⟨3,2,0,au,0,x,0⟩:bZ)]).length) (vR 275 1 (R++[s]).length) (Ff L au x)<|some<|aI aG<|R++[s]):pJ B ns i G gl N len uh um us w seen nv (vR 274 7 L.length) (vR 275 1 R.length) (some<|aI eY L) (some<|aI aG R) true 0 (⟨3,2,0,au,0,x,0⟩:bZ):=nh mc H (pE L 2<|.go 2<|.en<|.st 2<|.rg<|.go 2<|.en<|.st 3<|.rg<|.go 6<|.cg (.int .i64 s) (tG 270) (tQ 2 270 uh)<|.go 3<|.vl (i6<|(L.length:Int) - 1)<|.ix<|.go 1<|.ld [.int .i64 s]<|.fk .no<|.go 1<|.en<|.st 2<|.rg<|.go 4<|.cg (.int .i64 s) (tG 270) (tQ 2 270 uh)<|.go 1<|.ap Int aG R s<|.go 1<|.en<|.st 1<|pT L i (⟨3,2,0,au,0,x,0⟩:bZ)<|vg ns (i+1) G gl N len uh um us w seen nv (vR 280 7 (L++[(⟨3,2,0,au,0,x,0⟩:bZ)]).length) (vR 278 1 (R++[s]).length) (Ff L au x) (some<|aI aG<|R++[s]) 272 280 278 281 (vR 274 7 (L++[(⟨3,2,0,au,0,x,0⟩:bZ)]).length) (vR 275 1 (R++[s]).length) (Ff L au x)<|some<|aI aG<|R++[s])<|ax ((L.length:Int)>0) (fun _=>(Gk hp hL hx 0<|tR LL 11 2 270 (bJ aX ni) [.int .i64 au] uh (.int .i64 s) k0<|Gk hp hL hx 3<|ax (s≠s) (fun h=>show False by omega) fun _=>(tR LL 11 2 270 (bJ aX ni) [.int .i64 au] uh (.int .i64 s) k0<|wU aG R s (K:=1) (j8:=8) (fun _=>⟨rfl,rfl⟩) CE CF<|wU eY L (⟨3,2,0,au,0,x,0⟩:bZ) (K:=7) (j8:=56) (fun _=>⟨rfl,rfl⟩) CE CF<|ai (wI i h0 hl)<|ze KH ns (i+1) uh um us w seen nv 272 280 278 281 hG hN Yr<|F2 278 275 (List.append_ne_nil_of_right_ne_nil R<|List.cons_ne_nil s []) (by rw[List.length_append];show R.length+1<=100000;omega)))) (fun h=>show False by omega)
theorem gd{L:List bZ}{e0:bZ}(hq:Rs 1 aG 275 vr aU)(hp:0<L.length)(hL:L.length<=5000)(hx:L[((L.length:Int) - 1).toNat]? =some e0)(hk:gy=3↔e0.k=2)(H:mr B KH ns (i+1) G gl N len uh um us 7 seen nv (vR 274 7 (L++[(⟨10,2,0,s,0,0,gy⟩:bZ)]).length) vr (some<|aI eY<|L++[(⟨10,2,0,s,0,0,gy⟩:bZ)]) aU):pJ B ns i G gl N len uh um us 7 seen nv (vR 274 7 L.length) vr (some<|aI eY L) aU true 0 (⟨10,2,0,s,0,0,gy⟩:bZ):=nh mc H (pE L e0.k<|.go 2<|.en<|.st 2<|.rg<|.go 2<|.en<|.st 2<|.rg<|.go 2<|.en<|.st 2<|.rg<|.go 2<|.fk (.go 1<|.fk (.go 3<|.il<|.rt 10<|.go 2<|.en<|.st 3<|pT L i (⟨10,2,0,s,0,0,gy⟩:bZ)<|vg ns (i+1) G gl N len uh um us 7 seen nv (vR 278 7 (L++[(⟨10,2,0,s,0,0,gy⟩:bZ)]).length) vr (some<|aI eY<|L++[(⟨10,2,0,s,0,0,gy⟩:bZ)]) aU 272 278 275 279 (vR 274 7 (L++[(⟨10,2,0,s,0,0,gy⟩:bZ)]).length) vr (some<|aI eY<|L++[(⟨10,2,0,s,0,0,gy⟩:bZ)]) aU) .no)<|.go 1<|.fk .no<|.go 3<|.il<|.rt 10<|.go 2<|.en<|.st 3<|pT L i (⟨10,2,0,s,0,0,gy⟩:bZ)<|vg ns (i+1) G gl N len uh um us 7 seen nv (vR 278 7 (L++[(⟨10,2,0,s,0,0,gy⟩:bZ)]).length) vr (some<|aI eY<|L++[(⟨10,2,0,s,0,0,gy⟩:bZ)]) aU 272 278 275 279 (vR 274 7 (L++[(⟨10,2,0,s,0,0,gy⟩:bZ)]).length) vr (some<|aI eY<|L++[(⟨10,2,0,s,0,0,gy⟩:bZ)]) aU)<|ax ((L.length:Int)>0) (fun _=>(Gk hp hL hx 0<|ax (gy=3) (fun _=>(ax (e0.k=2) (fun _=>(wU eY L (⟨10,2,0,s,0,0,gy⟩:bZ) (K:=7) (j8:=56) (fun _=>⟨rfl,rfl⟩) CE CF Yo)) (fun h=>show False by omega))) fun _=>(ax (e0.k=2) (fun h=>show False by omega) fun _=>(wU eY L (⟨10,2,0,s,0,0,gy⟩:bZ) (K:=7) (j8:=56) (fun _=>⟨rfl,rfl⟩) CE CF Yo)))) (fun h=>show False by omega)
end
def Fz(R:List Int)(v:AV)(o:Option ae):Prop:=(R=[]/\v=kY/\o=none)\/(R.length<=100000/\v=vR 275 1 R.length/\o=some (aI aG R))
theorem wkE{R:List Int}{bF:Nat}(hf:Fz R vr aU)(hs:Nat.ble 276 bF=true)(im:Nat.blt bF top=true)(ho:∀p∈xr uh um us w seen gl nv ns,p∈o0)(hr:(275,aU)∈o0):gY FU 270 bF (qA ns vr) (aq++o0) (qA ns<|aD aG R) (aq++xr uh um us w seen gl nv ns) 274:=by
 have hs:=aL.1 hs;have im:=(blt_eq _ _).mp im;have ob:∀(fz:lL) (r:Nat->Nat),(∀k,k<274->r k=k)->(∀k,top<=k->r k=k)->∀p∈aq++xr uh um us w seen gl nv ns,p.1<274/\∀y,p.2=some y->y.lZ=true/\∃x,(p.1,some x)∈aq++o0/\fm x y/\fI fz r x y:=fun fz r h1 h2 p hp=>by
  rcases List.mem_append.1 hp with hp|hp
  ·obtain⟨a,b⟩:=LG (fz:=fz) (fun k hk=>h1 k ah) p hp;refine⟨by omega,fun y hy=>?_⟩;obtain⟨c,d⟩:=b y hy;exact⟨c,y,List.mem_append_left _ (by rw[←hy];exact hp),fm.refl _,d⟩
  ·have hm:=ho p hp;simp only[xr,List.mem_cons,List.not_mem_nil,or_false] at hp;rcases hp with rfl|rfl|rfl|rfl
   ·exact⟨by show 270<274;omega,fun y hy=>by cases hy;exact⟨rfl,_,List.mem_append_right _ hm,fm.refl _,fun _ _ _ _ _ _=>trivial⟩⟩
   ·exact⟨by show 271<274;omega,fun y hy=>by cases hy;exact⟨rfl,_,List.mem_append_right _ hm,fm.refl _,fun _ _ _ _ _ _=>trivial⟩⟩
   ·exact⟨by show 272<274;omega,fun y hy=>by cases hy;exact⟨rfl,_,List.mem_append_right _ hm,fm.refl _,fun _ _ _ _ _ _=>trivial⟩⟩
   ·exact⟨by show 273<274;omega,fun y hy=>by cases hy;exact⟨rfl,_,List.mem_append_right _ hm,fm.refl _,fI.cells (l:=FI w seen gl nv ns 272) (m:=FI w seen gl nv ns 272) (by show 8<=top;unfold top;omega) ⟨(bz.int _ _).z,(bz.int _ _).z,(bz.int _ _).z,(bz.int _ _).z,(bz.int _ _).z,(bz.ptr<|h1 271 ah).z,(bz.ptr<|h1 272 ah).z,(bz.int _ _).z,trivial⟩ rfl⟩⟩
 have sl:∀(fz:lL) (r:Nat->Nat),(∀k,k<274->r k=k)->lH fz r vr (aD aG R)->∀p∈qA ns (aD aG R),p.1<top/\∃x,(p.1,x)∈qA ns vr/\lH fz r x p.2:=fun fz r h1 hv p hp=>by
  simp only[qA,List.mem_cons,List.not_mem_nil,or_false] at hp;rcases hp with rfl|rfl|rfl
  ·exact⟨by show 2<top;unfold top;omega,_,mi 0,(bz.int _ _).z⟩
  ·exact⟨by show 13<top;unfold top;omega,_,mi 1,(bz.ptr<|h1 273 ah).z⟩
  ·exact⟨by show 16<top;unfold top;omega,_,mi 2,hv⟩
 rcases hf with⟨rfl,rfl,rfl⟩|⟨hl,rfl,rfl⟩
 ·exact Fc (fz:=[]) ah ah im (fun r hr ht=>sl [] r hr J9) (ob []) (fun p hp=>by cases hp)
 ·refine Fc (fz:=[(275,nm (R.map aG).flatten,(R.map aG).flatten)]) ah ah im (fun r hr ht=>sl _ r hr<|GY (List.mem_singleton.2 rfl) ht rfl) (ob _) fun p hp=>?_;rw[List.mem_singleton] at hp;subst hp;exact⟨by show 274<=275;omega,GZ eI eX 275 eX<|List.mem_append_right _ hr⟩
theorem inG:∀p∈xr uh um us w seen gl nv ns,p∈pI 272 274 275 uh um us w seen gl nv ns om aU:=fun p hp=>by
 simp only[xr,List.mem_cons,List.not_mem_nil,or_false] at hp;rcases hp with rfl|rfl|rfl|rfl
 ·exact mi 0
 ·exact mi 1
 ·exact mi 2
 ·exact mi 3
theorem inV{ev:bZ}:∀p∈xr uh um us w seen gl nv ns,p∈tz 272 276 uh um us w seen gl nv ns om aU ev:=fun p hp=>List.mem_append_left _<|inG p hp
abbrev pnE(ns:Int)(vr:AV)(o0:List<|Nat×Option ae)(R:List Int)(uh um us:AV)(w seen:Int)(gl:Nat)(nv:Int)(bF:Nat):Pl:=.rn (qA ns vr) (aq++o0) (qA ns<|aD aG R) (aq++xr uh um us w seen gl nv ns) bF 274 .no
abbrev CtE(ns:Int)(vr:AV)(o0:List<|Nat×Option ae)(R:List Int)(uh um us:AV)(w seen:Int)(gl:Nat)(nv:Int)(bF:Nat):Prop:=((qA ns vr).map (fun q=>some q.2)=(qA ns vr).map (fun q=>some q.2))/\((aq++o0).map (fun q=>q.2)=(aq++o0).map (fun q=>q.2))/\gY FU 270 bF (qA ns vr) (aq++o0) (qA ns<|aD aG R) (aq++xr uh um us w seen gl nv ns) 274/\(zw (qA ns<|aD aG R) KE=zw (qA ns<|aD aG R) KE/\nM uh um us w seen gl nv ns=nM uh um us w seen gl nv ns)
abbrev iJ(B:aJ)(R:List Int)(ns:Int)(gl:Nat)(uh um us:AV)(w seen nv:Int):Prop:=vd B (zw (qA ns<|aD aG R) KE)<|nM uh um us w seen gl nv ns
theorem ev7{R:List Int}{b:Bool}{ev:bZ}(mc:Mt LL B)(hf:Fz R vr aU)(H:iJ B R ns gl uh um us w seen nv):pJ B ns i G gl N len uh um us w seen nv vm vr om aU b 7 ev:=nh mc H (.st 2<|.rg<|.go 2<|.en<|.st 2<|pnE ns vr (tz 272 276 uh um us w seen gl nv ns om aU ev) R uh um us w seen gl nv 277) (show CtE ns vr (tz 272 276 uh um us w seen gl nv ns om aU ev) R uh um us w seen gl nv 277 from⟨rfl,rfl,wkE hf cn cn inV<|mi 5,rfl,rfl⟩)
theorem akV{R:List Int}(mc:Mt LL B)(hf:Fz R vr aU)(h1:(len:Int)<=i)(H:iJ B R ns gl uh um us w seen nv):mr B KH ns i G gl N len uh um us w seen nv vm vr om aU:=nh mc H (.st 2<|.rg<|.go 3<|.fk .no<|.en<|.st 2<|pnE ns vr (pI 272 274 275 uh um us w seen gl nv ns om aU) R uh um us w seen gl nv 276)<|ax (i<(len:Int)) (fun h=>show False by omega) fun _=>(show CtE ns vr (pI 272 274 275 uh um us w seen gl nv ns om aU) R uh um us w seen gl nv 276 from⟨rfl,rfl,wkE hf cn cn inG<|mi 5,rfl,rfl⟩)
theorem akW{R A S:List Int}(mc:Mt LL B)(k0:bp (ba Eh) [.int .i64 ns,aD aG R]=some (.tuple [aD aG S,.bool true]))(k1:bJ gR Hv us []=some (aD aG A))(k2:bp (ba Fe) [aD aG A,aD aG S]=some (.bool true))(hA:(aD aG A).hi=true):iJ B R ns gl uh um us w seen nv:=I3 mc (.st 1<|.rg<|.go 2<|.kn (.tuple [aD aG S,.bool true])<|.go 5<|.en<|.st 1<|.rg<|.go 3<|.il<|.st 8<|.rg<|.go 4<|.cg (aD aG A) (tG 272) (tQ 1 272 us)<|.go 1<|.en<|.rt 1<|.go 1<|.kn (.bool true)<|.go 2<|.en<|.rt 1 .no)<|ai k0<|tR LL 36 1 272 (bJ gR Hv) [] us (aD aG A) k1 (ai k2 (show(AV.bool true)= .bool true from rfl)) (h4:=hA)
theorem s0L{X xl A al:Nat}{m:Int}(mc:Mt LL B)(k0:bp (ba<|pb 22) [.ab X 0 xl,.int .i64 0]=some (.tuple [.int .i64 m,.bool true]))(k1:bp (ba yl) []=some (.bool true)):vd B (sF 3 Tryz.f3 [.ab X 0 xl,.ab A 0 al,.int .i64 ns,.ab G 0 gl,.ab N 0 len])<|aj aq 270:=I3 mc (.st 4<|.rg<|.go 2<|.il<|.st 3<|.rg<|.go 1<|.kn (.tuple [.int .i64 m,.bool true])<|.go 5<|.en<|.rt 3<|.go 14<|.en<|.st 2<|.rg<|.kn (.bool true)<|.go 1<|.en<|.rt 1 .no)<|ai k0<|ai k1 (show(AV.bool true)= .bool true from rfl)
theorem s0B{X xl A al:Nat}{m:Int}(mc:Mt LL B)(hb:gl>50\/al>40\/len>2000)(k0:bp (ba<|pb 22) [.ab X 0 xl,.int .i64 0]=some (.tuple [.int .i64 m,.bool false]))(k1:bp (ba yl) []=some (.bool true)):vd B (sF 3 Tryz.f3 [.ab X 0 xl,.ab A 0 al,.int .i64 ns,.ab G 0 gl,.ab N 0 len])<|aj aq 270:=I3 mc (.st 4<|.rg<|.go 2<|.il<|.st 3<|.rg<|.go 1<|.kn (.tuple [.int .i64 m,.bool false])<|.go 5<|.en<|.st 1<|.rg<|.go 4<|.fk (.go 2<|.en<|.rt 1<|.go 14<|.en<|.st 2<|.rg<|.kn (.bool true)<|.go 1<|.en<|.rt 1 .no)<|.go 2<|.en<|.rt 1<|.go 3<|.fk (.go 10<|.en<|.st 2<|.rg<|.kn (.bool true)<|.go 1<|.en<|.rt 1 .no)<|.go 4<|.fk (.go 5<|.en<|.st 2<|.rg<|.kn (.bool true)<|.go 1<|.en<|.rt 1 .no) .no)<|ai k0<|ax ((gl:Int)>50) (fun _=>And.intro k1 (show(AV.bool true)= .bool true from rfl)) fun _=>ax ((al:Int)>40) (fun _=>And.intro k1 (show(AV.bool true)= .bool true from rfl)) fun _=>ax ((len:Int)>2000) (fun _=>And.intro k1 (show(AV.bool true)= .bool true from rfl)) (fun h=>show False by omega)
def pM(m:Int)(p:Pl):Pl:=(.st 4<|.rg<|.go 2<|.il<|.st 3<|.rg<|.go 1<|.kn (.tuple [.int .i64 m,.bool false])<|.go 5<|.en<|.st 1<|.rg<|.go 4<|.fk .no<|.go 2<|.en<|.rt 1<|.go 3<|.fk .no<|.go 4<|.fk .no<|.go 2<|.kn (.bool true)<|.go 2<|.en<|.st 3<|.rg<|.go 2 p)
section
variable {X xl A al:Nat} {m:Int} (mc:Mt LL B) (hb:gl<=50/\al<=40/\len<=2000) (k0:bp (ba<|pb 22) [.ab X 0 xl,.int .i64 0]=some (.tuple [.int .i64 m,.bool false])) (k1:bp (ba yl) []=some (.bool true))
include mc hb k0 k1
theorem s0N(hq:al<1\/al>32\/ns<1\/ns>(al:Int))(k2:lN wg [.ab A 0 al,.int .i64 ns,.int .i64 1099511627776]=some (none,m9 1)):vd B (sF 3 Tryz.f3 [.ab X 0 xl,.ab A 0 al,.int .i64 ns,.ab G 0 gl,.ab N 0 len])<|aj aq 270:=I3 mc (pM m<|.nt none (m9 1)<|.go 5<|.en<|.st 1<|.rg<|.go 5<|.il<|.st 4<|.rg<|.go 8<|.fk (.go 14<|.en<|.rt 4<|.go 5<|.en<|.rt 7 .no)<|.go 3<|.fk (.go 10<|.en<|.rt 4<|.go 5<|.en<|.rt 7 .no)<|.go 3<|.fk (.go 6<|.en<|.rt 4<|.go 5<|.en<|.rt 7 .no)<|.go 4<|.fk (.go 1<|.en<|.rt 4<|.go 5<|.en<|.rt 7 .no) .no)<|ai k0<|ax ((gl:Int)>50) (fun h=>show False by omega) fun _=>(ax ((al:Int)>40) (fun h=>show False by omega) fun _=>(ax ((len:Int)>2000) (fun h=>show False by omega) fun _=>(ai k1<|ai k2<|ax ((al:Int)<1) (fun _=>(show(AV.bool true)= .bool true from rfl)) fun _=>ax ((al:Int)>32) (fun _=>(show(AV.bool true)= .bool true from rfl)) fun _=>ax (ns<1) (fun _=>(show(AV.bool true)= .bool true from rfl)) fun _=>ax (ns>(al:Int)) (fun _=>(show(AV.bool true)= .bool true from rfl)) (fun h=>show False by omega))))
def pN(m:Int)(uh:AV)(p:Pl):Pl:=(pM m<|.nt (some uh) (m9 0)<|.go 5<|.en<|.st 1<|.rg<|.go 5<|.il<|.st 4<|.rg<|.go 8<|.fk .no<|.go 3<|.fk .no<|.go 3<|.fk .no<|.go 4<|.fk .no<|.go 1<|.en<|.st 3<|.rg<|.go 3 p)
theorem s0M{uh:AV}(hq:1<=al/\al<=32/\1<=ns/\ns<=(al:Int))(k2:lN wg [.ab A 0 al,.int .i64 ns,.int .i64 1099511627776]=some (some uh,m9 0))(k3:lN yz [.ab X 0 xl,.int .i64 (al:Int),.ab G 0 gl]=some (none,m9 4)):vd B (sF 3 Tryz.f3 [.ab X 0 xl,.ab A 0 al,.int .i64 ns,.ab G 0 gl,.ab N 0 len])<|aj aq 270:=I3 mc (pN m uh<|.nt none (m9 4)<|.go 5<|.en<|.rt 7<|.go 5<|.en<|.rt 7 .no)<|ai k0<|ax ((gl:Int)>50) (fun h=>show False by omega) fun _=>(ax ((al:Int)>40) (fun h=>show False by omega) fun _=>(ax ((len:Int)>2000) (fun h=>show False by omega) fun _=>(ai k1<|ai k2<|ax ((al:Int)<1) (fun h=>show False by omega) fun _=>(ax ((al:Int)>32) (fun h=>show False by omega) fun _=>(ax (ns<1) (fun h=>show False by omega) fun _=>(ax (ns>(al:Int)) (fun h=>show False by omega) fun _=>(ai k3 (show(AV.bool true)= .bool true from rfl))))))))
theorem s0K{uh um:AV}(hG:(AV.ab G 0 gl).cq=true)(hN:(AV.ab N 0 len).cq=true)(hq:1<=al/\al<=32/\1<=ns/\ns<=(al:Int))(k2:lN wg [.ab A 0 al,.int .i64 ns,.int .i64 1099511627776]=some (some uh,m9 0))(k3:lN yz [.ab X 0 xl,.int .i64 (al:Int),.ab G 0 gl]=some (some um,m9 0))(k4:lN Ec [.int .i64 0,.int .i64 ns]=some (some nF,fun p=>.tuple [p,.int .i64 0]))(H:mr B KH ns 0 G gl N len uh um nF 1 0 (al:Int) kY kY none none):vd B (sF 3 Tryz.f3 [.ab X 0 xl,.ab A 0 al,.int .i64 ns,.ab G 0 gl,.ab N 0 len])<|aj aq 270:=nh mc H (pN m uh<|.nt (some um) (m9 0)<|.go 5<|.en<|.st 6<|.rg<|.go 1<|.nt (some nF) (fun p=>.tuple [p,.int .i64 0])<|.go 5<|.en<|.rt 8<|.go 5<|.en<|.st 14<|vg ns 0 G gl N len uh um nF 1 0 (al:Int) kY kY none none 272 274 275 274 kY kY none none)<|ai k0<|ax ((gl:Int)>50) (fun h=>show False by omega) fun _=>(ax ((al:Int)>40) (fun h=>show False by omega) fun _=>(ax ((len:Int)>2000) (fun h=>show False by omega) fun _=>(ai k1<|ai k2<|ax ((al:Int)<1) (fun h=>show False by omega) fun _=>(ax ((al:Int)>32) (fun h=>show False by omega) fun _=>(ax (ns<1) (fun h=>show False by omega) fun _=>(ax (ns>(al:Int)) (fun h=>show False by omega) fun _=>(ai k3<|ai k4<|ze KH ns 0 uh um nF 1 0 (al:Int) 272 274 275 274 hG hN (.inl ⟨rfl,rfl,rfl,rfl⟩)<|.inl ⟨rfl,rfl,rfl,rfl⟩)))))))
end
end
end
end FH
end
section
open Go Go.Rn Go.RowKit Go.Proofs
namespace HN
open cr fQ hI fF jU zk HL Ao AL A6 CS Fb uL wE ql sB LH FE FG FH
def isT(r:R AV):Bool:=match r with| .ok (.bool true) _=>true|_=>false
noncomputable def jZ(f:FuncId):Nat:= @Bool.rec (fun _=>Nat) 0 1<|Nat.beq f 109
theorem agh:isT (Av pg jZ 60 (.fn 5) [] ⟨dV,270,0,[],[]⟩)=true:=by as_aux_lemma=>kernel_rfl
theorem adg(hP:bB pg){L:bU}(h:aV L):aV<|Xn::L:=by
 refine ab9 (jZ:=jZ) (fun _=>trivial) hP gL pW ir gZ h Tryz.func5 (body:=aW pg 5 []) aY aY fun args v e=>?_;obtain⟨rfl,rfl⟩:=gf e;have q:=agh;revert q;cases e:Av pg jZ 60 (.fn 5) [] ⟨dV,270,0,[],[]⟩ with
 |bad=>intro q;cases q
 |ok x s1=>
  intro q;refine⟨60,s1,e.trans ?_⟩;cases x with
  |bool b=>cases b with
   |true=>rfl
   |false=>cases q
  |_=>cases q
theorem ahK(hP:bB pg):aV LL:=Vu hP 22<|adg hP<|aes hP<|aer hP<|abP hP<|adX hP<|adY hP<|abf hP<|ab3 hP<|aaT hP<|ab4 hP<|ab5 hP<|ada hP<|aaU hP<|ac9 hP<|aen hP<|af6 hP<|adV hP<|afe hP<|adf hP<|aev hP<|aew hP cO
end HN
end
section
open Go Go.Rn Go.RowKit Go.Proofs
namespace QJ
open cr fQ hI fF zk AL A6 jU ql CT Ar FE FF FG CR HM FH HN
variable {s x:Int} {q:dM} {rest:List AV} {L:List Int}
theorem agi{n:Int}:x∈jW L n↔x∈L\/x=n:=by
 unfold jW;split
 ·rename_i h;exact⟨.inl,fun| .inl h=>h| .inr e=>e▸h⟩
 ·rw[List.mem_append,List.mem_append,List.mem_singleton];have:=congrArg (fun l=>x∈l)<|List.take_append_drop (nO n L) L;simp only[List.mem_append,eq_iff_iff] at this;rw[←this];exact⟨fun| .inl (.inl h)=>.inl (.inl h)| .inl (.inr h)=>.inr h| .inr h=>.inl<|.inr h,fun| .inl (.inl h)=>.inl (.inl h)| .inl (.inr h)=>.inr h| .inr h=>.inl<|.inr h⟩
theorem WD{n:Int}:∀{L:List Int},∀x∈L.take (nO n L),x<n
 |[],x,h=>by rw[show nO n []=0 from rfl] at h;cases h
 |y::l,x,h=>by
  unfold nO at h;split at h
  ·rw[List.take_succ_cons] at h;rcases List.mem_cons.1 h with rfl|h
   ·assumption
   ·exact WD x h
  ·cases h
theorem WE{n:Int}:∀{L:List Int},L.Pairwise (· < ·)->∀x∈L.drop (nO n L),n<=x
 |[],_,x,h=>by rw[List.drop_nil] at h;cases h
 |y::l,hp,x,h=>by
  obtain⟨h1,h2⟩:=List.pairwise_cons.1 hp;unfold nO at h;split at h
  ·rw[List.drop_succ_cons] at h;exact WE h2 x h
  ·rename_i q;rcases List.mem_cons.1 h with rfl|h
   ·omega
   ·have:=h1 x h;omega
theorem ahL{n:Int}(h:L.Pairwise (· < ·)):(jW L n).Pairwise (· < ·):=by
 unfold jW;split
 ·exact h
 ·rename_i hn;have a:=WD (n:=n) (L:=L);have b:=WE (n:=n) h;rw[List.append_assoc,List.pairwise_append];refine⟨h.sublist<|List.take_sublist _ _,List.pairwise_cons.2 ⟨fun x hx=>?_,h.sublist<|List.drop_sublist _ _⟩,fun x hx y hy=>?_⟩
  ·have:=b x hx;have:x≠n:=fun e=>hn<|e▸List.mem_of_mem_drop hx;omega
  ·have:=a x hx;rcases List.mem_cons.1 hy with rfl|hy
   ·exact this
   ·have:=b y hy;omega
theorem Vz:∀(r L:List Int),L.Pairwise (· < ·)->(r.foldl jW L).Pairwise (· < ·)/\∀x,x∈r.foldl jW L↔x∈L\/x∈r
 |[],L,h=>⟨h,fun x=>⟨.inl,fun| .inl h=>h| .inr h=>by cases h⟩⟩
 |n::r,L,h=>by obtain⟨a,b⟩:=Vz r (jW L n)<|ahL h;refine⟨a,fun x=>?_⟩;rw[List.foldl_cons,b,agi,List.mem_cons];exact⟨fun| .inl (.inl h)=>.inl h| .inl (.inr h)=>.inr (.inl h)| .inr h=>.inr<|.inr h,fun| .inl h=>.inl (.inl h)| .inr (.inl h)=>.inl (.inr h)| .inr (.inr h)=>.inr h⟩
theorem Xo{a:dM}:∀m i,(tq a m i).Pairwise (· < ·)/\∀x,x∈tq a m i↔((i:Int)<=x/\x<((i+m:Nat):Int))/\x<a.fG/\hasB a x=true
 |0,i=>⟨List.Pairwise.nil,fun x=>⟨fun h=>(by cases(show x∈[] from h)),fun h=>by omega⟩⟩
 |m+1,i=>by
  obtain⟨h1,h2⟩:=Xo (a:=a) m<|i+1;unfold tq;split
  ·rename_i q;refine⟨List.pairwise_cons.2 ⟨fun x hx=>by have:=((h2 x).1 hx).1;omega,h1⟩,fun x=>?_⟩;rw[List.mem_cons,h2];refine⟨fun h=>?_,fun h=>?_⟩
   ·rcases h with rfl|h
    ·exact⟨by omega,q⟩
    ·exact⟨by omega,h.2⟩
   ·by_cases e:x=(i:Int)
    ·exact .inl e
    ·exact .inr ⟨by omega,h.2⟩
  ·rename_i q;refine⟨h1,fun x=>?_⟩;rw[h2];refine⟨fun h=>⟨by omega,h.2⟩,fun h=>?_⟩;have:x≠(i:Int):=fun e=>q<|e▸h.2;exact⟨by omega,h.2⟩
theorem Xp:∀{L M:List Int},L.Pairwise (· < ·)->M.Pairwise (· < ·)->(∀x,x∈L↔x∈M)->L=M
 |[],[],_,_,_=>rfl
 |[],y::M,_,_,h=>by have:=(h y).2 List.mem_cons_self;cases this
 |x::L,[],_,_,h=>by have:=(h x).1 List.mem_cons_self;cases this
 |x::L,y::M,hL,hM,h=>by
  obtain⟨a1,a2⟩:=List.pairwise_cons.1 hL;obtain⟨b1,b2⟩:=List.pairwise_cons.1 hM;have e:x=y:=by
   rcases List.mem_cons.1 ((h x).1 List.mem_cons_self) with e|e
   ·exact e
   ·rcases List.mem_cons.1 ((h y).2 List.mem_cons_self) with e'|e'
    ·exact e'.symm
    ·have:=b1 x e;have:=a1 y e';omega
  subst e;refine congrArg (x:: ·)<|Xp a2 b2 fun z=>⟨fun hz=>?_,fun hz=>?_⟩
  ·rcases List.mem_cons.1 ((h z).1<|List.mem_cons_of_mem _ hz) with e|e
   ·have:=a1 z hz;omega
   ·exact e
  ·rcases List.mem_cons.1 ((h z).2<|List.mem_cons_of_mem _ hz) with e|e
   ·have:=b1 z hz;omega
   ·exact e
theorem ahM{r:List Int}(hq:q.fG<=32)(hr:∀x∈r,0<=x/\x<q.fG)(h:∀x,0<=x->x<q.fG->(hasB q x=true↔x∈r)):qm q=r.foldl jW []:=by
 obtain⟨a,b⟩:=Xo (a:=q) 32 0;obtain⟨c,d⟩:=Vz r [] List.Pairwise.nil;refine Xp a c fun x=>?_;rw[show qm q=tq q 32 0 from rfl,b,d];refine⟨fun h1=>.inr<|(h x ah h1.2.1).1 h1.2.2,fun h1=>?_⟩;rcases h1 with h1|h1
 ·cases h1
 ·have:=hr x h1;exact⟨by omega,this.2,(h x this.1 this.2).2 h1⟩
theorem has_add(hq:iS q)(hs:0<=s/\s<q.fG)(hx:0<=x):hasB (m8 q s) x=true↔hasB q x=true\/x=s:=by
 have hl:=hq.2.2;have h2:=hq.2.1;unfold m8;rw[if_neg ah];unfold hasB Fq;show(q.has.set s.toNat true).getD x.toNat false=true↔_;rw[List.getD_eq_getElem?_getD,List.getElem?_set,List.getD_eq_getElem?_getD];by_cases e:x=s
 ·subst e;rw[if_pos rfl,if_pos ah];exact⟨fun _=>.inr rfl,fun _=>rfl⟩
 ·rw[if_neg ah];exact⟨.inl,fun| .inl h=>h| .inr h=>absurd h e⟩
theorem ahN:(m8 q s).fG=q.fG:=by unfold m8;split<;>rfl
theorem Lg{ns:Int}(h:1<=ns/\ns<=32):iS<|ph 0 ns:=⟨by unfold Ck;show -9223372036854775808<=(0:Int)/\(0:Int)<=9223372036854775807;omega,h,rfl⟩
theorem WG{ns:Int}:hasB (ph 0 ns) x=true↔x∈([]:List Int):=by show(List.replicate 32 false).getD x.toNat false=true↔_;rw[List.getD_eq_getElem?_getD,List.getElem?_replicate];split<;>exact⟨fun h=>(by cases h),fun h=>(by cases h)⟩
theorem AN{S:Type}{enc:S->AV}(inj:∀a b,enc a=enc b->a=b){f:S->List AV->Option (AV×S)}{a a':S}{y:AV}(h:f a rest=some (y,a'))(h1:rest.all AV.hi=true)(h2:y.hi=true):gQ (eW enc f) (enc a) rest=some (y,enc a'):=ae3 ((BM inj).trans (by rw[h];rfl)) h1 h2
theorem rH{f:cK->List AV->Option AV}{a:cK}:bJ aX f (aX a) rest=f a rest:=O4 Gz
structure mu (nv ns:Int) (a:cK):Prop where
 ok:ky a
 ln:(a.bY.length:Int)=ns
 vn:(a.eS.length:Int)=nv
 clk:a.bj=0
section
variable {nv ns:Int} {a:cK}
theorem tm{v:Int}(h0:0<=v)(hs:1<=ns):0<=Int.tmod v ns/\Int.tmod v ns<ns:=⟨Int.tmod_nonneg _ h0,Int.tmod_lt_of_pos _ ah⟩
theorem mu.pos(h:mu nv ns a):(1<=ns/\ns<=32)/\1<=nv:=by have h1:=h.ok.1;have h2:=h.ok.2.1.1;have:=h.ln;have:=h.vn;omega
theorem mu.set(h:mu nv ns a)(s:Int)(k:Lk):mu nv ns<|uv a s k:=⟨PR h.ok,by rw[←On];exact h.ln,h.vn,h.clk⟩
theorem ajA(h:mu nv ns a)(s dB:Int):mu nv ns<|n7 a s dB:=by
 unfold n7;split
 ·exact h.set _ _
 ·exact h
theorem ajB(h:mu nv ns a)(s dB:Int):mu nv ns<|qj a s dB:=by
 unfold qj;split
 ·exact h.set _ _
 ·exact h
theorem BT(h:mu nv ns a):bJ aX pa (aX a) []=some (.int .i64 nv):=by refine rH.trans<|congrArg some ?_;show AV.int .i64 (a.eS.length:Int)=_;rw[h.vn]
theorem Bo(h:mu nv ns a):bJ aX oB (aX a) []=some (.int .i64 ns):=by refine rH.trans<|congrArg some ?_;show AV.int .i64 (a.bY.length:Int)=_;rw[h.ln]
theorem UH{v:Int}(h:mu nv ns a)(hv:0<=v/\v<nv):bJ aX ni (aX a) [.int .i64 v]=some (i6<|Int.tmod v ns):=by refine rH.trans<|congrArg some ?_;show AV.int .i64 (if 0<=v/\v<(a.eS.length:Int) then Int.tmod v (a.bY.length:Int) else -1)=_;rw[h.vn,h.ln,if_pos hv]
theorem VA(h:mu nv ns a)(hs:0<=s/\s<ns):bJ aX ui (aX a) [.int .i64 s]=some (i6 (fS a.bY s).owner):=by refine rH.trans<|congrArg some ?_;show AV.int .i64 (if 0<=s/\s<(a.bY.length:Int) then(fS a.bY s).owner else -1)=_;rw[h.ln,if_pos hs]
theorem TU(h:mu nv ns a)(hs:0<=s/\s<ns):bJ aX rT (aX a) [.int .i64 s]=some (i6 (fS a.bY s).version):=by refine rH.trans<|congrArg some ?_;show AV.int .i64 (if 0<=s/\s<(a.bY.length:Int) then(fS a.bY s).version else 0)=_;rw[h.ln,if_pos hs]
theorem aeA{v:Int}(h:mu nv ns a)(hv:0<=v/\v<nv):bJ aX Hs (aX a) [.int .i64 v]=some (i6<|pk a.eS v):=by refine rH.trans<|congrArg some ?_;show AV.int .i64 (if 0<=v/\v<(a.eS.length:Int) then pk a.eS v else 0)=_;rw[h.vn,if_pos hv]
end
end QJ
end
section
open Go Go.Rn Go.RowKit Go.Proofs
namespace QK
open cr fQ hI fF zk AL A6 jU pq sB ql wE uL CT Ar FE FF FG CR HM HL Ao FH HN QJ
variable {α:Type} {e:α} {L:List bZ} {enc:α->List AV} {d K:Nat}
noncomputable section
structure vh where
 kind:Int
 au:Int
 dB:Int
 x:Int
def yR(t:vh):List AV:=[.int .u8 t.kind,.int .i64 t.au,.int .i64 t.dB,.int .i64 t.x]
theorem eT:me 4 yR:=⟨fun _=>rfl,fun _=>rfl⟩
abbrev nT(l:List vh):Nat:=nm (l.map yR).flatten
theorem gp{cs:List AV}{n:Nat}:(AV.ab (nm cs) 0 n).cq=true:=aL.2<|cU _
def vL(n K:Nat):List α->AV
 |[]=>kY
 |x::l=>vR n K (x::l).length
def oL(enc:α->List AV):List α->Option ae
 |[]=>none
 |x::l=>some<|aI enc<|x::l
theorem nd{n:Nat}:∀{l:List α},l.length<=100000->Rs K enc n (vL n K l) (oL enc l)
 |[],_=>.inl ⟨rfl,rfl,rfl,rfl⟩
 |x::l,h=>.inr ⟨x::l,List.cons_ne_nil _ _,h,rfl,rfl,rfl,rfl⟩
theorem Y1:∀{l:List Int},l.length<=100000->Fz l (vL 275 1 l) (oL aG l)
 |[],_=>.inl ⟨rfl,rfl,rfl⟩
 |x::l,h=>.inr ⟨h,rfl,rfl⟩
theorem Cf{n:Nat}:∀{l:List α},vL n K (l++[e])=vR n K (l++[e]).length
 |[]=>rfl
 |_::_=>rfl
theorem Cg:∀{l:List α},oL enc (l++[e])=some (aI enc<|l++[e])
 |[]=>rfl
 |_::_=>rfl
theorem agj{L:List α}:(L++[e])[(((L++[e]).length:Nat):Int).toNat - 1]? =some e:=by rw[Int.toNat_natCast,List.length_append];show(L++[e])[L.length+1 - 1]? =_;rw[Nat.add_sub_cancel,List.getElem?_append_right<|Nat.le_refl _,Nat.sub_self];rfl
theorem Lh{L:List α}:(L++[e])[((((L++[e]).length:Nat):Int) - 1).toNat]? =some e:=by rw[show((((L++[e]).length:Nat):Int) - 1).toNat=(((L++[e]).length:Nat):Int).toNat - 1 by omega];exact agj
section
variable (B:aJ) (aH:List Int) (l:List vh) (nv ns:Int)
abbrev I4(K:List Item)(i:Int)(a:cK)(q:dM)(m:dQ)(w seen:Int)(ml:List bZ)(rl:List Int):Prop:=mr B K ns i (nI aH) aH.length (nT l) l.length (aX a) (eJ m) (gR q) w seen nv (vL 274 7 ml) (vL 275 1 rl) (oL eY ml)<|oL aG rl
abbrev DD:=I4 B aH l nv ns KH
abbrev M8:=I4 B aH l nv ns KP
end
theorem akX{B:aJ}(mc:Mt LL B){aH:List Int}{l:List vh}{k:Nat}{e:vh}{ml:List bZ}{rl:List Int}(uT:ml.length<=100000)(zq:rl.length<=100000)(hl:l.length<=2000)(he:l[k]? =some e){a:cK}{nv ns:Int}(h:mu nv ns a):
 ∃a',mu nv ns a'/\∀(q:dM) (m:dQ) (w seen:Int),M8 B aH l nv ns (k:Int) a' q m w seen ml rl->DD B aH l nv ns (k:Int) a q m w seen ml rl:=by
 have hk:=(List.getElem?_eq_some_iff.1 he).1;have h0:(0:Int)<=(k:Int):=by omega
 have h1:(k:Int)<(l.length:Int):=by omega
 have au:∀j,Nat.ble (j+1) 4=true->cx FU (nT l) (0+(k:Int).toNat*4+j) 1=some (((yR e).drop j).take 1):=fun j hj=>by rw[Int.toNat_natCast,Nat.zero_add];exact ya eT he j 1 (by have:=aL.1 hj;omega)
 have I5:cx FU (nT l) (0+(k:Int).toNat*4+0) 1=some [.int .u8 e.kind]:=au 0 rfl;have h1k:cx FU (nT l) (0+(k:Int).toNat*4+1) 1=some [.int .i64 e.au]:=au 1 rfl;have h2k:cx FU (nT l) (0+(k:Int).toNat*4+2) 1=some [.int .i64 e.dB]:=au 2 rfl;by_cases k1:e.kind=1
 ·rw[k1] at I5;exact⟨_,ajA h _ _,fun q m w seen H=>tnK mc gp gp (nd uT) (nd zq) (.inl ⟨rfl,rfl⟩) (cU _) h0 hl h1 I5 h1k h2k (AN Gz (f:=Me) rfl rfl rfl) H⟩
 by_cases k2:e.kind=2
 ·rw[k2] at I5;exact⟨_,ajB h _ _,fun q m w seen H=>tnK mc gp gp (nd uT) (nd zq) (.inr ⟨rfl,rfl⟩) (cU _) h0 hl h1 I5 h1k h2k (AN Gz (f:=Mf) rfl rfl rfl) H⟩
 exact⟨a,h,fun q m w seen H=>tnO mc gp gp (nd uT) (nd zq) (cU _) h0 hl h1 I5 ⟨k1,k2⟩ H⟩
def Wh(ns:Int)(m:dQ)(w:Int)(e:bZ):Prop:=(w=2/\fU m=(1,0,0)/\(e.k=1\/e.k=3))\/(w=3/\(∃v,fU m=(2,v,0))/\(e.k=1\/e.k=3))\/(w=4/\∃v ve,fU m=(2,v,0)/\e=⟨2,2,0,Int.tmod v ns,ve,0,0⟩)\/5<=w
structure tA (nv ns:Int) (d:Nat) (a:cK) (q:dM) (m:dQ) (w:Int) (ml:List bZ) (rl:List Int):Prop where
 h:mu nv ns a
 so:iS q
 qs:q.fG=ns
 mi:mj m
 st:0<=m.steps/\m.steps<=(d:Int)
 mv:m.vars=nv
 nm:ml.length<=d/\rl.length<=d
 re:∀x,0<=x->x<ns->(hasB q x=true↔x∈rl)
 ri:∀x∈rl,0<=x/\x<ns
 wh:(w=1/\ml=[]/\rl=[])\/∃L e,ml=L++[e]/\Wh ns m w e
theorem Y2{m:dQ}(hm:mj m)(hs:0<=m.steps/\m.steps<=1000000000000):bJ eJ (fun a rest=>(mh a rest).map (·.1)) (eJ m) []=some (AK<|fU m):=by refine(O4 DS).trans ?_;unfold mh;rw[if_pos ⟨rfl,hm.ask hs⟩];rfl
theorem QL{m:dQ}(hm:mj m)(hs:0<=m.steps/\m.steps<=1000000000000):∃(ka:Nat) (kb an xn:Int),((ka=1/\kb=2)\/(ka=2/\kb=3)\/(ka=3/\kb=5)\/(ka=4/\kb=6))/\
 bJ eJ (fun a rest=>(mh a rest).map (·.1)) (eJ m) []=some (.agg [.int .u8<|.ofNat ka,.int .i64 an,.int .i64 xn])/\∀ns e,(e.k=1\/e.k=3)->Wh ns m kb e:=by
 have hx:=Y2 hm hs;rcases UF hm with e|⟨v,e,_⟩|⟨x,e⟩|e
 ·rw[e] at hx;exact⟨1,2,0,0,.inl ⟨rfl,rfl⟩,hx,fun _ _ h=>.inl ⟨rfl,e,h⟩⟩
 ·rw[e] at hx;exact⟨2,3,v,0,.inr<|.inl ⟨rfl,rfl⟩,hx,fun _ _ h=>.inr<|.inl ⟨rfl,⟨v,e⟩,h⟩⟩
 ·rw[e] at hx;exact⟨3,5,0,x,.inr<|.inr<|.inl ⟨rfl,rfl⟩,hx,fun _ _ _=>.inr<|.inr<|.inr ah⟩
 ·rw[e] at hx;exact⟨4,6,0,0,.inr<|.inr<|.inr ⟨rfl,rfl⟩,hx,fun _ _ _=>.inr<|.inr<|.inr ah⟩
theorem ahO{m:dQ}{v:Int}(hm:mj m)(ha:fU m=(2,v,0)):0<=v/\v<m.vars:=by
 rcases UF hm with e|⟨v',e,b1,b2⟩|⟨x,e⟩|e<;>rw[ha] at e
 ·injection e with e _;omega
 ·injection e with _ e;injection e with e _;omega
 ·injection e with e _;omega
 ·injection e with e _;omega
section
variable {B:aJ} {aH:List Int} {l:List vh} {k:Nat} {nv ns w seen:Int} {a:cK} {q:dM} {m:dQ} {ml:List bZ} {rl:List Int}
abbrev Nx(B:aJ)(aH:List Int)(l:List vh)(k:Nat)(nv ns w seen:Int)(a:cK)(q:dM)(m:dQ)(ml:List bZ)(rl:List Int):Prop:=∃q' m' w' X4 SD SE,tA nv ns (k+1) a q' m' w' SD SE/\(DD B aH l nv ns ((k:Int)+1) a q' m' w' X4 SD SE->M8 B aH l nv ns (k:Int) a q m w seen ml rl)
abbrev Y3(B:aJ)(aH:List Int)(nv ns w seen:Int)(a:cK)(q:dM)(m:dQ)(rl:List Int):Prop:=iJ B rl ns aH.length (aX a) (eJ m) (gR q) w seen nv
theorem aeB(mc:Mt LL B)(hk:k<=2000)(ok:tA nv ns k a q m 1 [] []):Nx B aH l k nv ns 1 seen a q m [] []:=by
 obtain⟨h,hq,zx,hm,cQ,qB,I6,xu,vj,hw⟩:=ok;have h0:(0:Int)<=(k:Int):=by omega
 have hl:(k:Int)<=2000:=by omega
 have hp:=h.pos;have kC:bJ aX EE (aX a) []=some (.int .i64 0):=rH.trans<|congrArg (fun x=>some<|AV.int .i64 x) h.clk;have kN:lN Ec [.int .i64 0,.int .i64 ns]=some (some<|gR<|ph 0 ns,fun p=>.tuple [p,.int .i64 0]):=by refine Ka ?_ rfl;show(if(0:Int)<0\/(0:Int)>1099511627776\/ns<1\/ns>32 then _ else _)=_;rw[if_neg ah]
 obtain⟨ka,kb,an,xn,yV,kA,I7⟩:=QL hm ah;refine⟨ph 0 ns,m,kb,seen,[⟨1,2,(aH.length:Int),0,0,0,0⟩],[],⟨h,Lg hp.1,rfl,hm,by omega,qB,⟨by show 1<=k+1;omega,Nat.zero_le _⟩,fun x h1 h2=>WG,fun x hx=>(by cases hx),.inr ⟨[],_,rfl,I7 ns _<|.inl rfl⟩⟩,fun H=>?_⟩
 ·refine ib mc gp gp (nd<|Nat.zero_le _) (nd<|Nat.zero_le _) yV (BT h) (Bo h) kC kN kA ?_;exact evB mc gp gp h0 hl (nd<|Nat.zero_le _) H
theorem aeC{e:bZ}(mc:Mt LL B)(hk:k<=2000)(ok:tA nv ns k a q m 2 (L++[e]) rl)(ha:fU m=(1,0,0))(he:e.k=1\/e.k=3):Nx B aH l k nv ns 2 seen a q m (L++[e]) rl:=by
 obtain⟨h,hq,zx,hm,cQ,qB,I6,xu,vj,hw⟩:=ok;have h0:(0:Int)<=(k:Int):=by omega
 have hl:(k:Int)<=2000:=by omega
 obtain⟨hd,m',hs,eD,iZ,im,_⟩:=OI hm ah ha;have kT:gQ (eW eJ E7) (eJ m) []=some (.int .i64 0,eJ m'):=by refine AN DS (f:=E7) ?_ rfl rfl;unfold E7;rw[if_pos ⟨rfl,hd⟩,hs];rfl
 obtain⟨ka,kb,an,xn,yV,kA,I7⟩:=QL eD ah;have r1:Rs 7 eY 274 (vL 274 7<|L++[e])<|oL eY<|L++[e]:=nd ah;have r2:Rs 1 aG 275 (vL 275 1 rl)<|oL aG rl:=nd ah;exact⟨q,m',kb,seen,L++[e],rl,⟨h,hq,zx,eD,by omega,im.trans qB,⟨by omega,by omega⟩,xu,vj,.inr ⟨L,e,rfl,I7 ns e he⟩⟩,fun H=>jw mc gp gp r1 r2 yV (BT h) (Bo h) kT kA<|evI mc gp gp r1 r2 h0 hl H⟩
theorem O7{e:bZ}{s gy:Int}(mc:Mt LL B)(hk:k<=2000)(ok:tA nv ns k a q m w (L++[e]) rl)(hy:gy=3↔e.k=2)(T:pJ B ns (k:Int) (nI aH) aH.length (nT l) l.length (aX a) (eJ m) (gR q) 7 seen nv (vL 274 7<|L++[e]) (vL 275 1 rl) (oL eY<|L++[e]) (oL aG rl) true 0 ⟨10,2,0,s,0,0,gy⟩->M8 B aH l nv ns (k:Int) a q m w seen (L++[e]) rl):Nx B aH l k nv ns w seen a q m (L++[e]) rl:=by
 obtain⟨h,hq,zx,hm,cQ,qB,I6,xu,vj,hw⟩:=ok;have h0:(0:Int)<=(k:Int):=by omega
 have hl:(k:Int)<=2000:=by omega
 have r2:Rs 1 aG 275 (vL 275 1 rl)<|oL aG rl:=nd ah;refine⟨q,m,7,seen,(L++[e])++[⟨10,2,0,s,0,0,gy⟩],rl,⟨h,hq,zx,hm,by omega,qB,⟨by rw[List.length_append];show _+1<=_;omega,by omega⟩,xu,vj,.inr ⟨_,_,rfl,.inr<|.inr<|.inr ah⟩⟩,fun H=>T ?_⟩;have H:DD B aH l nv ns ((k:Int)+1) a q m 7 seen ((L++[e])++[⟨10,2,0,s,0,0,gy⟩]) rl:=H;unfold DD I4 at H;rw[Cf,Cg] at H;rw[Cf,Cg];exact gd mc gp gp h0 hl r2 (by rw[List.length_append];show 0<_+1;omega) ah Lh hy H
theorem X5{v:Int}(hm:mj m)(cQ:0<=m.steps/\m.steps<=1000000000000)(qB:m.vars=nv)(h:mu nv ns a)(ha:fU m=(2,v,0)):(0<=v/\v<nv)/\(0<=Int.tmod v ns/\Int.tmod v ns<ns)/\bJ eJ (fun a rest=>(mh a rest).map (·.1)) (eJ m) []=some (.agg [.int .u8 2,.int .i64 v,.int .i64 0]):=by
 have hv:0<=v/\v<nv:=by rw[←qB];exact ahO hm ha
 exact⟨hv,tm hv.1 h.pos.1.1,(Y2 hm cQ).trans (by rw[ha];rfl)⟩
theorem agk{e:bZ}{v:Int}(mc:Mt LL B)(hk:k<=2000)(ok:tA nv ns k a q m 3 (L++[e]) rl)(ha:fU m=(2,v,0))(he:e.k=1\/e.k=3):Nx B aH l k nv ns 3 seen a q m (L++[e]) rl:=by
 have DE:=ok;obtain⟨h,hq,zx,hm,cQ,qB,I6,xu,vj,hw⟩:=ok;have h0:(0:Int)<=(k:Int):=by omega
 have hl:(k:Int)<=2000:=by omega
 obtain⟨hv,hs,kA⟩:=X5 hm ah qB h ha;have kT:=UH h hv;have kO:=VA h hs;have kE:=TU h hs;have r1:Rs 7 eY 274 (vL 274 7<|L++[e])<|oL eY<|L++[e]:=nd ah;have r2:Rs 1 aG 275 (vL 275 1 rl)<|oL aG rl:=nd ah;by_cases c1:(fS a.bY<|Int.tmod v ns).owner≠ -1
 ·refine O7 mc hk DE (gy:=1) (s:=Int.tmod v ns) ah fun T=>Y0 mc gp gp r1 r2 ah (BT h) (Bo h) kA kT kO kE (AN zH (f:=Cq) ?_ rfl rfl) T;show some (p7 _ _ _,_)=_;unfold p7;rw[if_pos c1]
 by_cases c2:(fS a.bY<|Int.tmod v ns).version>q.rv
 ·refine O7 mc hk DE (gy:=2) (s:=Int.tmod v ns) ah fun T=>Y0 mc gp gp r1 r2 ah (BT h) (Bo h) kA kT kO kE (AN zH (f:=Cq) ?_ rfl rfl) T;show some (p7 _ _ _,_)=_;unfold p7;rw[if_neg c1,if_pos c2]
 refine⟨q,m,4,(fS a.bY<|Int.tmod v ns).version,(L++[e])++[⟨2,2,0,Int.tmod v ns,(fS a.bY<|Int.tmod v ns).version,0,0⟩],rl,⟨h,hq,zx,hm,by omega,qB,⟨by rw[List.length_append];show _+1<=_;omega,by omega⟩,xu,vj,.inr ⟨_,_,rfl,.inr<|.inr<|.inl ⟨rfl,v,_,ha,rfl⟩⟩⟩,fun H=>?_⟩;refine stK mc gp gp r1 r2 (BT h) (Bo h) kA kT kO kE (AN zH (f:=Cq) ?_ rfl rfl) ?_
 ·show some (p7 _ _ _,_)=_;unfold p7;rw[if_neg c1,if_neg c2]
 ·unfold DD I4 at H;rw[Cf,Cg] at H;rw[Cf,Cg];exact evK mc gp gp h0 hl r2 (by rw[List.length_append];show 0<_+1;omega) ah Lh he H
theorem agl{v ve:Int}(mc:Mt LL B)(hk:k<=2000)(ok:tA nv ns k a q m 4 (L++[⟨2,2,0,Int.tmod v ns,ve,0,0⟩]) rl)(ha:fU m=(2,v,0)):Nx B aH l k nv ns 4 seen a q m (L++[⟨2,2,0,Int.tmod v ns,ve,0,0⟩]) rl:=by
 have DE:=ok;obtain⟨h,hq,zx,hm,cQ,qB,I6,xu,vj,hw⟩:=ok;have h0:(0:Int)<=(k:Int):=by omega
 have hl:(k:Int)<=2000:=by omega
 obtain⟨hv,hs,kA⟩:=X5 hm ah qB h ha;have kT:=UH h hv;have kO:=VA h hs;have kE:=TU h hs;have kX:=aeA h hv;have r1:Rs 7 eY 274 (vL 274 7<|L++[⟨2,2,0,Int.tmod v ns,ve,0,0⟩])<|oL eY<|L++[⟨2,2,0,Int.tmod v ns,ve,0,0⟩]:=nd ah;have r2:Rs 1 aG 275 (vL 275 1 rl)<|oL aG rl:=nd ah;by_cases c1:(fS a.bY<|Int.tmod v ns).owner≠ -1\/(fS a.bY<|Int.tmod v ns).version≠seen
 ·exact O7 mc hk DE (gy:=3) (s:=Int.tmod v ns) (by simp) fun T=>akT mc gp gp r1 r2 c1 (BT h) (Bo h) kA kT kO kE T
 have c2:(fS a.bY<|Int.tmod v ns).owner= -1:=by omega
 have c3:(fS a.bY<|Int.tmod v ns).version=seen:=by omega
 rw[c2] at kO;rw[c3] at kE;obtain⟨hd,m',IH,eD,iZ,im,_⟩:=aga hm ah ha<|pk a.eS v;have kM:gQ (eW eJ CQ) (eJ m) [.int .i64<|pk a.eS v]=some (.int .i64 0,eJ m'):=by
  refine AN DS (f:=CQ) ?_ rfl rfl;have e1:CQ m [.int .i64<|pk a.eS v]=(BS m<|pk a.eS v).map fun a'=>(AV.int .i64 0,a'):=by unfold CQ;exact if_pos hd
  rw[e1,IH];rfl
 have hqo:iS<|m8 q<|Int.tmod v ns:=by
  unfold m8;split
  ·exact hq
  ·exact V5 hq
 have kQ:gQ (eW gR Ic) (gR q) [.int .i64<|Int.tmod v ns]=some (i6 (if Int.tmod v ns<0\/Int.tmod v ns>=q.fG then 1 else 0),gR<|m8 q<|Int.tmod v ns):=AN zH (f:=Ic) rfl rfl rfl;obtain⟨ka,kb,an,xn,yV,kB,I7⟩:=QL eD ah;refine⟨m8 q<|Int.tmod v ns,m',kb,seen,(L++[⟨2,2,0,Int.tmod v ns,ve,0,0⟩])++[⟨3,2,0,v,0,pk a.eS v,0⟩],rl++[Int.tmod v ns],⟨h,hqo,ahN.trans zx,eD,by omega,im.trans qB,⟨by rw[List.length_append];show _+1<=_;omega,by rw[List.length_append];show _+1<=_;omega⟩,fun x h1 h2=>?_,fun x hx=>?_,.inr ⟨_,_,rfl,I7 ns _<|.inr rfl⟩⟩,fun H=>?_⟩
 ·rw[has_add hq ah h1,xu x h1 h2,List.mem_append,List.mem_singleton]
 ·rcases List.mem_append.1 hx with hx|hx
  ·exact vj x hx
  ·rw[List.mem_singleton] at hx;omega
 ·refine stL mc gp gp r1 r2 yV (BT h) (Bo h) kA kT kO kE kX kM kQ kB ?_;unfold DD I4 at H;rw[Cf,Cg,Cf,Cg] at H;rw[Cf,Cg];have hp:0<(L++[(⟨2,2,0,Int.tmod v ns,ve,0,0⟩:bZ)]).length:=by rw[List.length_append];show 0<_+1;omega
  cases rl with
  |nil=>exact akU mc gp gp h0 hl hp ah Lh kT H
  |cons x R=>exact evL mc gp gp h0 hl hp ah Lh ah kT H
theorem step(mc:Mt LL B)(hk:k<=2000)(ok:tA nv ns k a q m w ml rl):
 Nx B aH l k nv ns w seen a q m ml rl\/(Y3 B aH nv ns w seen a q m rl->M8 B aH l nv ns (k:Int) a q m w seen ml rl):=by
 rcases ok.wh with⟨rfl,rfl,rfl⟩|⟨L,e,rfl,hw⟩
 ·exact .inl<|aeB mc hk ok
 rcases hw with⟨rfl,ha,he⟩|⟨rfl,⟨v,ha⟩,he⟩|⟨rfl,v,ve,ha,rfl⟩|hw
 ·exact .inl<|aeC mc hk ok ha he
 ·exact .inl<|agk mc hk ok ha he
 ·exact .inl<|agl mc hk ok ha
 ·have:=ok.nm;exact .inr fun H=>stX mc gp gp (nd ah) (nd ah) ah<|ev7 mc (Y1 ah) H
theorem tA.heap{a':cK}(ok:tA nv ns d a q m w ml rl)(h:mu nv ns a'):tA nv ns d a' q m w ml rl:=⟨h,ok.so,ok.qs,ok.mi,ok.st,ok.mv,ok.nm,ok.re,ok.ri,ok.wh⟩
theorem out(mc:Mt LL B)(hd:d<=5000)(ok:tA nv ns d a q m w ml rl):Y3 B aH nv ns w seen a q m rl:=by
 obtain⟨h,hq,zx,hm,cQ,qB,I6,xu,vj,hw⟩:=ok;have hp:=h.pos;have e:qm q=rl.foldl jW []:=ahM ah (fun x hx=>by have:=vj x hx;omega) fun x h1 h2=>xu x h1 ah;have hA:(aD aG<|qm q).hi=true:=(di.aD eI _).hi;refine akW mc (fu (ff LH.Eh.bR ⟨ns,rl,rfl,hp.1,vj,by omega,rfl⟩) ?_ ?_) ?_ (fu (ff Fe.bR ⟨qm q,rl.foldl jW [],rfl,?_,?_⟩) ?_ rfl) hA
 ·rw[List.all_cons,List.all_cons,(di.aD eI rl).hi];rfl
 ·show(AV.hi (aD aG<|rl.foldl jW [])&&true)=true;rw[(di.aD eI _).hi];rfl
 ·refine(O4 zH).trans ?_;unfold Hv;exact if_pos hq
 ·have:(qm q).length<=32:=Hu 32 0;omega
 ·rw[decide_eq_true e]
 ·rw[List.all_cons,hA,List.all_cons,(di.aD eI _).hi];rfl
theorem rounds(mc:Mt LL B)(hl:l.length<=2000):∀(r k:Nat) {a:cK} {q:dM} {m:dQ} {w seen:Int} {ml:List bZ} {rl:List Int},k+r=l.length->tA nv ns k a q m w ml rl->DD B aH l nv ns (k:Int) a q m w seen ml rl
 |0,k,a,q,m,w,seen,ml,rl,hr,ok=>by have:=ok.nm;exact akV mc (Y1 ah) ah<|out mc ah ok
 |r+1,k,a,q,m,w,seen,ml,rl,hr,ok=>by
  have:=ok.nm;obtain⟨e,he⟩:∃e,l[k]? =some e:=⟨_,List.getElem?_eq_getElem ah⟩;obtain⟨a',h',T⟩:=akX (aH:=aH) mc (ml:=ml) (rl:=rl) ah ah hl he ok.h;refine T q m w seen ?_;have DE:=ok.heap h';rcases step (aH:=aH) (l:=l) (seen:=seen) mc ah DE with⟨q',m',w',X4,SD,SE,ok2,G⟩|G
  ·refine G ?_;have e1:(k:Int)+1=((k+1:Nat):Int):=by omega
   rw[e1];exact rounds mc hl r (k+1) ah ok2
  ·exact G<|out mc ah DE
end
end
end QK
end
section
open Go Go.Rn Go.RowKit Go.Proofs
namespace X6
open cr fQ fc n9 nV uH qR AG Cs hI LC yN fF cS dL zk HL Ao AL A6 CS Fb CR HM QI pq jU ql uL CT Ar FE FF FG FH HN QJ QK
abbrev akY:(Tr AV->List Nat->Option Code->AS->Prop):=Fin pg (aA Tryz.f3) fun y _=>y= .bool true
theorem aeD{B:aJ}(mc:Mt LL B){tx:List St}{init aH:List Int}{st:Int}{l:List vh}(hk:sj 60 tx):
 av pg B 270 akY (sF 3 Tryz.f3 [.ab (nm (tx.map a9).flatten) 0 tx.length,aD aG init,.int .i64 st,aD aG aH,aD yR l]) (aj aq 270):=by
 have htx:(AV.ab (nm (tx.map a9).flatten) 0 tx.length).hi=true:=by rw[←vU];exact uf tx
 have kA:bp (ba yl) []=some (.bool true):=fu (ff yl.bR ⟨rfl,rfl⟩) rfl rfl;have kM:bp (ba<|pb 22) [.ab (nm (tx.map a9).flatten) 0 tx.length,.int .i64<|.ofNat 0]=some (.tuple [.int .i64 (dc 22 tx).1,.bool (dc 22 tx).2]):=fu (ff pb.bR ⟨tx,by rw[vU];rfl,by omega,rfl⟩) (by rw[List.all_cons,htx];rfl) rfl;cases hm:(dc 22 tx).2 with
 |true=>rw[hm] at kM;exact s0L mc kM kA
 |false=>
  rw[hm] at kM;by_cases hb:aH.length>50\/init.length>40\/l.length>2000
  ·exact s0B mc hb kM kA
  have iO:aH.length<=50/\init.length<=40/\l.length<=2000:=by omega
  have hha:[aD aG init,AV.int .i64 st,AV.int .i64<|.ofNat 1099511627776].all AV.hi=true:=by rw[List.all_cons,(di.aD eI init).hi];rfl
  by_cases hq:init.length<1\/init.length>32\/st<1\/st>(init.length:Int)
  ·have kH:lN wg [aD aG init,.int .i64 st,.int .i64<|.ofNat 1099511627776]=some (none,m9 1):=VU (Vs ⟨init,_,_,st,1099511627776,rfl,di.aD eI init,.inl ⟨by omega,rfl⟩⟩) hha rfl;exact s0N mc iO kM kA hq kH
  have dR:1<=init.length/\init.length<=32/\1<=st/\st<=(init.length:Int):=by omega
  have kH:lN wg [aD aG init,.int .i64 st,.int .i64<|.ofNat 1099511627776]=some (some<|aX ⟨List.replicate st.toNat ⟨-1,0⟩,0,1099511627776,init⟩,m9 0):=Ka (Vs ⟨init,_,_,st,1099511627776,rfl,di.aD eI init,.inr ⟨by omega,rfl⟩⟩) hha;have hma:[AV.ab (nm (tx.map a9).flatten) 0 tx.length,.int .i64 (init.length:Int),aD aG aH].all AV.hi=true:=by rw[List.all_cons,htx,List.all_cons,List.all_cons,(di.aD eI aH).hi];rfl
  obtain⟨d1,d2⟩:=DU 22 60 tx ah hm;obtain⟨b,uE,ajC⟩:=aet (n:=aH.length) hm hk;have hv:1<=(init.length:Int)/\(init.length:Int)<=32:=by omega
  cases b with
  |false=>have kN:lN yz [.ab (nm (tx.map a9).flatten) 0 tx.length,.int .i64 (init.length:Int),aD aG aH]=some (none,m9 4):=VU (Vr ⟨tx,_,aH,_,_,rfl,di.aD eI aH,by omega,.inr ⟨hv,d2,d1,false,uE,.inl ⟨rfl,rfl⟩⟩⟩) hma rfl;exact s0M mc iO kM kA dR kH kN
  |true=>
   obtain⟨gc,wf⟩:=ajC rfl;obtain⟨fs,bb,hs,hmi⟩:=agb (aH:=aH) wf ah hv;have kN:lN yz [.ab (nm (tx.map a9).flatten) 0 tx.length,.int .i64 (init.length:Int),aD aG aH]=some (some<|eJ ⟨(init.length:Int),aH,Z8,bb,fs.reverse,0⟩,m9 0):=Ka (Vr ⟨tx,_,aH,_,_,rfl,di.aD eI aH,by omega,.inr ⟨hv,d2,d1,true,uE,.inr ⟨rfl,gc,fs,bb,hs,rfl⟩⟩⟩) hma;have kS:lN Ec [.int .i64<|.ofNat 0,.int .i64 st]=some (some<|gR<|ph 0 st,fun p=>.tuple [p,.int .i64 0]):=by refine Ka ?_ rfl;show(if(0:Int)<0\/(0:Int)>1099511627776\/st<1\/st>32 then _ else _)=_;rw[if_neg ah];rfl
   refine s0K mc iO kM kA gp gp dR kH kN kS ?_;refine rounds (ml:=[]) (rl:=[]) mc iO.2.2 l.length 0 ah (a:=⟨List.replicate st.toNat ⟨-1,0⟩,0,1099511627776,init⟩) (q:=ph 0 st) ⟨⟨⟨?_,?_,?_,?_⟩,?_,rfl,rfl⟩,?_,rfl,hmi,?_,rfl,⟨Nat.le_refl _,Nat.le_refl _⟩,?_,fun x hx=>(by cases hx),.inl ⟨rfl,rfl,rfl⟩⟩
   ·show 1<=(List.replicate st.toNat _).length/\(List.replicate st.toNat _).length<=32;rw[List.length_replicate];omega
   ·show 1<=init.length/\init.length<=32;omega
   ·show(0:Int)<=0;omega
   ·show(1099511627776:Int)<=1099511627776;omega
   ·show(((List.replicate st.toNat (⟨-1,0⟩:Lk)).length:Nat):Int)=st;rw[List.length_replicate];omega
   ·exact Lg ah
   ·exact⟨by show(0:Int)<=0;omega,by show(0:Int)<=(0:Int);omega⟩
   ·exact fun _ _ _=>WG
end X6
end
section
open Go Go.Rn Go.RowKit Go.Proofs
open Go.ChangeShapes
namespace ajF
open cr cS fF dL QI qR n9 nV fc gK jq AG yN hI CR CS Fb FH HN QK X6
variable {b0 fuel:Nat} {p:List MemPlace} {t:TypeId}
section
variable {H:Type} {enc:TypeId×Value->H} {w:World} {base:Nat} {sp:Nat->Bool} {held:Bool}
theorem wf_u8{n:Int}(h:(Lit.int .u8 n).wf=true):0<=n/\n<=255:=by obtain⟨h1,h2⟩:=and_true.1 (show(decide (IntKind.u8.min<=n)&&decide (n<=IntKind.u8.max))=true from h);exact⟨of_decide_eq_true h1,of_decide_eq_true h2⟩
theorem SF:Tryz.prog.cellsOf 2=1:=by kernel_rfl
theorem sz3:Tryz.prog.cellsOf 3=1:=by kernel_rfl
theorem SG:Tryz.prog.cellsOf 5=1:=by kernel_rfl
theorem akZ:Tryz.prog.cellsOf 22=1:=by kernel_rfl
theorem ak0:Tryz.prog.cellsOf 37=4:=by kernel_rfl
theorem ak1:Tryz.prog.cellsOf 92=1:=by kernel_rfl
theorem Y5:Tryz.prog.cellsOf 94=3:=by kernel_rfl
theorem Y6:Tryz.prog.cellsOf 96=10:=by kernel_rfl
theorem Ab{x y:Value}(h:[x]=[y]):x=y:=by injection h
theorem agm(hu:Tryz.prog.underlying t=some (.int .i64))(row:List Value)(_:row.length=1)(h2:∃n y,n<fuel/\DataW.trod enc pg w base sp held n t row=some y):∃a ms,HO w aG (fun _=>True) row a ms:=by
 obtain⟨_,y,_,h⟩:=h2;obtain⟨a,rfl,_,_⟩:=DataW.trod_int hu h;refine⟨a,[],trivial,Good.nil,fun j x hx=>?_⟩;rcases j with _|j
 ·injection (show some _=some x from hx) with hx
  subst hx;exact⟨_,rfl,fun σ _=>by simp only[VR]⟩
 ·cases(show none=some x from hx)
theorem agn(row:List Value)(eN:row.length=4)(h2:∃n y,n<fuel/\DataW.trod enc pg w base sp held n 37 row=some y):∃a ms,HO w yR (fun _=>True) row a ms:=by
  obtain⟨_,y,_,h⟩:=h2
  obtain⟨xs,n,_,_,hlen,I8,hf⟩:=DataW.trod_struct Tryz.underlying37 h
  have ak2:xs.length=4:=I8
  match row,eN,xs,ak2,hf with
  | [c0, c1,c2,c3],_,[x0,x1,x2,x3],_,hf=>
    have f0:DataW.trod enc pg w base sp held n 5 (([c0,c1,c2,c3].drop 0).take<|Tryz.prog.cellsOf 5)=some x0:=hf 0 _ rfl
    have f1:DataW.trod enc pg w base sp held n 3 (([c0,c1,c2,c3].drop 1).take<|Tryz.prog.cellsOf 3)=some x1:=hf 1 _ rfl
    have f2:DataW.trod enc pg w base sp held n 3 (([c0,c1,c2,c3].drop 2).take<|Tryz.prog.cellsOf 3)=some x2:=hf 2 _ rfl
    have f3:DataW.trod enc pg w base sp held n 2 (([c0,c1,c2,c3].drop 3).take<|Tryz.prog.cellsOf 2)=some x3:=hf 3 _ rfl
    rw[SG] at f0
    rw[sz3] at f1 f2
    rw[SF] at f3
    obtain⟨a0,e0,_,_⟩:=DataW.trod_int Tryz.underlying5 f0
    obtain⟨a1,e1,_,_⟩:=DataW.trod_int Tryz.underlying3 f1
    obtain⟨a2,e2,_,_⟩:=DataW.trod_int Tryz.underlying3 f2
    obtain⟨a3,e3,_,_⟩:=DataW.trod_int Tryz.underlying2 f3
    obtain rfl:=Ab e0
    obtain rfl:=Ab e1
    obtain rfl:=Ab e2
    obtain rfl:=Ab e3
    refine⟨⟨a0,a1,a2,a3⟩,[],trivial,Good.nil,fun j x hx=>?_⟩
    rcases j with _|_|_|_|j
    all_goals first
      | (injection (show some _=some x from hx) with hx
         subst hx
         exact⟨_,rfl,fun σ _=>by simp only[VR]⟩)
      |cases(show none=some x from hx)
theorem X7 : ∀ (fuel:Nat) (c0 c1 c2:Value) (y:DataW H×List MemPlace),DataW.trod enc pg w base sp held fuel 94 [c0,c1,c2]=some y->∃(op n:Int) (args:List Ex) (ms:mw),c0= .int .u8 op/\c1= .int .i64 n/\Good w ms/\Is ms (aD aM args) c2:=by
  intro fuel
  induction fuel using Nat.strongRecOn with
  | ind fuel ih =>
    intro c0 c1 c2 y h
    obtain⟨xs,n,hfu,_,hlen,I8,hf⟩:=DataW.trod_struct Tryz.underlying94 h
    have ak3:xs.length=3:=I8
    match xs,ak3,hf with
    | [x0,x1,x2],_,hf=>
      have f0:DataW.trod enc pg w base sp held n 5 (([c0,c1,c2].drop 0).take<|Tryz.prog.cellsOf 5)=some x0:=hf 0 _ rfl
      have f1:DataW.trod enc pg w base sp held n 2 (([c0,c1,c2].drop 1).take<|Tryz.prog.cellsOf 2)=some x1:=hf 1 _ rfl
      have f2:DataW.trod enc pg w base sp held n 92 (([c0,c1,c2].drop 2).take<|Tryz.prog.cellsOf 92)=some x2:=hf 2 _ rfl
      rw[SG] at f0
      rw[SF] at f1
      rw[ak1] at f2
      obtain⟨a0,e0,_,_⟩:=DataW.trod_int Tryz.underlying5 f0
      obtain⟨a1,e1,_,_⟩:=DataW.trod_int Tryz.underlying2 f1
      obtain rfl:=Ab e0
      obtain rfl:=Ab e1
      obtain ⟨l,ms,_,k2,k3⟩:=GV (Q:=fun _:Ex=>True) kU (Nat.succ_pos _) Tryz.underlying92 Y5 (fun row eN h2=>by
        obtain⟨n2,y2,uQ,h2⟩:=h2
        match row,eN,h2 with
        | [d0,d1,d2],_,h2=>
          obtain⟨o',n',l',j9,rfl,rfl,g1,g2⟩:=ih n2 ah d0 d1 d2 y2 h2
          refine⟨.mk o' n' l',j9,trivial,g1,fun j x hx=>?_⟩
          rw[OO] at hx
          rcases j with _|_|_|j
          all_goals first
            |cases(show none=some x from hx)
            | injection (show some _=some x from hx) with hx
              subst hx
              first
                |exact⟨_,rfl,fun σ _=>by simp only[VR]⟩
                |exact⟨_,rfl,g2⟩) (show DataW.trod enc pg w base sp held n 92 [c2]=some x2 from f2)
      exact⟨a0,a1,l,ms,rfl,rfl,k2,k3⟩
def KQ(s:St):Prop:=(0<=iR s/\iR s<256)/\∀k,sj k (ct s)/\sj k (cm s)
theorem O8{l:List St}(h:∀s∈l,KQ s):∀k,sj k l
 |0=>trivial
 |k+1=>fun s hs=>⟨(h s hs).1,(h s hs).2 k⟩
theorem ahP :∀(fuel:Nat) (row:List Value) (y:DataW H×List MemPlace),row.length=10->DataW.trod enc pg w base sp held fuel 96 row=some y->∃a ms,HO w a9 KQ row a ms:=by
  intro fuel
  induction fuel using Nat.strongRecOn with
  | ind fuel ih=>
    intro row y eN h
    obtain⟨xs,n,hfu,_,hlen,I8,hf⟩:=DataW.trod_struct Tryz.underlying96 h
    have ak4:xs.length=6:=I8
    match row,eN,xs,ak4,hf with
    | [c0,c1,c2,c3,c4,c5,c6,c7,c8,c9],_,[x0,x1,x2,x3,x4,x5],_,hf=>
      have f0:DataW.trod enc pg w base sp held n 5 (([c0,c1,c2,c3,c4,c5,c6,c7,c8,c9].drop 0).take<|Tryz.prog.cellsOf 5)=some x0:=hf 0 _ rfl
      have f1:DataW.trod enc pg w base sp held n 3 (([c0,c1,c2,c3,c4,c5,c6,c7,c8,c9].drop 1).take<|Tryz.prog.cellsOf 3)=some x1:=hf 1 _ rfl
      have f2:DataW.trod enc pg w base sp held n 94 (([c0,c1,c2,c3,c4,c5,c6,c7,c8,c9].drop 2).take<|Tryz.prog.cellsOf 94)=some x2:=hf 2 _ rfl
      have f3:DataW.trod enc pg w base sp held n 94 (([c0,c1,c2,c3,c4,c5,c6,c7,c8,c9].drop 5).take<|Tryz.prog.cellsOf 94)=some x3:=hf 3 _ rfl
      have f4:DataW.trod enc pg w base sp held n 22 (([c0,c1,c2,c3,c4,c5,c6,c7,c8,c9].drop 8).take<|Tryz.prog.cellsOf 22)=some x4:=hf 4 _ rfl
      have f5:DataW.trod enc pg w base sp held n 22 (([c0,c1,c2,c3,c4,c5,c6,c7,c8,c9].drop 9).take<|Tryz.prog.cellsOf 22)=some x5:=hf 5 _ rfl
      rw[SG] at f0
      rw[sz3] at f1
      rw[Y5] at f2 f3
      rw[akZ] at f4 f5
      obtain⟨a0,e0,_,w0⟩:=DataW.trod_int Tryz.underlying5 f0
      obtain⟨a1,e1,_,_⟩:=DataW.trod_int Tryz.underlying3 f1
      obtain rfl:=Ab e0
      obtain rfl:=Ab e1
      obtain⟨o2,n2,l2,m2,rfl,rfl,g2,i2⟩:=X7 n c2 c3 c4 x2 f2
      obtain⟨o3,n3,l3,m3,rfl,rfl,g3,i3⟩:=X7 n c5 c6 c7 x3 f3
      have hr:∀{v:Value} {z:DataW H×List MemPlace},DataW.trod enc pg w base sp held n 22 [v]=some z->∃(l:List St) (ms:mw),(∀a∈l,KQ a)/\Good w ms/\Is ms (aD a9 l) v:=fun hz=>
        GV (Q:=KQ) lD (Nat.succ_pos _) Tryz.underlying22 Y6 (fun row eN h2=>by
          obtain⟨k2,y2,MK,h2⟩:=h2
          exact ih k2 ah row y2 eN h2) hz
      obtain⟨l4,m4,q4,g4,i4⟩:=hr (v:=c8) f4
      obtain⟨l5,m5,q5,g5,i5⟩:=hr (v:=c9) f5
      refine⟨.mk a0 a1 (.mk o2 n2 l2) (.mk o3 n3 l3) l4 l5,m2++(m3++(m4++m5)),⟨by have:=wf_u8 w0;show 0<=a0/\a0<256;omega,fun k=>⟨O8 q4 k,O8 q5 k⟩⟩,g2.app<|g3.app<|g4.app g5,fun j x hx=>?_⟩
      rw[U6,OO,OO] at hx
      rcases j with _|_|_|_|_|_|_|_|_|_|j
      all_goals first
        |cases(show none=some x from hx)
        | injection (show some _=some x from hx) with hx
          subst hx
          first
            |exact⟨_,rfl,fun σ _=>by simp only[VR]⟩
            |exact⟨_,rfl,i2.sub fun p hp=>List.mem_append_left _ hp⟩
            |exact⟨_,rfl,i3.sub fun p hp=>List.mem_append_right _<|List.mem_append_left _ hp⟩
            |exact⟨_,rfl,i4.sub fun p hp=>List.mem_append_right _<|List.mem_append_right _<|List.mem_append_left _ hp⟩
            |exact⟨_,rfl,i5.sub fun p hp=>List.mem_append_right _<|List.mem_append_right _<|List.mem_append_right _ hp⟩
theorem O9{e:TypeId}{v:Value}(hu:Tryz.prog.underlying t=some (.slice e))(dm:Value.okWide pg w .any b0 t v):∃a len cap,v= .slice a len cap:=by unfold Value.okWide at dm;rw[hu] at dm;simp only at dm;unfold Cell.okWide at dm;rw[hu] at dm;cases v<;>first|exact⟨_,_,_,rfl⟩|(exfalso;unfold Cell.ok at dm;rw[hu] at dm;simp at dm)
theorem anV{v:Value}{d:DataW H}(dm:Value.okWide pg w .any b0 22 v)(h:DataW.Trod enc pg w base sp held 22 v d p):∃(l:List St) (ms:mw),(∀a∈l,KQ a)/\Good w ms/\Is ms (aD a9 l) v:=by obtain⟨fuel,h⟩:=h;obtain⟨a,len,cap,rfl⟩:=O9 Tryz.underlying22 dm;exact GV (Q:=KQ) lD (Nat.succ_pos _) Tryz.underlying22 Y6 (fun row eN h2=>by obtain⟨n,y,_,h2⟩:=h2;exact ahP n row y eN h2) (show DataW.trod enc pg w base sp held fuel 22 [.slice a len cap]=some (d,p) from h)
theorem anG{v:Value}{d:DataW H}(dm:Value.okWide pg w .any b0 23 v)(h:DataW.Trod enc pg w base sp held 23 v d p):∃(l:List Int) (ms:mw),Good w ms/\Is ms (aD aG l) v:=by obtain⟨fuel,h⟩:=h;obtain⟨a,len,cap,rfl⟩:=O9 Tryz.underlying23 dm;obtain⟨l,ms,_,k2,k3⟩:=GV (Q:=fun _:Int=>True) eI (Nat.succ_pos _) Tryz.underlying23 SF (agm Tryz.underlying2) (show DataW.trod enc pg w base sp held fuel 23 [.slice a len cap]=some (d,p) from h);exact⟨l,ms,k2,k3⟩
theorem anH{v:Value}{d:DataW H}(dm:Value.okWide pg w .any b0 24 v)(h:DataW.Trod enc pg w base sp held 24 v d p):∃(l:List vh) (ms:mw),Good w ms/\Is ms (aD yR l) v:=by obtain⟨fuel,h⟩:=h;obtain⟨a,len,cap,rfl⟩:=O9 Tryz.underlying24 dm;obtain⟨l,ms,_,k2,k3⟩:=GV (Q:=fun _:vh=>True) eT (Nat.succ_pos _) Tryz.underlying24 ak0 agn (show DataW.trod enc pg w base sp held fuel 24 [.slice a len cap]=some (d,p) from h);exact⟨l,ms,k2,k3⟩
theorem anJ{v:Value}{d:DataW H}(dm:Value.okWide pg w .any b0 3 v)(h:DataW.Trod enc pg w base sp held 3 v d p):∃n,v= .int .i64 n:=by
 obtain⟨fuel,h⟩:=h;have hc:∃n,v= .int .i64 n:=by unfold Value.okWide at dm;rw[Tryz.underlying3] at dm;simp only at dm;unfold Cell.okWide at dm;rw[Tryz.underlying3] at dm;cases v<;>simp_all [Cell.ok,Tryz.underlying3]
 exact hc
end
theorem ajG:Tryz.f3.body=some (aW pg 3 []):=xF Tryz.func3 aY
theorem anK(hP:bB pg)(W:World){ρ:aw}(S:Rn.Start 270 dV ρ W){st:Int}{v1 v2 v4 v5:Value}{tx:List St}{init aH:List Int}{l:List vh}{m1 m2 m4 m5:mw}(q:∀s∈tx,KQ s)(g1:Good W m1)(i1:Is m1 (aD a9 tx) v1)(g2:Good W m2)(i2:Is m2 (aD aG init) v2)(g4:Good W m4)(i4:Is m4 (aD aG aH) v4)(g5:Good W m5)(i5:Is m5 (aD yR l) v5):
 Calls pg 3 #[v1,v2,.int .i64 st,v4,v5] W fun e w'=>e= .returned (.bool true)/\Below W.heap.size W w':=by
 let B:aJ:=⟨fun k=>W.heap.size<=k,FU,fun _=>True,nW XT 270,W.heap.size,fun h a b=>h.mono a b⟩;have g:Good W<|m1++(m2++(m4++m5)):=g1.app<|g2.app<|g4.app g5;have r:Rel B (p8 (m1++(m2++(m4++m5))) ρ) dV W:=S.ajE B (Nat.le_trans (by decide) pW) g;have hh:Has (p8 (m1++(m2++(m4++m5))) ρ)<|m1++(m2++(m4++m5)):=UJ;have v1':=VR.mono (G9 _) _ _<|i1 _<|hh.sub fun p hp=>List.mem_append_left _ hp;have v2':=VR.mono (G9 _) _ _<|i2 _<|hh.sub fun p hp=>List.mem_append_right _<|List.mem_append_left _ hp;have v4':=VR.mono (G9 _) _ _<|i4 _<|hh.sub fun p hp=>List.mem_append_right _<|List.mem_append_right _<|List.mem_append_left _ hp;have v5':=VR.mono (G9 _) _ _<|i5 _<|hh.sub fun p hp=>List.mem_append_right _<|List.mem_append_right _<|List.mem_append_right _ hp;have mc:Mt LL B:=rj hP (ahK hP) rfl rfl;have H:=aeD (init:=init) (aH:=aH) (st:=st) (l:=l) mc<|O8 q 60;have hg:gk<|p8 (m1++(m2++(m4++m5))) ρ:=fun g hg=>by obtain⟨N,e⟩:=S.g g hg;exact⟨N,JY _ _ e⟩
 have hf:∀k,270<=k->k<top->p8 (m1++(m2++(m4++m5))) ρ k=none:=fun k h1 h2=>by rw[Oz h2];exact S.free k h1
 have hv:az (p8 (m1++(m2++(m4++m5))) ρ) [aD a9 tx,aD aG init,.int .i64 st,aD aG aH,aD yR l] (#[v1,v2,.int .i64 st,v4,v5]:Array Value).toList:=⟨_,_,rfl,v1',_,_,rfl,v2',_,_,rfl,rfl,_,_,rfl,v4',_,_,rfl,v5',rfl⟩;have r':Rel B (p8 (m1++(m2++(m4++m5))) ρ) (aj aq 270).h W:=by rw[gN];exact r
 have bI:=av.calls (args:=[aD a9 tx,aD aG init,.int .i64 st,aD aG aH,aD yR l]) hP Tryz.func3 ajG (aL.1 aY) H (aeP aY) r' hg hf hv;refine bI.mono fun e w'=>?_;rintro ⟨v,x,s3,rfl,rfl,_,_,σ,_,q2,_,q4⟩;simp only[VR] at q2;exact⟨by rw[q2],q4.os,q4.tape,q4.output,q4.size,fun k hk=>q4.block k hk (by show ¬(W.heap.size<=k);omega)⟩
end ajF
end
