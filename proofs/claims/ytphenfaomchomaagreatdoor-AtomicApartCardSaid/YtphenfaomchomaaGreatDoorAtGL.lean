import Derived.Test.YtphenfaomchomaaGreatDoorAtGK
import Derived.Test.YtphenfaomchomaaGreatDoorAtGJ
import Derived.Test.YtphenfaomchomaaGreatDoorRnGH
set_option maxRecDepth 100000
set_option maxHeartbeats 8000000
set_option linter.unusedSimpArgs false
set_option linter.unusedVariables false
section
open Go Go.Rn Go.RowKit Go.Proofs
namespace kF
open cj fW im eR
variable {r:Nat->Nat} {o0:List<|Nat×Option ae} {lo bx:Nat} {ps:List<|Nat×Nat} {b a:List<|Int×Int}
def l6(ps:List<|Nat×Nat)(lo bx k:Nat):Nat:=match ps.find? fun p=>Nat.beq p.1 k with
 |some p=>p.2
 |none=>if k<lo\/top<=k then k else max k bx
def Ae(ps:List<|Nat×Nat)(lo bx nx:Nat)(names:List Nat):Bool:=ps.all (fun p=>Nat.ble lo p.1&&(Nat.blt p.1 nx&&(Nat.ble lo p.2&&Nat.blt p.2 top)))&&(Nat.ble lo nx&&(Nat.ble nx top&&(Nat.blt bx top&&(names.all fun m=>Nat.blt m lo||ps.any fun p=>Nat.beq p.1 m))))
def Kv(ps:List<|Nat×Nat):Bool:=ps.all fun p=>ps.all fun q=> !(Nat.beq p.2 q.2)||Nat.beq p.1 q.1
def Hd(r:Nat->Nat)(l0:List<|Nat×AV):List (Nat×AV)->Prop
 |[]=>True
 |p::l=>(p.1<top/\∃x,(p.1,x)∈l0/\jF [] r x p.2)/\Hd r l0 l
def Af(r:Nat->Nat)(o0:List<|Nat×Option ae):List (Nat×Option ae)->Prop
 |[]=>True
 |p::l=>(∀y,p.2=some y->y.kj=true/\∃x,(r p.1,some x)∈o0/\fM x y/\fD [] r x y)/\Af r o0 l
theorem Hd.mem{l0:List<|Nat×AV}:∀{l:List<|Nat×AV},Hd r l0 l->∀p∈l,p.1<top/\∃x,(p.1,x)∈l0/\jF [] r x p.2
 |[],_,p,hp=>by cases hp
 |a::l,h,p,hp=>by
  rcases List.mem_cons.1 hp with rfl|hp
  ·exact h.1
  ·exact Hd.mem h.2 p hp
theorem Af.mem:∀{l:List<|Nat×Option ae},Af r o0 l->∀p∈l,∀y,p.2=some y->y.kj=true/\∃x,(r p.1,some x)∈o0/\fM x y/\fD [] r x y
 |[],_,p,hp=>by cases hp
 |a::l,h,p,hp=>by
  rcases List.mem_cons.1 hp with rfl|hp
  ·exact h.1
  ·exact Af.mem h.2 p hp
theorem J3{nx:Nat}{l0 l:List<|Nat×AV}{o:List<|Nat×Option ae}(eY:270<=lo)(hb:Ae ps lo bx nx (o.map (·.1))=true)(hi:Kv ps=true)(hl:∀r,r=l6 ps lo bx->(∀k,top<=k->r k=k)->Hd r l0 l)(ho:∀r,r=l6 ps lo bx->(∀k,top<=k->r k=k)->Af r o0 o):
 hU FU lo bx l0 (ak++o0) l (ak++o) nx:=by
 unfold Ae at hb;obtain⟨b1,hb⟩:=and_true.1 hb;obtain⟨b2,hb⟩:=and_true.1 hb;obtain⟨b3,hb⟩:=and_true.1 hb;obtain⟨b4,b5⟩:=and_true.1 hb;have b2:=aK.1 b2;have b3:=aK.1 b3;have b4:=(blt_eq _ _).mp b4;have uq:∀p∈ps,lo<=p.1/\p.1<nx/\lo<=p.2/\p.2<top:=fun p hp=>by have:=List.all_eq_true.1 b1 p hp;obtain⟨c1,c2⟩:=and_true.1 this;obtain⟨c2,c3⟩:=and_true.1 c2;obtain⟨c3,c4⟩:=and_true.1 c3;exact⟨aK.1 c1,(blt_eq _ _).mp c2,aK.1 c3,(blt_eq _ _).mp c4⟩
 have none_:∀k,(k<lo\/nx<=k)->(ps.find? fun p=>Nat.beq p.1 k)=none:=fun k hk=>by refine List.find?_eq_none.2 fun p hp=>?_;obtain⟨c1,c2,_⟩:=uq p hp;rw[eA];omega
 let r:=l6 ps lo bx;have rl:∀k,k<lo->r k=k:=fun k hk=>by show l6 ps lo bx k=k;unfold l6;rw[none_ k<|.inl hk];exact if_pos<|.inl hk
 have rt:∀k,top<=k->r k=k:=fun k hk=>by show l6 ps lo bx k=k;unfold l6;rw[none_ k<|.inr ab];exact if_pos<|.inr hk
 have rn:∀k,nx<=k->k<top->bx<=r k/\r k<top:=fun k h1 h2=>by show bx<=l6 ps lo bx k/\l6 ps lo bx k<top;unfold l6;rw[none_ k<|.inr h1];show bx<=(if _ then _ else _)/\(if _ then _ else _)<top;rw[if_neg ab];omega
 have Yd:∀k∈o.map (·.1),(k<lo/\r k=k)\/∃p∈ps,p.1=k/\r k=p.2:=fun k hk=>by
  have:=List.all_eq_true.1 b5 k hk;rcases Bool.or_eq_true_iff.1 this with this|this
  ·have:=(blt_eq _ _).mp this;exact .inl ⟨this,rl k this⟩
  right;obtain⟨p,hp,e⟩:=List.any_eq_true.1 this;cases q:ps.find? fun p=>Nat.beq p.1 k with
  |none=>exact absurd e (by simpa using List.find?_eq_none.1 q p hp)
  |some p'=>have h1:=List.find?_some q;refine⟨p',List.mem_of_find?_eq_some q,eA.1 h1,?_⟩;show l6 ps lo bx k=_;unfold l6;rw[q]
 have EC:∀p∈ak,p.1<270:=fun p hp=>by obtain⟨k,hk,e⟩:=List.mem_map.1 hp;rw[←e];exact jq k hk
 have t0:270<top:=by unfold top;omega
 refine⟨[],r,rl,rn,rt,b3,(hl r rfl rt).mem,fun p hp=>?_,fun p hp q hq _ _ e=>?_,fun p hp=>nN,fun p hp=>nN⟩
 ·rcases List.mem_append.1 hp with hp|hp
  ·have cf:=EC p hp;refine⟨by omega,fun y hy=>?_⟩;rw[rl _ ab];refine⟨by omega,T8 p hp y hy,y,?_,fM.refl _,(Fm (nx:=270) (fun k hk=>rl k ab) bW p hp y hy).z⟩;refine List.mem_append_left _ ?_;rw[←hy];exact hp
  ·have cf:p.1<top/\r p.1<top:=by
    rcases Yd p.1 (List.mem_map.2 ⟨p,hp,rfl⟩) with⟨c1,c2⟩|⟨p',h1,h2,h3⟩
    ·rw[c2];omega
    ·obtain⟨c1,c2,c3,c4⟩:=uq p' h1;rw[h3];omega
   refine⟨cf.1,fun y hy=>?_⟩;obtain⟨d1,x,d2,d3,d4⟩:=(ho r rfl rt).mem p hp y hy;exact⟨cf.2,d1,x,List.mem_append_right _ d2,d3,d4⟩
 ·have key:∀p∈ak++o,(p.1<lo/\r p.1=p.1)\/∃q∈ps,q.1=p.1/\r p.1=q.2:=fun p hp=>by
   rcases List.mem_append.1 hp with hp|hp
   ·exact .inl ⟨by have:=EC p hp;omega,rl _ (by have:=EC p hp;omega)⟩
   ·exact Yd p.1<|List.mem_map.2 ⟨p,hp,rfl⟩
  rcases key p hp with⟨a1,a2⟩|⟨a,a1,a2,a3⟩<;>rcases key q hq with⟨c1,c2⟩|⟨c,c1,c2,c3⟩
  ·rw[a2,c2] at e;exact e
  ·have:=(uq c c1).2.2.1;rw[a2,c3] at e;omega
  ·have:=(uq a a1).2.2.1;rw[a3,c2] at e;omega
  ·rw[a3,c3] at e;have h1:=List.all_eq_true.1 (List.all_eq_true.1 hi a a1) c c1;rw[Bool.or_eq_true] at h1;rcases h1 with h1|h1
   ·rw[e,show Nat.beq c.2 c.2=true from Nat.beq_refl _] at h1;cases h1
   ·rw[←a2, ←c2];exact Nat.eq_of_beq_eq_true h1
theorem Tq{l m:List AV}{rest:List AV}(hl:(l++rest).length<=top)(h:ly [] r l m)(h1:m.all AV.bR=true):fD [] r (.cells (l++rest).length (Tr.fill (l++rest) 0 .nil) [])<|.cells m.length (Tr.fill m 0 .nil) []:=by
 have hlen:=h.length;have ym:l.length<=(l++rest).length:=by rw[List.length_append];omega
 intro ρ fG N o yw k;refine fD.cells ab h h1 ρ fG N o yw ?_;obtain⟨c,e,rfl,k1,k2,k3⟩:=k;refine⟨c,e,rfl,k1,by omega,fun i hi=>?_⟩;obtain⟨x,v,a1,a2,a3,a4⟩:=k3 i ab;refine⟨x,v,?_,a2,a3,a4⟩;unfold cellAt at a1 ⊢;rw[Tr.sH _ _ _ _ ab,if_pos ab,Nat.sub_zero] at a1;rw[Tr.sH _ _ _ _ ab,if_pos ab,Nat.sub_zero];rw[List.getElem?_append_left hi] at a1;exact a1
theorem adX{n m o len nX e:Nat}(h:r m=n)(h1:nX<=lo)(h2:len<=nX):bp r (.slice (some (n,o)) len<|.aq lo e)<|.slice (some (m,o)) len<|.aq nX e:=by intro ρ v hv;simp only[VR] at hv ⊢;obtain⟨b,N,c,q1,q2,q3,q4,q5⟩:=hv;exact⟨b,N,c,by rw[h];exact q1,q2,by omega,q4,q5⟩
theorem aiA{m:List<|Int×Int}:fD [] r (bA m)<|bA m:=fun _ _ _ _ _ h=>uR h
theorem Pu{m:List<|Int×Int}(hk:dW m):fD [] r (xX m)<|bA m:=fun _ _ _ _ _ h=>acg hk h
theorem aha:fM (bA a)<|bA b:=⟨fun _=>rfl,(fun e=>by cases e),fun e=>by cases e⟩
theorem Oy:fM (xX a)<|bA b:=⟨fun _=>rfl,(fun e=>by cases e),fun e=>by cases e⟩
theorem xc{a b:Nat}{s t:Tr AV}{z w:List AV}:fM (.cells a s z)<|.cells b t w:=⟨fun _=>rfl,(fun e=>by cases e),fun e=>by cases e⟩
theorem mi{α:Type}{l:List α}{a:α}(j:Nat)(h:l[j]? =some a:=by rfl):a∈l:=List.mem_of_getElem? h
theorem rq{m n:Nat}(hr:r=l6 ps lo bx)(h:l6 ps lo bx m=n:=by as_aux_lemma=>kernel_rfl):r m=n:=by rw[hr];exact h
theorem vi{k:IntKind}{n:Int}:jF [] r (.int k n)<|.int k n:=(bp.int _ _).z
theorem sr{m n:Nat}{x y:ae}(hm:(n,some x)∈o0)(hr:r m=n)(kp:fM x y)(ent:fD [] r x y)(pl:y.kj=true:=by rfl):∀z,some y=some z->z.kj=true/\∃x,(r m,some x)∈o0/\fM x z/\fD [] r x z:=fun z e=>by cases e;exact⟨pl,x,by rw[hr];exact hm,kp,ent⟩
theorem afz{N M:Nat}{l m:List AV}(h:ly [] r l m)(hN:l.length=N:=by rfl)(hM:m.length=M:=by rfl)(hl:Nat.ble N top=true:=by as_aux_lemma=>kernel_rfl)(h1:m.all AV.bR=true:=by rfl):fD [] r (.cells N (Tr.fill l 0 .nil) [])<|.cells M (Tr.fill m 0 .nil) []:=by subst hN;subst hM;exact fD.cells (aK.1 hl) h h1
abbrev Ye(lo bx nx:Nat)(l0:List<|Nat×AV)(o0:List<|Nat×Option ae)(l1:List<|Nat×AV)(o1:List<|Nat×Option ae)(fr:AF)(s:AS):Prop:=(l0.map (fun q=>some q.2)=l0.map (fun q=>some q.2))/\((ak++o0).map (fun q=>q.2)=(ak++o0).map (fun q=>q.2))/\hU FU lo bx l0 (ak++o0) l1 (ak++o1) nx/\(fr=fr/\s=s)
end kF
end
section
open Go Go.Rn Go.RowKit Go.Proofs
namespace gk
open cj eR fW im P7 kF tW
variable {v x:Int} {r:Nat->Nat} {g nt i:Nat} {w2 w1:AV} {p:Option Code} {o0:List<|Nat×Option ae} {kh:bf} {nQ:bZ}
noncomputable section
section
variable {B:aI} {ms:bf} {cap:bZ}
theorem fR{l:bf}(h:1<=l.length/\l.length<=6):(∃m0,l=[m0])\/(∃m0 m1,l=[m0,m1])\/(∃m0 m1 m2,l=[m0,m1,m2])\/(∃m0 m1 m2 m3,l=[m0,m1,m2,m3])\/(∃m0 m1 m2 m3 m4,l=[m0,m1,m2,m3,m4])\/∃m0 m1 m2 m3 m4 m5,l=[m0,m1,m2,m3,m4,m5]:=by
 match l,h with
 |[a],_=>exact .inl ⟨_,rfl⟩
 |[a,b],_=>exact .inr<|.inl ⟨_,_,rfl⟩
 |[a,b,c],_=>exact .inr<|.inr<|.inl ⟨_,_,_,rfl⟩
 |[a,b,c,d],_=>exact .inr<|.inr<|.inr<|.inl ⟨_,_,_,_,rfl⟩
 |[a,b,c,d,e],_=>exact .inr<|.inr<|.inr<|.inr<|.inl ⟨_,_,_,_,_,rfl⟩
 |[a,b,c,d,e,f],_=>exact .inr<|.inr<|.inr<|.inr<|.inr ⟨_,_,_,_,_,_,rfl⟩
 |[],h=>simp at h
 |_::_::_::_::_::_::_::_,h=>simp at h
theorem Ga{l:bf}(h:1<=l.length/\l.length<=7):l.length<=6\/∃m0 m1 m2 m3 m4 m5 m6,l=[m0,m1,m2,m3,m4,m5,m6]:=by
 match l,h with
 |[a,b,c,d,e,f,g],_=>exact .inr ⟨_,_,_,_,_,_,_,rfl⟩
 |[],_|[_],_|[_,_],_|[_,_,_],_|[_,_,_,_],_|[_,_,_,_,_],_|[_,_,_,_,_,_],_=>exact .inl (by simp)
 |_::_::_::_::_::_::_::_::l,h=>simp only[List.length_cons] at h;omega
theorem adY(h:dj ms){nx:Nat}:∀m p,(m,p)∈dO ms cap->(ah (ak++aY (dO ms cap)) nx).h.get m=some p:=fun m p hm=>by
 rcases(Ga h.1).imp (fun q=>fR ⟨h.1.1,q⟩) id with(⟨m0,rfl⟩|⟨m0,m1,rfl⟩|⟨m0,m1,m2,rfl⟩|⟨m0,m1,m2,m3,rfl⟩|⟨m0,m1,m2,m3,m4,rfl⟩|⟨m0,m1,m2,m3,m4,m5,rfl⟩)|⟨m0,m1,m2,m3,m4,m5,m6,rfl⟩
 all_goals
  simp only[dO,qo,List.mem_cons,List.not_mem_nil,or_false] at hm
  repeat' (rcases hm with hm|hm)
  all_goals kernel_rfl
theorem Kw(nx:Nat)(h:dj ms)(hc:oS ms.length cap)(y:AV):oT 3 y (bJ ms) (ah (ak++aY (dO ms cap)) nx) y:=⟨rfl,_,.buf _ h cap hc,adY h⟩
def kU:bf->Int->Int->bf
 |[],_,_=>[]
 |[m],v,x=>[fO m v x]
 |m::m'::l,v,x=>m::kU (m'::l) v x
def gd:bf->bf
 |[]=>[]
 |[m]=>[m]
 |[m,m']=>[fj m m']
 |m::m'::Ag::l=>m::gd (m'::Ag::l)
def xQ:bf->List (Int×Int)
 |[]=>[]
 |[m]=>m
 |_::l=>xQ l
def gB(ms:bf)(v:Int):Nat->Option Int
 |0=>none
 |n+1=>if lG (ms.getD n []) v=true then some (getM (ms.getD n []) v) else gB ms v n
def kG(ms:bf)(v:Int):Int×Bool:=((gB ms v ms.length).getD 0,(gB ms v ms.length).isSome)
theorem adZ{l:bf}{m:List<|Int×Int}(h:dj<|l++[m]):dj<|l++[fO m v x]:=by
 obtain⟨h1,h2⟩:=h;rw[List.length_append] at h1;refine⟨by rw[List.length_append];exact h1,fun q hq=>?_⟩;rcases List.mem_append.1 hq with hq|hq
 ·exact h2 q<|List.mem_append_left _ hq
 ·rw[List.mem_singleton] at hq;subst hq;exact dW.set (h2 m<|List.mem_append_right _<|List.mem_singleton.2 rfl) v x
theorem SC{l:bf}{m:List<|Int×Int}:kU (l++[m]) v x=l++[fO m v x]:=by
 induction l with
 |nil=>rfl
 |cons y l ih=>
  cases l with
  |nil=>rfl
  |cons z l=>show y::kU (z::(l++[m])) v x=_;rw[show(z::(l++[m]):bf)=(z::l)++[m] from rfl,ih];rfl
theorem MQ{b:bf}(h:dj b)(v x:Int):dj<|kU b v x:=by
 have ch:b≠[]:=fun e=>by have:=h.1.1;rw[e] at this;simp only[List.length_nil] at this;omega
 rw[←List.dropLast_concat_getLast ch] at h ⊢;rw[SC];exact adZ h
theorem HL:∀(b:bf) (v x:Int),(kU b v x).length=b.length
 |[],_,_|[_],_,_=>rfl
 |m::m'::l,v,x=>congrArg (· +1)<|HL (m'::l) v x
theorem N8(h:dj ms)(h6:ms.length<7):dj<|ms++[[]]:=by
 refine⟨by rw[List.length_append];show 1<=ms.length+1/\ms.length+1<=7;omega,fun m hm=>?_⟩;rcases List.mem_append.1 hm with hm|hm
 ·exact h.2 m hm
 ·rw[List.mem_singleton] at hm;subst hm;exact List.nodup_nil
theorem N9(h:dj ms)(h2:2<=ms.length):dj ms.dropLast:=by refine⟨by rw[List.length_dropLast];have:=h.1.2;omega,fun m hm=>h.2 m<|List.dropLast_subset _ hm⟩
theorem HA:∀ms:bf,2<=ms.length->(gd ms).length+1=ms.length
 |[],h=>by simp at h
 |[_],h=>by simp at h
 |[_,_],_=>rfl
 |m::m'::Ag::l,_=>by have:=HA (m'::Ag::l) (by simp);show(gd<|m'::Ag::l).length+1+1=(m'::Ag::l).length+1;rw[this]
theorem Rx:∀ms:bf,(∀m∈ms,dW m)->∀m∈gd ms,dW m
 |[],h,m,hm=>by cases hm
 |[a],h,m,hm=>h m hm
 |[a,b],h,m,hm=>by rw[show gd [a,b]=[fj a b] from rfl,List.mem_singleton] at hm;subst hm;exact dW.merge (h a<|by simp)
 |a::b::c::l,h,m,hm=>by
  have hm:m∈a::gd (b::c::l):=hm;rcases List.mem_cons.1 hm with rfl|hm
  ·exact h _ (by simp)
  ·exact Rx (b::c::l) (fun q hq=>h q<|List.mem_cons_of_mem _ hq) m hm
theorem Ir(h:dj ms)(h2:2<=ms.length):dj<|gd ms:=⟨by have:=HA ms h2;have:=h.1.2;omega,Rx ms h.2⟩
theorem Np(h:dj ms):∀p∈dO ms cap,p.1<279:=fun p hp=>by
 have h6:=h.1.2;rcases List.mem_cons.1 hp with rfl|hp
 ·show 270<279;omega
 rcases List.mem_cons.1 hp with rfl|hp
 ·show 271<279;omega
 ·have:=(HZ hp).2.1;omega
abbrev SB(B:aI)(g nt:Nat)(rs:List ResultVar)(args:List AV)(ms:bf)(cap:bZ)(y:AV)(kh:bf):Prop:=au pg B 271 (iU XT pg rs 3 y<|bJ kh) ⟨g,dc<|.ptr (some (270,0))::args,nt,[.code<|aQ pg g []],[],none⟩<|ah (ak++aY (dO ms cap)) 279
theorem aiB(mc:Mt [] B)(h:dj ms)(hc:oS ms.length cap)(k:((some (bA<|xQ ms)=some (bA<|xQ ms))/\oT 3 (.int .i64 0) (bJ<|kU ms v x) (ah (ak++aY (dO (kU ms v x) cap)) 279) (.int .i64 0))=wp (o8 []) 900 6 (.fr 55 (max Tryz.f55.ntmps 3) (cv 55 []) (dc [.ptr<|some (270,0),.int .i64 v,.int .i64 x])<|ah (ak++aY (dO ms cap)) 279) (.st 8<|.rg<|.go 14<|.K6 (xQ ms)<|.en<|.rt 3 .no) (az Tryz.f55) (fun y s _=>oT 3 (.int .i64 0) (bJ<|kU ms v x) s y) (fun _ _ _=>False):=by as_aux_lemma=>kernel_rfl):
 SB B 55 (max Tryz.f55.ntmps 3) (az Tryz.f55) [.int .i64 v,.int .i64 x] ms cap (.int .i64 0) (kU ms v x):=
 Eu mc _ ⟨rfl,Kw 279 (MQ h v x) (by rw[HL];exact hc)<|.int .i64 0⟩ k bW
theorem acp(mc:Mt [] B)(h:dj ms)(hc:oS ms.length cap)(h6:ms.length<=6):SB B 55 (max Tryz.f55.ntmps 3) (az Tryz.f55) [.int .i64 v,.int .i64 x] ms cap (.int .i64 0)<|kU ms v x:=by rcases fR ⟨h.1.1,h6⟩ with⟨m0,rfl⟩|⟨m0,m1,rfl⟩|⟨m0,m1,m2,rfl⟩|⟨m0,m1,m2,m3,rfl⟩|⟨m0,m1,m2,m3,m4,rfl⟩|⟨m0,m1,m2,m3,m4,m5,rfl⟩<;>exact aiB mc h hc
abbrev KA(L:bO)(g:Nat)(f:Func)(ms:bf)(cap:bZ)(path:List Nat)(kh:bf)(nQ:bZ)(p:Pl):Prop:=wp (o8 L) 900 6 (.fr g (max f.ntmps 1) [.code<|aQ pg g []] (dc [.ptr<|some (270,0)])<|ah (ak++aY (dO ms cap)) 279) p f.results.toList (fun y s _=>oT 3 (.int .i64 0) (bJ kh) s y) fun fr s1 _=>fr=⟨g,aC [(2,i0)],max f.ntmps 1,[.code<|aQ pg g path],[],none⟩/\s1=ah (ak++aY (dO kh nQ)) 279
abbrev Lp(kh:bf)(nQ:bZ):Prop:=oT 3 (.int .i64 0) (bJ kh) (ah (ak++aY (dO kh nQ)) 279)<|.int .i64 0
abbrev KB(L:bO)(g:Nat)(f:Func)(path:List Nat)(kh:bf)(nQ:bZ):Prop:=wp (o8 L) 900 6 (.fr g (max f.ntmps 1) [.code<|aQ pg g path] (aC [(2,i0)])<|ah (ak++aY (dO kh nQ)) 279) (.rt 1 .no) f.results.toList (fun y s _=>oT 3 (.int .i64 0) (bJ kh) s y) fun _ _ _=>False
theorem Oz{L:bO}{f:Func}(path:List Nat)(mc:Mt L B)(h':dj kh)(QP:oS kh.length nQ)(p:Pl){T:Prop}(x:T)(k:T=KA L g f ms cap path kh nQ p:=by as_aux_lemma=>kernel_rfl)(k2:Lp kh nQ=KB L g f path kh nQ:=by as_aux_lemma=>kernel_rfl):
 SB B g (max f.ntmps 1) f.results.toList [] ms cap (.int .i64 0) kh:=
 Cg mc (fun fr s1 _ hC=>by obtain⟨rfl,rfl⟩:=hC;exact Eu mc _ (Kw 279 h' QP _) k2 bW) p x k bW
abbrev He(bx:Nat)(o0:List<|Nat×Option ae)(kh:bf)(nQ:bZ)(g nt:Nat)(path:List Nat):Prop:=Ye 271 bx 279 [(2,i0)] o0 [(2,i0)] (aY<|dO kh nQ) ⟨g,aC [(2,i0)],nt,[.code<|aQ pg g path],[],none⟩<|ah (ak++aY (dO kh nQ)) 279
theorem Xc{ps:List<|Nat×Nat}{bx:Nat}{path:List Nat}(h:∀r,r=l6 ps 271 bx->Af r o0 (aY<|dO kh nQ))(h1:Ae ps 271 bx 279 ((aY<|dO kh nQ).map (·.1))=true:=by as_aux_lemma=>kernel_rfl)(h2:Kv ps=true:=by as_aux_lemma=>kernel_rfl):He bx o0 kh nQ g nt path:=⟨rfl,rfl,J3 (ps:=ps) ab h1 h2 (fun r hr ht=>⟨⟨by unfold top;omega,_,mi 0,vi⟩,trivial⟩) fun r hr _=>h r hr,rfl,rfl⟩
def EE(n:Nat):List<|Nat×Nat:=(271,281)::(272+n,279)::(List.range n).map fun i=>(272+i,272+i)
def QQ(ms:bf):List<|Nat×Option ae:=(270,some<|aD hJ [.slice (some (281,0)) (ms.length+1)<|.aq (ms.length+1) 1])::(281,some<|aD hJ<|jS ms.length++[.map<|some 279])::(279,some<|xX [])::aY (qo 272 ms)
theorem FP(l:List AV):(l.map hJ).flatten=l:=DB l
theorem GH{l m:List AV}(h:ly [] r l m)(hl:l.length<=8)(h1:m.all AV.bR=true):fD [] r (aD hJ l)<|aD hJ m:=by show fD [] r (.cells (l.map hJ).flatten.length (Tr.fill (l.map hJ).flatten 0 .nil) [])<|.cells (m.map hJ).flatten.length (Tr.fill (m.map hJ).flatten 0 .nil) [];rw[FP,FP];exact fD.cells eH h h1
theorem Nq(n:Nat):(jS n).all AV.bR=true:=by rw[jS,List.all_map,List.all_eq_true];exact fun _ _=>rfl
theorem Nr(n:Nat):(jS n).length=n:=by rw[jS,List.length_map,List.length_range]
theorem Yf{m:Nat}{l:List<|Int×Int}(q:r m=m)(hm:(m,some<|bA l)∈o0:=by repeat first|exact List.mem_cons_self|apply List.mem_cons_of_mem):∀z,some (bA l)=some z->z.kj=true/\∃x,(r m,some x)∈o0/\fM x z/\fD [] r x z:=sr hm q aha aiA
theorem ahb(mc:Mt [] B)(h:dj<|ms++[[]])(w1:∀r,r=l6 (EE ms.length) 271 282->ly [] r (jS ms.length++[.map<|some 279]) (jS (ms++[[]]).length))(w2:∀r,r=l6 (EE ms.length) 271 282->Af r (QQ ms) (aY<|qo 272<|ms++[[]]))(k:He 282 (QQ ms) (ms++[[]]) (.aq (ms.length+1) 1) 57 (max Tryz.f57.ntmps 1) [1,1,1,1]=KA [] 57 Tryz.f57 ms cap [1,1,1,1] (ms++[[]]) (.aq (ms.length+1) 1) (.st 11<|.rn [(2,i0)] (ak++QQ ms) [(2,i0)] (ak++aY (dO (ms++[[]])<|.aq (ms.length+1) 1)) 282 279 .no):=by as_aux_lemma=>kernel_rfl)(h1:Ae (EE ms.length) 271 282 279 ((aY<|dO (ms++[[]])<|.aq (ms.length+1) 1).map (·.1))=true:=by as_aux_lemma=>kernel_rfl)(h2:Kv (EE ms.length)=true:=by as_aux_lemma=>kernel_rfl)(q0:l6 (EE ms.length) 271 282 270=270:=by as_aux_lemma=>kernel_rfl)(q1:l6 (EE ms.length) 271 282 271=281:=by as_aux_lemma=>kernel_rfl)(k2:Lp (ms++[[]]) (.aq (ms.length+1) 1)=KB [] 57 Tryz.f57 [1,1,1,1] (ms++[[]]) (.aq (ms.length+1) 1):=by as_aux_lemma=>kernel_rfl):
 SB B 57 (max Tryz.f57.ntmps 1) (az Tryz.f57) [] ms cap (.int .i64 0) (ms++[[]]):=by
 have hl:(ms++[[]]).length=ms.length+1:=by rw[List.length_append];rfl
 have h7:=h.1.2;refine Oz [1,1,1,1] mc h (.inl<|by rw[hl]) _ (Xc (fun r hr=>⟨sr (mi 0) (rq hr q0) xc<|GH (l:=[.slice (some (281,0)) (ms.length+1)<|.aq (ms.length+1) 1]) ⟨?_,trivial⟩ (by simp) rfl,sr (mi 1) (rq hr q1) xc<|GH (w1 r hr) ?_<|Nq _,w2 r hr⟩) h1 h2) k k2
 ·rw[hl];exact(bp.slice<|rq hr q1).z
 ·rw[List.length_append,Nr];show ms.length+1<=8;omega
theorem abe(mc:Mt [] B)(h:dj ms)(hc:oS ms.length cap)(h6:ms.length<=6):SB B 57 (max Tryz.f57.ntmps 1) (az Tryz.f57) [] ms cap (.int .i64 0)<|ms++[[]]:=by
  have h2:=N8 h ab
  rcases fR ⟨h.1.1,h6⟩ with⟨m0,rfl⟩|⟨m0,m1,rfl⟩|⟨m0,m1,m2,rfl⟩|⟨m0,m1,m2,m3,rfl⟩|⟨m0,m1,m2,m3,m4,rfl⟩|⟨m0,m1,m2,m3,m4,m5,rfl⟩
  all_goals rcases hc with rfl|⟨e,rfl⟩
  all_goals first
    |(cases e;done)
    | (refine ahb mc h2 (fun r hr=>?_) fun r hr=>?_
       · repeat' first|exact trivial|refine⟨(bp.map<|rq hr).z,?_⟩
       · repeat' first|exact trivial|refine⟨sr (n:=279) (mi 2) (rq hr) Oy<|Pu List.nodup_nil,?_⟩|refine⟨Yf<|rq hr,?_⟩)
theorem T9{α:Type}{f g:α->AV}:∀{l:List α},(∀i∈l,jF [] r (f i)<|g i)->ly [] r (l.map f) (l.map g)
 |[],_=>trivial
 |_::_,h=>⟨h _ List.mem_cons_self,T9 fun i hi=>h i<|List.mem_cons_of_mem _ hi⟩
theorem Xd{r:Nat->Nat}{o0:List<|Nat×Option ae}:∀{ms:bf} {k:Nat},(∀p∈qo k ms,(p.1,some p.2)∈o0)->(∀i,i<ms.length->r (k+i)=k+i)->Af r o0 (aY<|qo k ms)
 |[],_,_,_=>trivial
 |m::ms,k,h,q=>⟨Yf (m:=k) (q 0<|Nat.succ_pos _)<|h _ List.mem_cons_self,Xd (fun p hp=>h p<|List.mem_cons_of_mem _ hp) fun i hi=>by have:=q (i+1)<|Nat.succ_lt_succ hi;rwa[show k+1+i=k+(i+1) by omega]⟩
theorem Ua:∀{l:List<|Nat×ae} {p:Nat×ae},p∈l->(p.1,some p.2)∈aY l
 |_::l,p,h=>by
  rcases List.mem_cons.1 h with rfl|h
  ·exact List.mem_cons_self
  ·exact List.mem_cons_of_mem _<|Ua h
def Lq:List<|Nat×Nat:=[(271,271),(272,272),(273,273),(274,274),(275,275),(276,276),(277,277)]
theorem Wt(hr:r=l6 Lq 271 279)(i:Nat)(h:i<6):r (272+i)=272+i:=by rcases(by omega:i=0\/i=1\/i=2\/i=3\/i=4\/i=5) with rfl|rfl|rfl|rfl|rfl|rfl<;>exact rq hr
def Hf(ms:bf):List<|Nat×Option ae:=(270,some<|aD hJ [.slice (some (271,0)) ms.length<|.aq (ms.length+1) 1])::(271,some<|aD hJ<|jS<|ms.length+1)::aY (qo 272 ms)
theorem UY{path:List Nat}(h:dj ms)(h6:ms.length<=6)(h1:Ae Lq 271 279 279 ((aY<|dO ms<|.aq ms.length 1).map (·.1))=true:=by as_aux_lemma=>kernel_rfl):He 279 (Hf ms) ms (.aq ms.length 1) g nt path:=by refine Xc (fun r hr=>⟨sr (mi 0) (rq hr) xc<|GH (l:=[.slice (some (271,0)) ms.length<|.aq (ms.length+1) 1]) ⟨(adX (rq hr) ab ab).z,trivial⟩ (by simp) rfl,sr (mi 1) (rq hr) xc ?_,Xd (fun p hp=>List.mem_cons_of_mem _<|List.mem_cons_of_mem _<|Ua hp) fun i hi=>Wt hr i ab⟩) h1;show fD [] r (.cells ((jS<|ms.length+1).map hJ).flatten.length (Tr.fill ((jS<|ms.length+1).map hJ).flatten 0 .nil) [])<|.cells ((jS ms.length).map hJ).flatten.length (Tr.fill ((jS ms.length).map hJ).flatten 0 .nil) [];rw[FP,FP,show jS (ms.length+1)=jS ms.length++[.map<|some<|272+ms.length] by rw[jS,List.range_succ,List.map_append];rfl];exact Tq (by rw[List.length_append,Nr];show ms.length+1<=top;unfold top;omega) (T9 fun i hi=>(bp.map<|Wt hr i (by have:=List.mem_range.1 hi;omega)).z)<|Nq _
theorem ahc(mc:Mt [] B)(h:dj ms.dropLast)(h6:ms.dropLast.length<=6)(h1:Ae Lq 271 279 279 ((aY<|dO ms.dropLast<|.aq ms.dropLast.length 1).map (·.1))=true:=by as_aux_lemma=>kernel_rfl)(k:He 279 (Hf ms.dropLast) ms.dropLast (.aq ms.dropLast.length 1) 56 (max Tryz.f56.ntmps 1) [1,1,1]=KA [] 56 Tryz.f56 ms cap [1,1,1] ms.dropLast (.aq ms.dropLast.length 1) (.st 3<|.rg<|.go 1<|.il<|.rt 19<|.go 5<|.en<|.st 2<|.rn [(2,i0)] (ak++Hf ms.dropLast) [(2,i0)] (ak++aY (dO ms.dropLast<|.aq ms.dropLast.length 1)) 279 279 .no):=by as_aux_lemma=>kernel_rfl)(k2:Lp ms.dropLast (.aq ms.dropLast.length 1)=KB [] 56 Tryz.f56 [1,1,1] ms.dropLast (.aq ms.dropLast.length 1):=by as_aux_lemma=>kernel_rfl):
 SB B 56 (max Tryz.f56.ntmps 1) (az Tryz.f56) [] ms cap (.int .i64 0) ms.dropLast:=
 Oz [1,1,1] mc h (.inl rfl) _ (UY h h6 h1) k k2
theorem abf(mc:Mt [] B)(h:dj ms)(hc:oS ms.length cap)(h2:2<=ms.length)(h6:ms.length<=6):SB B 56 (max Tryz.f56.ntmps 1) (az Tryz.f56) [] ms cap (.int .i64 0) ms.dropLast:=by
 have q:=N9 h h2;have q6:ms.dropLast.length<=6:=by rw[List.length_dropLast];omega
 rcases hc with rfl|⟨e,_⟩
 rotate_left
 ·omega
 rcases fR ⟨h.1.1,h6⟩ with⟨m0,rfl⟩|⟨m0,m1,rfl⟩|⟨m0,m1,m2,rfl⟩|⟨m0,m1,m2,m3,rfl⟩|⟨m0,m1,m2,m3,m4,rfl⟩|⟨m0,m1,m2,m3,m4,m5,rfl⟩
 ·simp at h2
 all_goals exact ahc mc q q6
def QR(a b:Nat)(m1 m2:List<|Int×Int)(s:AS):AS:=fp b (some<|bA m2)<|fp a (some<|bA<|fj m1 m2)<|aV b<|aV a<|dC 270 dH dV s
def Ck(ms:bf):AS:=⟨fU<|ak++(270,some<|aD hJ [.slice (some (271,0)) (ms.length - 1)<|.aq ms.length 1])::(271,some<|aD hJ<|jS ms.length)::aY (qo 272 ms),279,279,[],[]⟩
abbrev Yg(ms:bf):AS:=QR (272+(ms.length - 2)) (272+(ms.length - 1)) (xQ ms.dropLast) (xQ ms)<|Ck ms
theorem MR:∀{ms:bf},(∀m∈ms,dW m)->dW (xQ ms)
 |[],_=>List.nodup_nil
 |[m],h=>h m List.mem_cons_self
 |_::m::l,h=>MR (ms:=m::l) fun q hq=>h q<|List.mem_cons_of_mem _ hq
theorem afA(mc:Mt [yE] B)(h0:dj ms)(hn:2<=ms.length)(h:dj<|gd ms)(h6:(gd ms).length<=6)(h1:Ae Lq 271 279 279 ((aY<|dO (gd ms)<|.aq (gd ms).length 1).map (·.1))=true:=by as_aux_lemma=>kernel_rfl)(hk:pM 270 dH dV (Ck ms)=true:=by as_aux_lemma=>kernel_rfl)(ha:Nat.blt (272+(ms.length - 2)) (dC 270 dH dV<|Ck ms).nx=true:=by as_aux_lemma=>kernel_rfl)(hb:Nat.blt (272+(ms.length - 1)) (dC 270 dH dV<|Ck ms).nx=true:=by as_aux_lemma=>kernel_rfl)(g1:(dC 270 dH dV<|Ck ms).h.get (272+(ms.length - 2))=some (bA<|xQ ms.dropLast):=by as_aux_lemma=>kernel_rfl)(g2:(dC 270 dH dV<|Ck ms).h.get (272+(ms.length - 1))=some (bA<|xQ ms):=by as_aux_lemma=>kernel_rfl)(k:(aZ pg (sp [yE]) FU 6 (.fn 60) [.map<|some<|272+(ms.length - 2),.map<|some<|272+(ms.length - 1)] (Ck ms)= .ok (.tuple []) (Yg ms)/\He 279 (Hf<|gd ms) (gd ms) (.aq (gd ms).length 1) 59 (max Tryz.f59.ntmps 1) [1,1,1,1])=KA [yE] 59 Tryz.f59 ms cap [1,1,1,1] (gd ms) (.aq (gd ms).length 1) (.st 3<|.rg<|.go 1<|.il<|.rt 19<|.go 5<|.en<|.st 4<|.rg<|.go 13<|.cu (.tuple []) (Yg ms)<|.en<|.st 2<|.rn [(2,i0)] (ak++Hf (gd ms)) [(2,i0)] (ak++aY (dO (gd ms)<|.aq (gd ms).length 1)) 279 279 .no):=by as_aux_lemma=>kernel_rfl)(k2:Lp (gd ms) (.aq (gd ms).length 1)=KB [yE] 59 Tryz.f59 [1,1,1,1] (gd ms) (.aq (gd ms).length 1):=by as_aux_lemma=>kernel_rfl):
 SB B 59 (max Tryz.f59.ntmps 1) (az Tryz.f59) [] ms cap (.int .i64 0) (gd ms):=
 have h7:=h0.1.2
 Oz [1,1,1,1] mc h (.inl rfl) _ ⟨UM (P:=pg) (sp:=sp [yE]) aU hk ab ha hb Gz Gz g1 g2 (MR fun m hm=>h0.2 m<|List.dropLast_subset _ hm)<|MR h0.2,UY h h6 h1⟩ k k2
theorem Mj(mc:Mt [yE] B)(h:dj ms)(hc:oS ms.length cap)(h2:2<=ms.length):SB B 59 (max Tryz.f59.ntmps 1) (az Tryz.f59) [] ms cap (.int .i64 0)<|gd ms:=by
 have q:=Ir h h2;have q6:(gd ms).length<=6:=by have:=HA ms h2;have:=h.1.2;omega
 rcases hc with rfl|⟨e,_⟩
 rotate_left
 ·omega
 rcases(Ga h.1).imp (fun q=>fR ⟨h.1.1,q⟩) id with(⟨m0,rfl⟩|⟨m0,m1,rfl⟩|⟨m0,m1,m2,rfl⟩|⟨m0,m1,m2,m3,rfl⟩|⟨m0,m1,m2,m3,m4,rfl⟩|⟨m0,m1,m2,m3,m4,m5,rfl⟩)|⟨m0,m1,m2,m3,m4,m5,m6,rfl⟩
 ·simp at h2
 all_goals exact afA mc h h2 q q6
def Hg:Code:=aQ pg 31 [1,1,0,1,0,0]
def Cl:Code:=aQ pg 31 [1,1,0,1,0,1]
def ss:List<|Nat×AV:=[(3,(.ptr<|some (279,0))),(4,(.ptr<|some (280,0))),(5,(.ptr<|some (281,0))),(12,(.func (.func 75) [] [(.ptr<|some (282,0))]))]
def oG(n:Nat)(cap:bZ)(x:Nat->Option ae)(v:Int)(w1 w2:AV):List<|Nat×Option ae:=ak++[(270,some<|W4 n cap),(271,some<|aD hJ<|jS n),(272,x 0),(273,x 1),(274,x 2),(275,x 3),(276,x 4),(277,x 5),(279,some<|eN<|.int .i64 v),(280,some<|eN w1),(281,some<|eN w2),(282,some<|.cells 1 (Tr.fill [.ptr<|some (270,0)] 0 .nil) [])]
def sG(n:Nat)(cap:bZ)(x:Nat->Option ae)(v:Int)(w1 w2:AV)(st:LoopState)(p:Option Code):AS:=ah (oG n cap x v w1 w2++[(283,some .defs),(284,some<|.loop st p 31 (aC ss) 22 [13] Hg Cl 283)]) 285
abbrev qS(n:Nat)(cap:bZ)(x:Nat->Option ae)(v:Int):AS:=sG n cap x v (.int .i64 0) (.bool false) .ready none
def pb(n:Nat)(cap:bZ)(x:Nat->Option ae)(v:Int):Option Int->AS
 |none=>qS n cap x v
 |some z=>sG n cap x v (.int .i64 z) (.bool true) .done<|some .ret
def oI(b:Bool)(z:Int):Option Int:=match b with
 |true=>some z
 |false=>none
def bP(b:Bool)(p q:Prop):Prop:=match b with
 |true=>p
 |false=>q
theorem rgT{A L:Prop}{m:List<|Int×Int}(b:Bool)(a:A)(hh:lG m v=b)(l:L):A/\((lG m v=true->bP b L False)/\(lG m v=false->bP b False L)):=by subst hh;refine⟨a,fun h=>?_,fun h=>?_⟩<;>(rw[h];exact l)
abbrev yA(n:Nat)(cap:bZ)(x:Nat->Option ae)(v:Int)(i:Nat)(s:AS)(y:AV):Prop:=aZ pg (sp []) FU 5 (.round 284) [.map<|some<|272+i] (qS n cap x v)= .ok y s
theorem rgW{n:Nat}{cap:bZ}{x:Nat->Option ae}{m:List<|Int×Int}(b:Bool)(hx:x i=some (bA m))(hh:lG m v=b)(k1:getLoop 284 (qS n cap x v)= .ok (.loop .ready none 31 (aC ss) 22 [13] Hg Cl 283) (qS n cap x v):=by as_aux_lemma=>kernel_rfl)(k2:dX pg (aZ pg (sp []) FU 4) 2 ⟨31,jz [13] [.map<|some<|272+i]<|aC ss,22,[.code Hg,.beginRound,.code Cl],[],some 284⟩ (qS n cap x v)= .ok (.go ⟨31,((jz [13] [.map<|some<|272+i]<|aC ss).put 6<|some<|.map<|some<|272+i),22,[.code Cl],[],some 284⟩) (sG n cap x v (.int .i64 0) (.bool false) .busy none):=by as_aux_lemma=>kernel_rfl)(k:((x i=some (bA m))/\((lG m v=true->bP b ((none:Option Nat)=none/\([]:List Nat)=[]/\(some (.bool !b,pb n cap x v<|oI b<|getM m v):Option<|AV×AS)=some (.bool !b,pb n cap x v<|oI b<|getM m v)) False)/\(lG m v=false->bP b False ((none:Option Nat)=none/\([]:List Nat)=[]/\(some (.bool !b,pb n cap x v<|oI b<|getM m v):Option<|AV×AS)=some (.bool !b,pb n cap x v<|oI b<|getM m v)))))=wp (ky []) 900 4 (.fr 31 22 [.code Cl] ((jz [13] [.map<|some<|272+i]<|aC ss).put 6<|some<|.map<|some<|272+i)<|sG n cap x v (.int .i64 0) (.bool false) .busy none) (.st 2<|.rg<|.go 2<|.XN m (@Bool.rec (fun _=>Pl) .no (.go 5<|.en<|.st 5<|.cut .no) b)<|@Bool.rec (fun _=>Pl) (.go 5<|.en<|.st 5<|.cut .no) .no b) [] (fun _ _ _=>False)
 (fun fr s1 _=>fr.round=none/\fr.defers=[]/\AR pg (aZ pg (sp []) FU 4) 284 fr s1=some (.bool !b,pb n cap x v<|oI b<|getM m v)):=by as_aux_lemma=>kernel_rfl):yA n cap x v i (pb n cap x v<|oI b<|getM m v)<|.bool !b:=
 ER k1 rfl (Chunk.ev 2 _ _ _ _ k2<|CN (E:=ky []) eT rfl (fun fr s p h=>EP h.1 h.2.1 h.2.2) 900 _ (rgT b hx hh<|Ha _ _) k)
theorem UZ{n:Nat}{cap:bZ}{x:Nat->Option ae}{m:List<|Int×Int}(b:Bool)(hi:i<6)(hx:x i=some (bA m))(hh:lG m v=b):yA n cap x v i (pb n cap x v<|oI b<|getM m v)<|.bool !b:=by rcases(by omega:i=0\/i=1\/i=2\/i=3\/i=4\/i=5) with rfl|rfl|rfl|rfl|rfl|rfl<;>cases b<;>exact rgW _ hx hh
def pD(s0 sE:AS)(b:Bool):Nat->Nat->Pl
 |j,0=> @Bool.rec (fun _=>Pl) (.rt 11 .no) (.st j<|.rg<|.go 8<|.cy (.bool false) sE<|.go 1<|.en<|.rt 2 .no) b
 |j,k+1=>.st j<|.rg<|.go 8<|.cy (.bool true) s0<|.go 1<|.en<|pD s0 sE b 13 k
def TD(n:Nat)(cap:bZ)(x:Nat->Option ae)(v z:Int)(b:Bool):Nat->Nat->Prop
 |i,0=>bP b (yA n cap x v (i - 1) (pb n cap x v<|some z) (.bool false)/\(AV.tuple []= .tuple []/\pb n cap x v (some z)=pb n cap x v (some z)))<|AV.tuple []= .tuple []/\qS n cap x v=qS n cap x v
 |i,k+1=>yA n cap x v (i - 1) (qS n cap x v) (.bool true)/\TD n cap x v z b (i - 1) k
def xB(ms:bf)(i:Nat):Option ae:=(ms[i]?).map bA
theorem U0{n:Nat}{v:Int}(h6:ms.length<=6):∀i,i<=ms.length->∃k b z,((b=true/\k<i)\/(b=false/\k=i))/\gB ms v i=oI b z/\TD n cap (xB ms) v z b i k
 |0,_=>⟨0,false,0,.inr ⟨rfl,rfl⟩,rfl,rfl,rfl⟩
 |i+1,hi=>by
  have hx:xB ms i=some (bA<|ms.getD i []):=by unfold xB;rw[List.getD_eq_getElem?_getD,List.getElem?_eq_getElem ab];rfl
  cases hh:lG (ms.getD i []) v with
  |true=>exact⟨0,true,getM (ms.getD i []) v,.inl ⟨rfl,by omega⟩,by unfold gB;rw[hh];rfl,UZ true ab hx hh,rfl,rfl⟩
  |false=>obtain⟨k,b,z,h1,h2,h3⟩:=U0 (n:=n) h6 i ab;exact⟨k+1,b,z,h1.imp (fun h=>⟨h.1,by omega⟩) fun h=>⟨h.1,by omega⟩,by rw[←h2,gB,hh];rfl,UZ false ab hx hh,h3⟩
abbrev QS(s0 sE:AS):Prop:=aZ pg (sp []) FU 6 (.fn 75) [.yield 284,.ptr<|some (282,0)] s0= .ok (.tuple []) sE
theorem Yh{n:Nat}{x:Nat->Option ae}{z:Int}{b:Bool}{k:Nat}(h:TD n cap x v z b n k)(q:TD n cap x v z b n k=wp (ky []) 900 5 (.fr 75 (max Tryz.f75.ntmps 2) (cv 75 []) (dc [.yield 284,.ptr<|some (282,0)])<|qS n cap x v) (pD (qS n cap x v) (pb n cap x v<|some z) b 12 k) (az Tryz.f75) (fun y s _=>y= .tuple []/\s=pb n cap x v (oI b z)) (fun _ _ _=>False):=by as_aux_lemma=>kernel_rfl):QS (qS n cap x v)<|pb n cap x v<|oI b z:=by obtain⟨y,s2,q1,rfl,rfl⟩:=sd.call (E:=ky []) (n:=5) (args:=[.yield 284,.ptr<|some (282,0)]) Tryz.func75 (Fk Tryz.func75 bW)<|F5 (R:=fun y s=>y= .tuple []/\s=pb n cap x v (oI b z)) (C:=fun _ _ _=>False) eT rfl (fun _ _ _ h=>h.elim) 900 _ h q;exact q1
theorem ad0(h:1<=ms.length/\ms.length<=6):QS (qS ms.length cap (xB ms) v)<|pb ms.length cap (xB ms) v<|gB ms v ms.length:=by
 obtain⟨k,b,z,h1,h2,h3⟩:=U0 (n:=ms.length) (cap:=cap) (v:=v) h.2 ms.length<|Nat.le_refl _;rw[h2];revert h1 h3;generalize xB ms=x;generalize ms.length=n at h;intro h1 h3;rcases(by omega:n=1\/n=2\/n=3\/n=4\/n=5\/n=6) with rfl|rfl|rfl|rfl|rfl|rfl<;>rcases h1 with⟨rfl,h1⟩|⟨rfl,rfl⟩
 all_goals first
  |(rcases(by omega:k=0\/k=1\/k=2\/k=3\/k=4\/k=5) with rfl|rfl|rfl|rfl|rfl|rfl<;>first|(exfalso;omega)|exact Yh h3)
  |exact Yh h3
def QT:List Item:=[.inBlock 0,.code<|aQ pg 31 [1,1,1]]
def Cm:AF:=⟨31,aC ss,max Tryz.f31.ntmps 2,.code (aQ pg 31 [1,1,0,1,0])::QT,[],none⟩
theorem ahd:aQ pg 31 [1,1,0,1,0]= .rangeFunc (.tmp 12) #[13] Hg Cl:=by kernel_rfl
def sZ(n:Nat)(cap:bZ)(x:Nat->Option ae)(v:Int)(w1 w2:AV)(o:Option ae)(p:Option Code):AS:=ah (oG n cap x v w1 w2++[(283,o),(284,some<|.loop .exhausted p 31 (aC ss) 22 [13] Hg Cl 283)]) 285
theorem ad1{o:Option ae}(h:1<=ms.length/\ms.length<=6):∀m q,(m,q)∈dO ms cap->(sZ ms.length cap (xB ms) v w1 w2 o p).h.get m=some q:=fun m q hm=>by
 rcases fR h with⟨m0,rfl⟩|⟨m0,m1,rfl⟩|⟨m0,m1,m2,rfl⟩|⟨m0,m1,m2,m3,rfl⟩|⟨m0,m1,m2,m3,m4,rfl⟩|⟨m0,m1,m2,m3,m4,m5,rfl⟩
 all_goals
  simp only[dO,qo,List.mem_cons,List.not_mem_nil,or_false] at hm
  repeat' (rcases hm with hm|hm)
  all_goals kernel_rfl
theorem Yi{Y:AV}(mc:Mt [] B)(hb:dj ms)(h6:ms.length<=6)(hc:oS ms.length cap){sE:AS}(dn:QS (qS ms.length cap (xB ms) v) sE)(h5:lQ 284 sE= .ok p (sZ ms.length cap (xB ms) v w1 w2 (some .defs) p))(hd:GF pg (aZ pg (sp []) FU 6) (az Tryz.f31) 8 283 ⟨31,aC ss,max Tryz.f31.ntmps 2,andThen p QT,[],none⟩ (sZ ms.length cap (xB ms) v w1 w2 (some .defs) p)=some (Y,sZ ms.length cap (xB ms) v w1 w2 none p)):
 au pg B 271 (iU XT pg (az Tryz.f31) 3 Y<|bJ ms) Cm (ah (oG ms.length cap (xB ms) v (.int .i64 0)<|.bool false) 283):=by
 unfold Cm;rw[ahd];exact au.chunk bI mc.2.2.1 mc.2.2.2 (Im (gv:=.func (.func 75) [] [.ptr<|some (282,0)]) (s1:=ah (oG ms.length cap (xB ms) v (.int .i64 0) (.bool false)++[(283,some .defs)]) 284) bW bW bW dn h5) (by show 271<=283;omega)<|(Nn (l:=283) (k:=8) (fr:=⟨31,aC ss,max Tryz.f31.ntmps 2,andThen p QT,[],none⟩) bI mc.2.2.1 mc.2.2.2 rfl rfl hd ⟨rfl,_,.buf _ hb cap hc,ad1 ⟨hb.1.1,h6⟩⟩).2.2 (by show 271<=285;omega)
theorem goG{y v':AV}(mc:Mt [] B)(H:au pg B 271 (iU XT pg (az Tryz.f31) 3 y v') Cm<|ah (oG ms.length cap (xB ms) v (.int .i64 0)<|.bool false) 283)(k:((ss.map (fun q=>some q.2)=ss.map (fun q=>some q.2))/\((oG ms.length cap (xB ms) v (.int .i64 0)<|.bool false).map (fun q=>q.2)=(oG ms.length cap (xB ms) v (.int .i64 0)<|.bool false).map (fun q=>q.2))/\(Cm=Cm/\ah (oG ms.length cap (xB ms) v (.int .i64 0)<|.bool false) 283=ah (oG ms.length cap (xB ms) v (.int .i64 0)<|.bool false) 283))=wp (o8 []) 900 6 (.fr 31 (max Tryz.f31.ntmps 2) (cv 31 []) (dc [.ptr<|some (270,0),.int .i64 v])<|ah (ak++aY (dO ms cap)) 279)
 (.st 9<|.rg<|.go 1<|.il<|.rt 5<|.en<|.st 1<|.ls ss (oG ms.length cap (xB ms) v (.int .i64 0)<|.bool false) 283 .no) (az Tryz.f31) (fun Y s _=>oT 3 y v' s Y) (fun fr s1 _=>fr=Cm/\s1=ah (oG ms.length cap (xB ms) v (.int .i64 0)<|.bool false) 283):=by as_aux_lemma=>kernel_rfl):
 au pg B 271 (iU XT pg (az Tryz.f31) 3 y v') (sF 31 Tryz.f31 [.ptr<|some (270,0),.int .i64 v]) (ah (ak++aY (dO ms cap)) 279):=
 Cg mc (fun fr s1 _ hC=>by obtain⟨rfl,rfl⟩:=hC;exact H) _ ⟨rfl,rfl,rfl,rfl⟩ k bW
theorem acq(mc:Mt [] B)(hb:dj ms)(hc:oS ms.length cap)(h6:ms.length<=6):SB B 31 (max Tryz.f31.ntmps 2) (az Tryz.f31) [.int .i64 v] ms cap (.tuple [.int .i64 (kG ms v).1,.bool (kG ms v).2]) ms:=by
 have dn:=ad0 (cap:=cap) (v:=v) ⟨hb.1.1,h6⟩;have H:au pg B 271 (iU XT pg (az Tryz.f31) 3 (.tuple [.int .i64 (kG ms v).1,.bool (kG ms v).2])<|bJ ms) Cm<|ah (oG ms.length cap (xB ms) v (.int .i64 0)<|.bool false) 283:=by
  unfold kG;revert dn;cases gB ms v ms.length with
  |none=>exact fun dn=>Yi mc hb h6 hc dn (w1:=.int .i64 0) (w2:=.bool false) (p:=none) bW bW
  |some z=>exact fun dn=>Yi mc hb h6 hc dn (w1:=.int .i64 z) (w2:=.bool true) (p:=some .ret) bW bW
 rcases fR ⟨hb.1.1,h6⟩ with⟨m0,rfl⟩|⟨m0,m1,rfl⟩|⟨m0,m1,m2,rfl⟩|⟨m0,m1,m2,m3,rfl⟩|⟨m0,m1,m2,m3,m4,rfl⟩|⟨m0,m1,m2,m3,m4,m5,rfl⟩<;>exact goG mc H
end
section
variable {L:bO}
theorem Fy{L0:bO}{fn:Func}{F:bf->List AV->Option (AV×bf)}(hP:bS pg)(h:aX L)(h0:aX L0)(cm:Tryz.prog.funcs[g]? =some fn)(H:∀a rest y a',F a rest=some (y,a')->max fn.ntmps (rest.length+1)<=top/\∀B cap,Mt L0 B->dj a->oS a.length cap->SB B g (max fn.ntmps<|rest.length+1) fn.results.toList rest a cap y a')(cw:fn.body=some (aQ pg g []):=by kernel_rfl)(hn:(fn.name == "runtime.NumGoroutine")=false:=by kernel_rfl):aX<|(g,.tok 3<|gV bJ F)::L:=by
 refine NU yz hP gT ry jT jq mr lY h h0 cm cw hn fun v rest y v' e=>?_;obtain⟨a,a',rfl,e1,rfl⟩:=Il e;obtain⟨q1,q2⟩:=H a rest y a' e1;refine⟨q1,fun L hx=>?_⟩;generalize hv:bJ a=v at hx;cases hx with
 |buf b hb cap hc=>have:=sM _ _ hv;subst this;exact⟨279,by omega,aK.1 aU,Np hb,fun B mc=>q2 B cap mc hb hc⟩
def Gb:bf->List AV->Option (AV×bf)
 |a,[.int .i64 v,.int .i64 x]=>if a.length<=6 then some (.int .i64 0,kU a v x) else none
 |_,_=>none
def Bp:bf->List AV->Option (AV×bf)
 |a,[.int .i64 v]=>if a.length<=6 then some (.tuple [.int .i64 (kG a v).1,.bool (kG a v).2],a) else none
 |_,_=>none
def Jv:bf->List AV->Option (AV×bf)
 |a,[]=>if a.length<7 then some (.int .i64 0,a++[[]]) else none
 |_,_=>none
def Jw:bf->List AV->Option (AV×bf)
 |a,[]=>if 2<=a.length/\a.length<=6 then some (.int .i64 0,a.dropLast) else none
 |_,_=>none
def IS:bf->List AV->Option (AV×bf)
 |a,[]=>if 2<=a.length then some (.int .i64 0,gd a) else none
 |_,_=>none
def Gc:FuncId×KE:=(55,.tok 3<|gV bJ Gb)
def OA:FuncId×KE:=(57,.tok 3<|gV bJ Jv)
def OB:FuncId×KE:=(56,.tok 3<|gV bJ Jw)
def CZ:FuncId×KE:=(59,.tok 3<|gV bJ IS)
def kX:FuncId×KE:=(31,.tok 3<|gV bJ Bp)
theorem acr(hP:bS pg)(h:aX L):aX<|Gc::L:=Fy hP h de Tryz.func55 fun a rest y a' e=>by unfold Gb at e;split at e<;>(try split at e)<;>cases e;exact⟨aK.1 aU,fun B cap mc hb hc=>acp mc hb hc ‹_›⟩
theorem abg(hP:bS pg)(h:aX L):aX<|OA::L:=Fy hP h de Tryz.func57 fun a rest y a' e=>by unfold Jv at e;split at e<;>(try split at e)<;>cases e;exact⟨aK.1 aU,fun B cap mc hb hc=>abe mc hb hc<|Nat.le_of_lt_succ ‹_›⟩
theorem abh(hP:bS pg)(h:aX L):aX<|OB::L:=Fy hP h de Tryz.func56 fun a rest y a' e=>by unfold Jw at e;split at e<;>(try split at e)<;>cases e;rename_i q;exact⟨aK.1 aU,fun B cap mc hb hc=>abf mc hb hc q.1 q.2⟩
theorem aas(hP:bS pg)(h:aX L):aX<|CZ::L:=Fy hP h (VL hP de) Tryz.func59 fun a rest y a' e=>by unfold IS at e;split at e<;>(try split at e)<;>cases e;exact⟨aK.1 aU,fun B cap mc hb hc=>Mj mc hb hc ‹_›⟩
theorem It(hP:bS pg)(h:aX L):aX<|kX::L:=Fy hP h de Tryz.func31 fun a rest y a' e=>by unfold Bp at e;split at e<;>(try split at e)<;>cases e;exact⟨aK.1 aU,fun B cap mc hb hc=>acq mc hb hc ‹_›⟩
def Pv:List AV->Option (Option AV×(AV->AV))
 |[]=>some (some<|bJ [[]],fun p=>p)
 |_=>none
def DD:FuncId×KE:=(24,.new 3 Pv)
def oN:List<|Nat×Option ae:=[(270,some<|xX []),(271,some<|aD hJ [.map<|some 270]),(272,some<|aD hJ [.slice (some (271,0)) 1<|.known 1])]
theorem OC:dj [[]]:=⟨by show 1<=1/\1<=7;omega,fun m hm=>by rw[List.mem_singleton] at hm;subst hm;exact List.nodup_nil⟩
theorem afB:Ye 270 273 279 [(0,.ptr<|some (272,0))] oN [(0,.ptr<|some (270,0))] (aY<|dO [[]]<|.known 1) ⟨24,aC [(0,.ptr<|some (270,0))],max Tryz.f24.ntmps 0,(cv 24 [1,1]),[],none⟩<|ah (ak++aY (dO [[]]<|.known 1)) 279:=⟨rfl,rfl,J3 (ps:=[(270,272),(271,271),(272,270)]) ab bW bW (fun r hr _=>⟨⟨by unfold top;omega,_,mi 0,(bp.ptr<|rq hr).z⟩,trivial⟩) fun r hr _=>⟨sr (mi 2) (rq hr) xc<|GH (l:=[.slice (some (271,0)) 1<|.known 1]) ⟨(bp.slice<|rq hr).z,trivial⟩ (by simp) rfl,sr (mi 1) (rq hr) xc<|GH (l:=[.map<|some 270]) ⟨(bp.map<|rq hr).z,trivial⟩ (by simp) rfl,sr (mi 0) (rq hr) Oy<|Pu List.nodup_nil,trivial⟩,rfl,rfl⟩
theorem acs(hP:bS pg)(h:aX L):aX<|DD::L:=by
 refine UG yz hP gT (aK.1 aU) jT jq h de Tryz.func24 (body:=aQ pg 24 []) aU aU fun args p e=>?_;unfold Pv at e;split at e<;>cases e;refine⟨aK.1 aU,fun e0=>(by cases e0),fun v e0=>?_⟩;injection e0 with e0;subst e0
 refine⟨zk.ptr,fun B mc=>?_⟩;rw[←hI];exact wC mc (C:=fun fr s1 _=>fr=⟨24,aC [(0,.ptr<|some (270,0))],max Tryz.f24.ntmps 0,(cv 24 [1,1]),[],none⟩/\s1=ah (ak++aY (dO [[]]<|.known 1)) 279) (fun fr s1 _ hC=>by obtain⟨rfl,rfl⟩:=hC;exact wS mc (.rt 1 .no)<|Kw (ms:=[[]]) (cap:=.known 1) 279 OC (.inr ⟨rfl,rfl⟩)<|.ptr<|some (270,0)) (.st 4<|.rn [(0,.ptr<|some (272,0))] (ak++oN) [(0,.ptr<|some (270,0))] (ak++aY (dO [[]]<|.known 1)) 273 279 .no) afB
end
end
end gk
end
section
open Go Go.Rn Go.RowKit Go.Proofs
namespace gm
open cj eR cH cU dm fY fF gJ gQ gW
variable {st:VS} {T:Prop} {v:AV} {x7 x6 x5 x4 x3 x2 x1 x0:Int} {s:AS} {rest:List AV} {q lg G:Nat} {cap:bZ} {L:bO}
noncomputable section
abbrev qT(L:bO):Env:=yd pg 270 dV dH L 273 true
def GK:FuncId×KE:=(51,.raw fun a b c=>vU a b c<|aR zq)
def l8(x0 x1 x2 x3 x4 x5 x6 x7:Int):List Int:=[x0,x1,x2,x3,x4,x5,x6,x7]
theorem evU{n m off len:Nat}{cs:List AV}{a b:AV}(h1:(a.hi&&(b.hi&&Gd len cap))=true)(hk:pM 270 dH dV s=true)(hm:Nat.blt m (dC 270 dH dV s).nx=true)(ht:Nat.blt m top=true)(h2:cellsOf ((dC 270 dH dV s).h.get m) off len=some cs)(h3:cs.all AV.gh=true)(h4:aR zq [a,.U (nm cs) 0 len,b]=some v)(h5:v.xR=true):
 aZ pg (sp [GK]) FU (n+1) (.fn 51) [a,.slice (some (m,off)) len cap,b] s= .ok v (aV m<|dC 270 dH dV s):=
 acv (P:=pg) (sp:=sp [GK]) aU h1 hk hm ht h2 h3 h4 h5
theorem mN{y Y:AV}(e:Y=y)(h1:s.h.get 270=some (bT<|dQ st.R 271 272))(h2:s.h.get 271=some (.tok 3 st.u))(h3:s.h.get 272=some (bT st.row)):Y=y/\∀m o,(m,o)∈dD 270 3 st->s.h.get m=some o:=by
 refine⟨e,fun m o hm=>?_⟩;simp only[dD,List.mem_cons,List.not_mem_nil,or_false] at hm;rcases hm with hm|hm|hm<;>(injection hm with a b;subst a;subst b)
 ·exact h1
 ·exact h2
 ·exact h3
theorem afE{e:Ex}{aM:List Int}(hg:du encI 1 (.U G q lg) aM):aR zq [.agg<|aB e,.U (nm [.int .i64 x0,.int .i64 x1,.int .i64 x2,.int .i64 x3,.int .i64 x4,.int .i64 x5,.int .i64 x6,.int .i64 x7]) 0 8,.U G q lg]=some (DX<|zp e (l8 x0 x1 x2 x3 x4 x5 x6 x7) aM):=eK zq.bM ⟨e,_,0,8,G,q,lg,l8 x0 x1 x2 x3 x4 x5 x6 x7,aM,rfl,du.aw eI<|l8 x0 x1 x2 x3 x4 x5 x6 x7,hg,rfl⟩
noncomputable abbrev OD(vars:Int)(G q lg:Nat)(x0 x1 x2 x3 x4 x5 x6 x7:Int)(len:Nat)(cap:bZ)(steps:Int)(u:AV)(row:List AV)(op n:Int)(N L:Nat):List<|Nat×Option ae:=ak++[(270,some<|.cells 13 (Tr.fill [(i6 vars),(.U G q lg),(i6 x0),(i6 x1),(i6 x2),(i6 x3),(i6 x4),(i6 x5),(i6 x6),(i6 x7),(.ptr<|some (271,0)),(.slice (some (272,0)) (len) cap),(i6 steps)] 0 .nil) []),(271,(some<|.tok 3 u)),(272,(some<|bT row)),(273,some<|.cells 3 (Tr.fill [(u8<|op),(i6 n),(.U N 0 L)] 0 .nil) [])]
theorem ahf{B:aI}{vars steps:Int}{len:Nat}{u:AV}{row:List AV}{N L:Nat}{op n z f:Int}(mc:Mt [GK] B)(hG:(((.agg [(u8<|op),(i6 n),(.U N 0 L)]):AV).hi&&((.U G q lg:AV).hi&&Gd 8 (.known 8)))=true)(he:aR zq [(.agg [(u8<|op),(i6 n),(.U N 0 L)]),.U (nm [.int .i64 x0,.int .i64 x1,.int .i64 x2,.int .i64 x3,.int .i64 x4,.int .i64 x5,.int .i64 x6,.int .i64 x7]) 0 8,.U G q lg]=some (.tuple [.int .i64 z,.int .i64 f])):au pg B 273 (gX 270 3 pg (az Tryz.f28) (.int .i64 z) (⟨(⟨[.int .i64 vars,.U G q lg,.int .i64 x0,.int .i64 x1,.int .i64 x2,.int .i64 x3,.int .i64 x4,.int .i64 x5,.int .i64 x6,.int .i64 x7],len,cap,[.int .i64 steps]⟩:RS),u,row⟩:VS)) (sF 28 Tryz.f28 [(.ptr<|some (270,0)),(.agg [(u8<|op),(i6 n),(.U N 0 L)])])<|ah (ak++aY (dD 270 3 (⟨(⟨[.int .i64 vars,.U G q lg,.int .i64 x0,.int .i64 x1,.int .i64 x2,.int .i64 x3,.int .i64 x4,.int .i64 x5,.int .i64 x6,.int .i64 x7],len,cap,[.int .i64 steps]⟩:RS),u,row⟩:VS))) 273:=by exact me (E:=qT [GK]) eT rfl bI mc.2.2.1 mc.2.2.2 900 (.st 3<|.rg<|.go 9<|.cu (.tuple [(i6 z),(i6 f)]) (aV 270<|dC 270 dH dV (⟨fU<|OD vars G q lg x0 x1 x2 x3 x4 x5 x6 x7 len cap steps u row op n N L,274,274,[],[]⟩:AS))<|.go 5<|.en<|.rt 3 .no)<|ai (evU (n:=5) (m:=270) (off:=2) (len:=8) (cap:=.known 8) (cs:=[.int .i64 x0,.int .i64 x1,.int .i64 x2,.int .i64 x3,.int .i64 x4,.int .i64 x5,.int .i64 x6,.int .i64 x7]) (s:=(⟨fU<|OD vars G q lg x0 x1 x2 x3 x4 x5 x6 x7 len cap steps u row op n N L,274,274,[],[]⟩:AS)) hG bU bU bU bU bU he bU)<|mN (st:=(⟨(⟨[.int .i64 vars,.U G q lg,.int .i64 x0,.int .i64 x1,.int .i64 x2,.int .i64 x3,.int .i64 x4,.int .i64 x5,.int .i64 x6,.int .i64 x7],len,cap,[.int .i64 steps]⟩:RS),u,row⟩:VS)) (s:=ah (OD vars G q lg x0 x1 x2 x3 x4 x5 x6 x7 len cap steps u row op n N L) 274) (show((i6 z):AV)=(.int .i64 z) from rfl) bU bU bU
open Classical in
def vR(R:VS->List AV->AV->Prop)(st:VS)(rest:List AV):Option AV:=if h:∃v,R st rest v then some h.choose else none
theorem FQ{R:VS->List AV->AV->Prop}(h:vR R st rest=some v):R st rest v:=by
 unfold vR at h;split at h
 ·rename_i q;injection h with h;rw[←h];exact q.choose_spec
 ·cases h
theorem DE{R:VS->List AV->AV->Prop}(hd:∀st rest v v',R st rest v->R st rest v'->v=v')(h:R st rest v):vR R st rest=some v:=by unfold vR;have q:∃v,R st rest v:=⟨v,h⟩;rw[dif_pos q,hd _ _ _ _ q.choose_spec h]
structure MN where
 vars:Int
 G:Nat
 q:Nat
 lg:Nat
 aM:List Int
 x0:Int
 x1:Int
 x2:Int
 x3:Int
 x4:Int
 x5:Int
 x6:Int
 x7:Int
 steps:Int
def MN.l(a:MN):List Int:=l8 a.x0 a.x1 a.x2 a.x3 a.x4 a.x5 a.x6 a.x7
def MN.pre(a:MN):List AV:=[.int .i64 a.vars,.U a.G a.q a.lg,.int .i64 a.x0,.int .i64 a.x1,.int .i64 a.x2,.int .i64 a.x3,.int .i64 a.x4,.int .i64 a.x5,.int .i64 a.x6,.int .i64 a.x7]
def MN.row(a:MN)(x y z:AV):List AV:=a.pre++[x,y,z]
abbrev vG(r:Nat):AS->AS:=Wu 270 dH dV 270 271 r
abbrev vF(r:Nat)(st:VS):AS->AS:=J4 270 dH dV 3 270 271 r st
abbrev vQ(r:Nat)(st:VS):AS->Prop:=Gh 270 dH dV 3 270 271 r st
abbrev Lr(st:VS)(r:Nat)(T:Prop):Prop:=(true=true/\true=true/\some (bT<|dQ st.R 271 r)=some (bT<|dQ st.R 271 r)/\some (ae.tok 3 st.u)=some (.tok 3 st.u)/\some (bT st.row)=some (bT st.row))/\T
abbrev Ls(r:Nat):Bool:= !Nat.beq 270 271&&(!Nat.beq 270 r&& !Nat.beq 271 r)
abbrev Lt(r:Nat):Bool:=Nat.blt 270 top&&(Nat.blt 271 top&&Nat.blt r top)
theorem jN(L:bO)(g r:Nat)(val:VS->List AV->Option AV)(rest:List AV)(st:VS)(y:AV)(ho:bE 10 st=true)(hv:val st rest=some y)(hr:rest.all AV.hi=true)(hy:y.hi=true)(t:T)(h1:sp L g=some (ng 10 3 val 270 dV dH):=by as_aux_lemma=>kernel_rfl)(h2:Ls r=true:=by as_aux_lemma=>kernel_rfl)(h3:Lt r=true:=by as_aux_lemma=>kernel_rfl)(h4:st.R.pre.length=10:=by rfl):(∀s,vQ r st s->aZ pg (sp L) FU 6 (.fn g) (.ptr (some (270,0))::rest) s= .ok y (vG r s))/\Lr st r T:=⟨acx (P:=pg) (F:=FU) (n:=5) h1 hr h2 h3 h4 ho hv hy,⟨rfl,rfl,rfl,rfl,rfl⟩,t⟩
theorem yF(L:bO)(g r:Nat)(val:VS->List AV->Option AV)(rest:List AV)(st:VS)(y:AV)(ho:bE 10 st=true)(hv:val st rest=some y)(t:T)(hr:rest.all AV.hi=true:=by as_aux_lemma=>kernel_rfl)(hy:y.hi=true:=by as_aux_lemma=>kernel_rfl)(h1:sp L g=some (ng 10 3 val 270 dV dH):=by as_aux_lemma=>kernel_rfl)(h2:Ls r=true:=by as_aux_lemma=>kernel_rfl)(h3:Lt r=true:=by as_aux_lemma=>kernel_rfl)(h4:st.R.pre.length=10:=by rfl):(∀s,vQ r st s->aZ pg (sp L) FU 6 (.fn g) (.ptr (some (270,0))::rest) s= .ok y (vG r s))/\Lr st r T:=jN L g r val rest st y ho hv hr hy t h1 h2 h3 h4
theorem Yo(L:bO)(g r:Nat)(val:VS->List AV->Option (AV×VS))(rest:List AV)(st aW:VS)(ho:bE 10 st=true)(hv:val st rest=some (.tuple [],aW))(kJ:bE 10 aW=true)(hr:rest.all AV.hi=true)(t:T)(h1:sp L g=some (nf 10 3 val 270 dV dH):=by as_aux_lemma=>kernel_rfl)(h2:Ls r=true:=by as_aux_lemma=>kernel_rfl)(h3:Lt r=true:=by as_aux_lemma=>kernel_rfl)(h4:st.R.pre.length=10:=by rfl):(∀s,vQ r st s->aZ pg (sp L) FU 6 (.fn g) (.ptr (some (270,0))::rest) s= .ok (.tuple []) (vF r aW s))/\Lr st r T:=⟨Oa (P:=pg) (F:=FU) (n:=5) h1 hr h2 h3 h4 ho hv rfl kJ,⟨rfl,rfl,rfl,rfl,rfl⟩,t⟩
theorem wh(L:bO)(g r:Nat)(val:VS->List AV->Option (AV×VS))(rest:List AV)(st aW:VS)(ho:bE 10 st=true)(hv:val st rest=some (.tuple [],aW))(kJ:bE 10 aW=true)(t:T)(hr:rest.all AV.hi=true:=by as_aux_lemma=>kernel_rfl)(h1:sp L g=some (nf 10 3 val 270 dV dH):=by as_aux_lemma=>kernel_rfl)(h2:Ls r=true:=by as_aux_lemma=>kernel_rfl)(h3:Lt r=true:=by as_aux_lemma=>kernel_rfl)(h4:st.R.pre.length=10:=by rfl):(∀s,vQ r st s->aZ pg (sp L) FU 6 (.fn g) (.ptr (some (270,0))::rest) s= .ok (.tuple []) (vF r aW s))/\Lr st r T:=Yo L g r val rest st aW ho hv kJ hr t h1 h2 h3 h4
def sw(st:VS)(a:MN):Prop:=st.R.pre=a.pre/\st.R.post=[.int .i64 a.steps]/\du encI 1 (.U a.G a.q a.lg) a.aM
theorem sw.inj{a b:MN}(h:sw st a)(k:sw st b):a=b:=by obtain⟨h1,h2,h3⟩:=h;obtain⟨k1,k2,k3⟩:=k;rw[h1] at k1;rw[h2] at k2;obtain⟨a1,a2,a3,a4,a5,c0,c1,c2,c3,c4,c5,c6,c7,a6⟩:=a;obtain⟨b1,b2,b3,b4,b5,d0,d1,d2,d3,d4,d5,d6,d7,b6⟩:=b;simp only[MN.pre,List.cons.injEq,AV.int.injEq,AV.U.injEq,true_and,_root_.and_true] at k1 k2;obtain⟨rfl,⟨rfl,rfl,rfl⟩,rfl,rfl,rfl,rfl,rfl,rfl,rfl,rfl⟩:=k1;subst k2;have e5:a5=b5:=du.inj sO h3 k3;subst e5;rfl
def jo(st:VS)(rest:List AV)(v:AV):Prop:=∃(a:MN) (e:Ex),sw st a/\rest=[.agg<|aB e]/\v= .int .i64 (zp e a.l a.aM).1
theorem jo.bM(st:VS)(rest:List AV)(v v':AV)(h:jo st rest v)(h':jo st rest v'):v=v':=by obtain⟨a,e,h1,rfl,rfl⟩:=h;obtain⟨a',e',k1,h2,rfl⟩:=h';simp only[List.cons.injEq,AV.agg.injEq,_root_.and_true] at h2;rw[ny _ _ h2,h1.inj k1]
def iL:FuncId×KE:=(28,.raw<|ng 10 3<|vR jo)
theorem ye:270+3<=top:=aK.1 aU
theorem ad4(hP:bS pg)(h:aX L):aX<|GK::L:=by
 refine ad3 hP gT ry jT jq h (UO hP<|T3 hP 6 de) Tryz.func51 (body:=aQ pg 51 []) aU aU fun args v e=>?_;obtain⟨⟨op,n,l⟩,M,p,lm,G,q,lg,lo,aM,rfl,i1,i2,rfl⟩:=fS e;refine⟨aK.1 aU,fun B mc=>?_⟩;rw[←hI];have c:=Ot (e:=.mk op n l);have d:bit (eP 6<|.mk op n l)=1->_:=fun h=>NZ (k:=6) (e:=.mk op n l) i1 i2 (by rw[←w9 (eP 6<|.mk op n l)];exact decide_eq_true h);have key:=aff (x:=bit<|eP 6<|.mk op n l) (u:=(lC 6 (.mk op n l) lo aM).1) (f:=(lC 6 (.mk op n l) lo aM).2) (N:=nm<|cK l) (L:=l.length) (op:=op) (n:=n) mc (by rw[w9];rw[aB] at c;exact c) (fun h=>by have:=d h;rw[aB] at this;exact this);unfold zp;rw[aB];cases q:eP 6 (.mk op n l) with
 |true=>rw[q,if_pos (show bit true=1 from rfl)] at key;rw[if_pos rfl];exact key
 |false=>rw[q,if_neg (show ¬(bit false=1) by decide)] at key;rw[if_neg (by intro h;cases h)];exact key
theorem C0(hP:bS pg)(h:aX L):aX<|iL::L:=by refine Fa hP gT ye jT jq mr lY h (ad4 hP de) Tryz.func28 (body:=aQ pg 28 []) aU aU fun st rest y e _=>?_;obtain⟨a,⟨op,n,l⟩,⟨h1,h2,h3⟩,rfl,rfl⟩:=FQ e;refine⟨aK.1 aU,fun B mc=>?_⟩;obtain⟨⟨pre,len,cap,post⟩,u,row⟩:=st;simp only at h1 h2;subst h1;subst h2;have q:=afE (e:=.mk op n l) (x0:=a.x0) (x1:=a.x1) (x2:=a.x2) (x3:=a.x3) (x4:=a.x4) (x5:=a.x5) (x6:=a.x6) (x7:=a.x7) h3;rw[aB] at q ⊢;exact ahf mc (and_true.2 ⟨by rw[←aB];exact Bn _,and_true.2 ⟨h3.hi,rfl⟩⟩) q
end
end gm
end
section
open Go Go.Rn Go.RowKit Go.Proofs
namespace hZ
open cj eR cH cU dm fY fF gJ gQ gW gm
noncomputable abbrev Bf(a:MN)(len:Nat)(cap:bZ)(u:AV)(row:List AV):VS:=(⟨(⟨a.pre,len,cap,[.int .i64 a.steps]⟩:RS),u,row⟩:VS)
theorem ahg{B:aI}{a:MN}{len:Nat}{cap:bZ}{u:AV}{row:List AV}{N L:Nat}{op n z v f:Int}(mc:Mt [iL,Kr] B)(hO:bE 10 (Bf a len cap u row)=true)(hA:([(.agg [(u8<|op),(i6 n),(.U N 0 L)])]:List AV).all AV.hi=true)(hz:vR jo (Bf a len cap u row) [(.agg [(u8<|op),(i6 n),(.U N 0 L)])]=some (.int .i64 z))(hv:bj (aR BG) [.int .i64 z,.int .i64 a.vars]=some (.tuple [.int .i64 v,.int .i64 f])):au pg B 273 (gX 270 3 pg (az Tryz.f30) (.int .i64 v)<|Bf a len cap u row) (sF 30 Tryz.f30 [(.ptr<|some (270,0)),(.agg [(u8<|op),(i6 n),(.U N 0 L)])])<|ah (ak++aY (dD 270 3<|Bf a len cap u row)) 273:=by exact me (E:=qT [iL,Kr]) eT rfl bI mc.2.2.1 mc.2.2.2 900 (.st 3<|.rg<|.go 2<|.cg (i6 z) (vG 272) (vQ 272<|Bf a len cap u row)<|.go 4<|.kn (.tuple [(i6 v),(i6 f)])<|.go 5<|.en<|.rt 3 .no)<|jN [iL,Kr] 28 272 (vR jo) [(.agg [(u8<|op),(i6 n),(.U N 0 L)])] (Bf a len cap u row) (i6 z) hO hz hA bU<|ai hv<|mN (st:=(Bf a len cap u row)) (s:=ah (ak++[(270,some<|.cells 13 (Tr.fill (a.row (.ptr<|some (271,0)) (.slice (some (272,0)) (len) cap)<|i6 a.steps) 0 .nil) []),(271,(some<|.tok 3 u)),(272,(some<|bT row)),(273,some<|.cells 3 (Tr.fill [(u8<|op),(i6 n),(.U N 0 L)] 0 .nil) [])]) 274) (show((i6 v):AV)=(.int .i64 v) from rfl) bU bU bU
def nL(st:VS)(rest:List AV)(v:AV):Prop:=∃(a:MN) (e:Ex) (x f:Int),sw st a/\rest=[.agg<|aB e]/\a.vars<=1099511627776/\tU (zp e a.l a.aM).1 a.vars= .tuple [.int .i64 x,.int .i64 f]/\v= .int .i64 x
theorem nL.bM(st:VS)(rest:List AV)(v v':AV)(h:nL st rest v)(h':nL st rest v'):v=v':=by obtain⟨a,e,x,f,h1,rfl,_,h2,rfl⟩:=h;obtain⟨a',e',x',f',k1,k0,_,k2,rfl⟩:=h';simp only[List.cons.injEq,AV.agg.injEq,_root_.and_true] at k0;have e1:=h1.inj k1;subst e1;rw[←ny _ _ k0,h2] at k2;simp only[AV.tuple.injEq,List.cons.injEq,AV.int.injEq,true_and] at k2;rw[k2.1]
noncomputable def jH:FuncId×KE:=(30,.raw<|ng 10 3<|vR nL)
theorem FA(hP:bS pg){L:bO}(h:aX L):aX<|jH::L:=by
 refine Fa hP gT ye jT jq mr lY h (C0 hP<|adB hP de) Tryz.func30 (body:=aQ pg 30 []) aU aU fun st rest y e eo=>?_;obtain⟨a,⟨op,n,l⟩,x,f,hM,rfl,hm,hx,rfl⟩:=FQ e;refine⟨aK.1 aU,fun B mc=>?_⟩;have hz:vR jo st [.agg<|aB<|.mk op n l]=some _:=DE jo.bM ⟨a,_,hM,rfl,rfl⟩;obtain⟨h1,h2,h3⟩:=hM;obtain⟨⟨pre,len,cap,post⟩,u,row⟩:=st;simp only at h1 h2;subst h1;subst h2;have hA:([AV.agg<|aB<|.mk op n l]:List AV).all AV.hi=true:=by rw[List.all_cons,Bn];rfl
 have hv:bj (aR BG) [.int .i64 (zp (.mk op n l) a.l a.aM).1,.int .i64 a.vars]=some (.tuple [.int .i64 x,.int .i64 f]):=eO (eK BG.bM ⟨_,_,rfl,hm,hx.symm⟩) rfl rfl;rw[aB] at hz hA ⊢;exact ahg mc eo hA hz hv
end hZ
end
section
open Go Go.Rn Go.RowKit Go.Proofs
namespace iB
open cj eR cH dq cU dm fY fF gJ gQ gW gm hZ gk
variable {cap:bZ} {u:AV} {to aE n2 kind v:Int} {a:MN} {N4 N3 N2 N L4 L3 L2 L:Nat} {B:aI}
theorem UI(l:List AV){k:Nat}(h:k<13)(hl:l.length=13:=by rfl):l[k]? =some (l.getD k<|.tuple []):=by rw[List.getD_eq_getElem?_getD,List.getElem?_eq_getElem ab];rfl
theorem UJ{pre post:List AV}{len i r1 r2:Nat}{c:AV}(h:i<pre.length):aD ni ((dQ ⟨pre,len,cap,post⟩ r1 r2).set i c)=bT (dQ ⟨pre.set i c,len,cap,post⟩ r1 r2):=by
 have e:(dQ ⟨pre,len,cap,post⟩ r1 r2).set i c=dQ ⟨pre.set i c,len,cap,post⟩ r1 r2:=by unfold dQ;exact List.set_append_left _ _ h
 rw[e];unfold aD bT;rw[DB]
noncomputable abbrev VE(a:MN)(len:Nat)(cap:bZ)(to z:Int)(u:AV)(row:List AV)(kind op n:Int)(N L:Nat)(aE n2:Int)(N2 L2 N3 L3 N4 L4:Nat):List<|Nat×Option ae:=ak++[(270,(some<|aD ni<|((a.row (.ptr<|some (271,0)) (.slice (some (272,0)) (len) cap)<|i6 a.steps):List AV).set (2+to.toNat)<|i6 z)),(271,(some<|.tok 3 u)),(272,(some<|bT row)),(273,some<|.cells 10 (Tr.fill [(u8<|kind),(i6 to),(u8<|op),(i6 n),(.U N 0 L),(u8<|aE),(i6 n2),(.U N2 0 L2),(.U N3 0 L3),(.U N4 0 L4)] 0 .nil) [])]
noncomputable abbrev mG(a:MN)(len:Nat)(cap:bZ)(u:AV)(row:List AV):VS:=(⟨(⟨a.pre,len,cap,[.int .i64 a.steps]⟩:RS),u,row⟩:VS)
noncomputable abbrev xC(op n:Int)(N L:Nat):List AV:=[(.agg [(u8<|op),(i6 n),(.U N 0 L)])]
theorem ahh{len:Nat}{row:List AV}{op n:Int}{z:Int}(mc:Mt [iL] B)(hO:bE 10 (mG a len cap u row)=true)(h0:0<=to)(h8:to<8)(hA:((xC op n N L):List AV).all AV.hi=true)(hz:vR jo (mG a len cap u row) (xC op n N L)=some (.int .i64 z)):au pg B 273 (gX 270 3 pg (az Tryz.f32) (.tuple []) (⟨⟨(a.pre:List AV).set (2+to.toNat)<|.int .i64 z,len,cap,[.int .i64 a.steps]⟩,u,row⟩:VS)) (sF 32 Tryz.f32 [(.ptr<|some (270,0)),(.agg [(u8<|kind),(i6 to),(u8<|op),(i6 n),(.U N 0 L),(u8<|aE),(i6 n2),(.U N2 0 L2),(.U N3 0 L3),(.U N4 0 L4)])])<|ah (ak++aY (dD 270 3<|mG a len cap u row)) 273:=by exact me (E:=qT [iL]) eT rfl bI mc.2.2.1 mc.2.2.2 900 (.st 2<|.rg<|.go 6<|.cg (i6 z) (vG 272) (vQ 272<|mG a len cap u row)<|.go 2<|.K5<|.np (aD ni<|((a.row (.ptr<|some (271,0)) (.slice (some (272,0)) (len) cap)<|i6 a.steps):List AV).set (2+to.toNat)<|i6 z)<|.en<|.rt 1 .no)<|jN [iL] 28 272 (vR jo) (xC op n N L) (mG a len cap u row) (i6 z) hO hz hA bU XZ
theorem afF{len:Nat}{row:List AV}{op n:Int}{z:Int}{fb:Bool}(mc:Mt [jH,kX] B)(hO:bE 10 (mG a len cap u row)=true)(h0:0<=to)(h8:to<8)(hA:((xC op n N L):List AV).all AV.hi=true)(hv:vR nL (mG a len cap u row) (xC op n N L)=some (.int .i64 v))(hg:iK (gV bJ Bp) u [.int .i64 v]=some (.tuple [.int .i64 z,.bool fb],u)):au pg B 273 (gX 270 3 pg (az Tryz.f33) (.tuple []) (⟨⟨(a.pre:List AV).set (2+to.toNat)<|.int .i64 z,len,cap,[.int .i64 a.steps]⟩,u,row⟩:VS)) (sF 33 Tryz.f33 [(.ptr<|some (270,0)),(.agg [(u8<|kind),(i6 to),(u8<|op),(i6 n),(.U N 0 L),(u8<|aE),(i6 n2),(.U N2 0 L2),(.U N3 0 L3),(.U N4 0 L4)])])<|ah (ak++aY (dD 270 3<|mG a len cap u row)) 273:=by exact me (E:=qT [jH,kX]) eT rfl bI mc.2.2.1 mc.2.2.2 900 (.st 2<|.rg<|.go 6<|.ld [(.ptr<|some (271,0))]<|.go 3<|.cg (i6 v) (vG 272) (vQ 272<|mG a len cap u row)<|.kt (.tuple [(i6 z),(.bool fb)]) u<|.go 5<|.K5<|.np (aD ni<|((a.row (.ptr<|some (271,0)) (.slice (some (272,0)) (len) cap)<|i6 a.steps):List AV).set (2+to.toNat)<|i6 z)<|.en<|.rt 1 .no)<|ai WZ<|jN [jH,kX] 30 272 (vR nL) (xC op n N L) (mG a len cap u row) (i6 v) hO hv hA bU<|ai hg XZ
theorem ad5{len:Nat}{row:List AV}{op n:Int}{z:Int}{u':AV}(mc:Mt [jH,iL,Gc] B)(hO:bE 10 (mG a len cap u row)=true)(hA:((xC op n N L):List AV).all AV.hi=true)(hB:([(.agg [(u8<|aE),(i6 n2),(.U N2 0 L2)])]:List AV).all AV.hi=true)(hv:vR nL (mG a len cap u row) (xC op n N L)=some (.int .i64 v))(hz:vR jo (mG a len cap u row) [(.agg [(u8<|aE),(i6 n2),(.U N2 0 L2)])]=some (.int .i64 z))(hp:iK (gV bJ Gb) u [.int .i64 v,.int .i64 z]=some ((.int .i64 0:AV),u')):au pg B 273 (gX 270 3 pg (az Tryz.f34) (.tuple []) (⟨(⟨a.pre,len,cap,[.int .i64 a.steps]⟩:RS),u',row⟩:VS)) (sF 34 Tryz.f34 [(.ptr<|some (270,0)),(.agg [(u8<|kind),(i6 to),(u8<|op),(i6 n),(.U N 0 L),(u8<|aE),(i6 n2),(.U N2 0 L2),(.U N3 0 L3),(.U N4 0 L4)])])<|ah (ak++aY (dD 270 3<|mG a len cap u row)) 273:=by exact me (E:=qT [jH,iL,Gc]) eT rfl bI mc.2.2.1 mc.2.2.2 900 (.st 2<|.rg<|.go 3<|.ld [(.ptr<|some (271,0))]<|.go 3<|.cg (i6 v) (vG 272) (vQ 272<|mG a len cap u row)<|.go 3<|.cg (i6 z) (vG 272) (vQ 272<|mG a len cap u row)<|.kt i0 u'<|.en<|.rt 1 .no)<|ai WZ<|jN [jH,iL,Gc] 30 272 (vR nL) (xC op n N L) (mG a len cap u row) (i6 v) hO hv hA bU<|jN [jH,iL,Gc] 28 272 (vR jo) [(.agg [(u8<|aE),(i6 n2),(.U N2 0 L2)])] (mG a len cap u row) (i6 z) hO hz hB bU<|ai hp<|mN (st:=(⟨(⟨a.pre,len,cap,[.int .i64 a.steps]⟩:RS),u',row⟩:VS)) (s:=ah (ak++[(270,(some<|aD ni<|a.row (.ptr<|some (271,0)) (.slice (some (272,0)) (len) cap)<|i6 a.steps)),(271,(some<|.tok 3 u')),(272,(some<|bT row)),(273,some<|.cells 10 (Tr.fill [(u8<|kind),(i6 to),(u8<|op),(i6 n),(.U N 0 L),(u8<|aE),(i6 n2),(.U N2 0 L2),(.U N3 0 L3),(.U N4 0 L4)] 0 .nil) [])]) 274) (show((.tuple []):AV)= .tuple [] from rfl) (bU) bU bU
end iB
end
section
open Go Go.Rn Go.RowKit Go.Proofs
namespace iC
open cj eR cH dq cU dm fY fF gJ gQ gW gm hZ iB gk
variable {L:bO} {v:AV×VS} {st:VS} {rest:List AV}
noncomputable section
open Classical in
def dJ(R:VS->List AV->AV×VS->Prop)(st:VS)(rest:List AV):Option<|AV×VS:=if h:∃v,R st rest v then some h.choose else none
theorem IU{R:VS->List AV->AV×VS->Prop}(h:dJ R st rest=some v):R st rest v:=by
 unfold dJ at h;split at h
 ·rename_i q;injection h with h;rw[←h];exact q.choose_spec
 ·cases h
theorem Jx{R:VS->List AV->AV×VS->Prop}(hd:∀st rest v v',R st rest v->R st rest v'->v=v')(h:R st rest v):dJ R st rest=some v:=by unfold dJ;have q:∃v,R st rest v:=⟨v,h⟩;rw[dif_pos q,hd _ _ _ _ q.choose_spec h]
def vJ(st:VS)(i z:Int):VS:=⟨⟨st.R.pre.set (2+i.toNat)<|.int .i64 z,st.R.len,st.R.cap,st.R.post⟩,st.u,st.row⟩
def aiD(st:VS)(u:AV):VS:=⟨st.R,u,st.row⟩
def zI(st:VS)(rest:List AV)(p:AV×VS):Prop:=∃(a:MN) (kind to:Int) (ea eb:Ex) (body other:List St) (z:Int),bE 10 st=true/\sw st a/\rest=[.agg<|aL<|.mk kind to ea eb body other]/\0<=to/\to<8/\vR jo st [.agg<|aB ea]=some (.int .i64 z)/\p=(.tuple [],vJ st to z)
def zu(st:VS)(rest:List AV)(p:AV×VS):Prop:=∃(a:MN) (kind to:Int) (ea eb:Ex) (body other:List St) (v z:Int) (fb:Bool),bE 10 st=true/\sw st a/\rest=[.agg<|aL<|.mk kind to ea eb body other]/\0<=to/\to<8/\vR nL st [.agg<|aB ea]=some (.int .i64 v)/\iK (gV bJ Bp) st.u [.int .i64 v]=some (.tuple [.int .i64 z,.bool fb],st.u)/\p=(.tuple [],vJ st to z)
def zc(st:VS)(rest:List AV)(p:AV×VS):Prop:=∃(a:MN) (kind to:Int) (ea eb:Ex) (body other:List St) (v z:Int) (u':AV),bE 10 st=true/\sw st a/\rest=[.agg<|aL<|.mk kind to ea eb body other]/\vR nL st [.agg<|aB ea]=some (.int .i64 v)/\vR jo st [.agg<|aB eb]=some (.int .i64 z)/\iK (gV bJ Gb) st.u [.int .i64 v,.int .i64 z]=some ((.int .i64 0:AV),u')/\p=(.tuple [],aiD st u')
theorem Ob{k t k' t':Int}{a b a' b':Ex}{l m l' m':List St}(h:([.agg<|aL<|.mk k t a b l m]:List AV)=[.agg<|aL<|.mk k' t' a' b' l' m']):St.mk k t a b l m= .mk k' t' a' b' l' m':=by simp only[List.cons.injEq,AV.agg.injEq,_root_.and_true] at h;exact MK _ _ h
theorem zI.bM(st:VS)(rest:List AV)(v v':AV×VS)(h:zI st rest v)(h':zI st rest v'):v=v':=by
 obtain⟨a,k,t,ea,eb,l,m,z,_,_,rfl,_,_,h1,rfl⟩:=h;obtain⟨a',k',t',Yp,Yq,l',m',z',_,_,k0,_,_,k1,rfl⟩:=h';have e:=Ob k0;injection e with e1 e2 e3 e4 e5 e6
 subst e2;subst e3;rw[h1] at k1;simp only[Option.some.injEq,AV.int.injEq,true_and] at k1;rw[k1]
theorem zu.bM(st:VS)(rest:List AV)(v v':AV×VS)(h:zu st rest v)(h':zu st rest v'):v=v':=by
 obtain⟨a,k,t,ea,eb,l,m,x,z,fb,_,_,rfl,_,_,h1,h2,rfl⟩:=h;obtain⟨a',k',t',Yp,Yq,l',m',x',z',fb',_,_,k0,_,_,k1,k2,rfl⟩:=h';have e:=Ob k0;injection e with e1 e2 e3 e4 e5 e6
 subst e2;subst e3;rw[h1] at k1;simp only[Option.some.injEq,AV.int.injEq,true_and] at k1;subst k1;rw[h2] at k2;simp only[Option.some.injEq,Prod.mk.injEq,AV.tuple.injEq,List.cons.injEq,AV.int.injEq,true_and,_root_.and_true] at k2;rw[k2.1]
theorem zc.bM(st:VS)(rest:List AV)(v v':AV×VS)(h:zc st rest v)(h':zc st rest v'):v=v':=by
 obtain⟨a,k,t,ea,eb,l,m,x,z,u,_,_,rfl,h1,h2,h3,rfl⟩:=h;obtain⟨a',k',t',Yp,Yq,l',m',x',z',u',_,_,k0,k1,k2,k3,rfl⟩:=h';have e:=Ob k0;injection e with e1 e2 e3 e4 e5 e6
 subst e3;subst e4;rw[h1] at k1;rw[h2] at k2;simp only[Option.some.injEq,AV.int.injEq,true_and] at k1 k2;subst k1;subst k2;rw[h3] at k3;simp only[Option.some.injEq,Prod.mk.injEq,true_and] at k3;rw[k3]
def P8:FuncId×KE:=(32,.raw<|nf 10 3<|dJ zI)
def Pw:FuncId×KE:=(33,.raw<|nf 10 3<|dJ zu)
def OE:FuncId×KE:=(34,.raw<|nf 10 3<|dJ zc)
theorem qh(e:Ex):([AV.agg<|aB e]:List AV).all AV.hi=true:=by rw[List.all_cons,Bn];rfl
theorem ad6(hP:bS pg)(h:aX L):aX<|P8::L:=by
 refine Iu hP gT ye jT jq mr lY h (C0 hP de) Tryz.func32 (body:=aQ pg 32 []) aU aU fun st rest y aW e=>?_;obtain⟨a,kind,to,⟨op,n,l⟩,⟨aE,n2,l2⟩,body,other,z,ho,⟨h1,h2,h3⟩,rfl,h0,h8,hz,hp⟩:=IU e;injection hp with ja fe
 subst ja;subst fe;refine⟨aK.1 aU,fun B mc=>?_⟩;have hA:=qh<|.mk op n l;obtain⟨⟨pre,len,cap,post⟩,u,row⟩:=st;simp only at h1 h2;subst h1;subst h2;rw[aB] at hz hA;rw[aL,aB,aB];exact ahh mc ho h0 h8 hA hz
theorem acy(hP:bS pg)(h:aX L):aX<|Pw::L:=by
 refine Iu hP gT ye jT jq mr lY h (FA hP<|It hP de) Tryz.func33 (body:=aQ pg 33 []) aU aU fun st rest y aW e=>?_;obtain⟨a,kind,to,⟨op,n,l⟩,⟨aE,n2,l2⟩,body,other,v,z,fb,ho,⟨h1,h2,h3⟩,rfl,h0,h8,hv,hg,hp⟩:=IU e;injection hp with ja fe
 subst ja;subst fe;refine⟨aK.1 aU,fun B mc=>?_⟩;have hA:=qh<|.mk op n l;obtain⟨⟨pre,len,cap,post⟩,u,row⟩:=st;simp only at h1 h2;subst h1;subst h2;rw[aB] at hv hA;rw[aL,aB,aB];exact afF mc ho h0 h8 hA hv hg
theorem abl(hP:bS pg)(h:aX L):aX<|OE::L:=by
 refine Iu hP gT ye jT jq mr lY h (FA hP<|C0 hP<|acr hP de) Tryz.func34 (body:=aQ pg 34 []) aU aU fun st rest y aW e=>?_;obtain⟨a,kind,to,⟨op,n,l⟩,⟨aE,n2,l2⟩,body,other,v,z,u',ho,⟨h1,h2,h3⟩,rfl,hv,hz,hq,hp⟩:=IU e;injection hp with ja fe
 subst ja;subst fe;refine⟨aK.1 aU,fun B mc=>?_⟩;have hA:=qh<|.mk op n l;have hB:=qh<|.mk aE n2 l2;obtain⟨⟨pre,len,cap,post⟩,u,row⟩:=st;simp only at h1 h2;subst h1;subst h2;rw[aB] at hv hA hz hB;rw[aL,aB,aB];exact ad5 mc ho hA hB hv hz hq
end
end iC
end
section
open Go Go.Rn Go.RowKit Go.Proofs
namespace iV
open cj eR cH dq cU dm fY fF gJ gQ gW gm hZ iB iC gk
variable {uz:VS} {u' u:AV} {fs:List Fr} {c:Nat} {a:MN} {B:aI}
noncomputable section
def av(l:List Fr)(z:Int):Fr:=l.getD z.toNat default
theorem jg{l:List Fr}{z:Int}(h0:0<=z)(h:z<(l.length:Int)):l[z.toNat]? =some (av l z):=by
 have hz:z.toNat<l.length:=by omega
 unfold av;rw[List.getD_eq_getElem?_getD,List.getElem?_eq_getElem hz];rfl
theorem MU:fL<=273:=aK.1 aU
theorem Px{st:VS}{y Y:AV}{s:AS}(h:uz=st)(e:Y=y)(h1:s.h.get 270=some (bT<|dQ st.R 271 272))(h2:s.h.get 271=some (.tok 3 st.u))(h3:s.h.get 272=some (bT st.row)):Y=y/\∀m o,(m,o)∈dD 270 3 uz->s.h.get m=some o:=by subst h;exact mN e h1 h2 h3
noncomputable abbrev Dc(a:MN)(n c:Nat)(u:AV)(fs:List Fr):List<|Nat×Option ae:=ak++[(270,some<|.cells 13 (Tr.fill (a.row (.ptr<|some (271,0)) (.slice (some (272,0)) (n)<|.aq c 13)<|i6 a.steps) 0 .nil) []),(271,(some<|.tok 3 u)),(272,(some<|aD aH<|fs.set ((n:Int) - 1).toNat ({(av fs<|(n:Int) - 1) with ar:=0,turns:=((av fs<|(n:Int) - 1).turns - 1)}:Fr)))]
noncomputable abbrev Bg(a:MN)(n c:Nat)(u:AV)(fs:List Fr):VS:=(⟨⟨a.pre,n,(.aq c 13),[.int .i64 a.steps]⟩,u,((fs.set ((n:Int) - 1).toNat ({(av fs<|(n:Int) - 1) with ar:=0,turns:=((av fs<|(n:Int) - 1).turns - 1)}:Fr)).map aH).flatten⟩:VS)
noncomputable abbrev FT(a:MN)(n c:Nat)(u:AV)(fs:List Fr):List<|Nat×Option ae:=ak++[(270,some<|.cells 13 (Tr.fill (a.row (.ptr<|some (271,0)) (.slice (some (272,0)) ((((n:Int) - 1)).toNat)<|.aq c 13)<|i6 a.steps) 0 .nil) []),(271,(some<|.tok 3 u)),(272,(some<|aD aH fs))]
noncomputable abbrev FV(a:MN)(n c:Nat)(u':AV)(fs:List Fr):List<|Nat×Option ae:=ak++[(270,some<|.cells 13 (Tr.fill (a.row (.ptr<|some (271,0)) (.slice (some (272,0)) ((((n:Int) - 1)).toNat)<|.aq c 13)<|i6 a.steps) 0 .nil) []),(271,(some<|.tok 3 u')),(272,(some<|aD aH fs))]
noncomputable abbrev FW(a:MN)(n c:Nat)(u:AV)(fs:List Fr):List<|Nat×Option ae:=ak++[(270,some<|.cells 13 (Tr.fill (a.row (.ptr<|some (271,0)) (.slice (some (272,0)) (n)<|.aq c 13)<|i6 a.steps) 0 .nil) []),(271,(some<|.tok 3 u)),(272,(some<|aD aH fs))]
noncomputable abbrev vh(a:MN)(n c:Nat)(u:AV)(fs:List Fr):VS:=(⟨⟨a.pre,n,(.aq c 13),[.int .i64 a.steps]⟩,u,(fs.map aH).flatten⟩:VS)
noncomputable abbrev FX(a:MN)(n c:Nat)(u:AV)(fs:List Fr):AS:=ah (ak++aY (dD 270 3 (⟨⟨a.pre,((n:Int) - 1).toNat,(.aq c 13),[.int .i64 a.steps]⟩,u,(fs.map aH).flatten⟩:VS))) 273
noncomputable abbrev FY(a:MN)(n c:Nat)(u':AV)(fs:List Fr):AS:=ah (ak++aY (dD 270 3 (⟨⟨a.pre,((n:Int) - 1).toNat,(.aq c 13),[.int .i64 a.steps]⟩,u',(fs.map aH).flatten⟩:VS))) 273
noncomputable abbrev OF(fs:List Fr)(n:Nat):Fr:=({(av fs<|(n:Int) - 1) with ar:=(av fs<|(n:Int) - 1).ar,turns:=((av fs<|(n:Int) - 1).turns - 1)}:Fr)
theorem DF{n:Nat}(mc:Mt [CZ] B)(hn:n<=fs.length)(hc:n<=c)(hf:fs.length<=1000000)(hR:fs.length*13<=top)(ax:0<=(av fs<|(n:Int) - 1).turns/\(av fs<|(n:Int) - 1).turns<=1000000)(hm:(0<(n:Int)/\¬((av fs<|(n:Int) - 1).ar<(((av fs<|(n:Int) - 1).block.length:Nat):Int))/\¬(0<(av fs<|(n:Int) - 1).turns)/\(av fs<|(n:Int) - 1).bY=true)->iK (gV bJ IS) u []=some ((.int .i64 0:AV),u'))(E0:¬(0<(n:Int))->uz=(vh a n c u fs))(E1:0<(n:Int)->(av fs<|(n:Int) - 1).ar<(((av fs<|(n:Int) - 1).block.length:Nat):Int)->uz=(vh a n c u fs))(E2:0<(n:Int)->¬((av fs<|(n:Int) - 1).ar<(((av fs<|(n:Int) - 1).block.length:Nat):Int))->0<(av fs<|(n:Int) - 1).turns->0<(((av fs<|(n:Int) - 1).block.length:Nat):Int)->uz=(Bg a n c u fs))(H1:(0<(n:Int)/\¬((av fs<|(n:Int) - 1).ar<(((av fs<|(n:Int) - 1).block.length:Nat):Int))/\0<(av fs<|(n:Int) - 1).turns/\¬(0<(((av fs<|(n:Int) - 1).block.length:Nat):Int)))->au pg B 273 (gX 270 3 pg (az Tryz.f40) (.tuple []) uz) (⟨40,aC [(0,.ptr<|some (270,0))],(max Tryz.f40.ntmps 1),[.code<|aQ pg 40 [0,0],.inLoop<|aQ pg 40 [0,0],.inBlock 0],[],none⟩:AF) (ah (ak++aY (dD 270 3<|Bg a n c u fs)) 273))(H2:(0<(n:Int)/\¬((av fs<|(n:Int) - 1).ar<(((av fs<|(n:Int) - 1).block.length:Nat):Int))/\¬(0<(av fs<|(n:Int) - 1).turns)/\(av fs<|(n:Int) - 1).bY=true)->au pg B 273 (gX 270 3 pg (az Tryz.f40) (.tuple []) uz) (⟨40,aC [(0,.ptr<|some (270,0))],(max Tryz.f40.ntmps 1),[.code<|aQ pg 40 [0,0],.inLoop<|aQ pg 40 [0,0],.inBlock 0],[],none⟩:AF) (FY a n c u' fs))(H3:(0<(n:Int)/\¬((av fs<|(n:Int) - 1).ar<(((av fs<|(n:Int) - 1).block.length:Nat):Int))/\¬(0<(av fs<|(n:Int) - 1).turns)/\(av fs<|(n:Int) - 1).bY=false)->au pg B 273 (gX 270 3 pg (az Tryz.f40) (.tuple []) uz) (⟨40,aC [(0,.ptr<|some (270,0))],(max Tryz.f40.ntmps 1),[.code<|aQ pg 40 [0,0],.inLoop<|aQ pg 40 [0,0],.inBlock 0],[],none⟩:AF) (FX a n c u fs)):au pg B 273 (gX 270 3 pg (az Tryz.f40) (.tuple []) uz) (⟨40,aC [(0,.ptr<|some (270,0))],(max Tryz.f40.ntmps 1),[.code<|aQ pg 40 [0,0],.inLoop<|aQ pg 40 [0,0],.inBlock 0],[],none⟩:AF)<|ah (ak++aY (dD 270 3<|vh a n c u fs)) 273:=by
 exact wp_cut (E:=qT [CZ]) (C:=(fun fr s1 _=>fr=(⟨40,aC [(0,.ptr<|some (270,0))],(max Tryz.f40.ntmps 1),[.code<|aQ pg 40 [0,0],.inLoop<|aQ pg 40 [0,0],.inBlock 0],[],none⟩:AF)/\(((0<(n:Int)/\¬((av fs<|(n:Int) - 1).ar<(((av fs<|(n:Int) - 1).block.length:Nat):Int))/\0<(av fs<|(n:Int) - 1).turns/\¬(0<(((av fs<|(n:Int) - 1).block.length:Nat):Int)))/\s1=(ah (ak++aY (dD 270 3<|Bg a n c u fs)) 273))\/((0<(n:Int)/\¬((av fs<|(n:Int) - 1).ar<(((av fs<|(n:Int) - 1).block.length:Nat):Int))/\¬(0<(av fs<|(n:Int) - 1).turns)/\(av fs<|(n:Int) - 1).bY=true)/\s1=(FY a n c u' fs))\/((0<(n:Int)/\¬((av fs<|(n:Int) - 1).ar<(((av fs<|(n:Int) - 1).block.length:Nat):Int))/\¬(0<(av fs<|(n:Int) - 1).turns)/\(av fs<|(n:Int) - 1).bY=false)/\s1=(FX a n c u fs))))) eT rfl bI mc.2.2.1 mc.2.2.2 MU rfl mc.1 (fun fr s1 p hC=>by
  obtain⟨rfl,hC⟩:=hC;rcases hC with⟨h,rfl⟩|⟨h,rfl⟩|⟨h,rfl⟩
  ·exact H1 h
  ·exact H2 h
  ·exact H3 h) 900 (.st 2<|.rg<|.go 5<|.fk (.en<|.st 4<|.rg<|.go 9<|.vl (i6<|(n:Int) - 1)<|.ix<|.go 1<|.en<|.st 3<|.rg<|.go 3<|.ld [(i6<|(av fs<|(n:Int) - 1).ar)]<|.go 3<|.ld [(.U (nm ((av fs<|(n:Int) - 1).block.map aL).flatten) 0 (av fs<|(n:Int) - 1).block.length)]<|.go 1<|.fk (.go 1<|.en<|.rt 2 .no)<|.go 1<|.en<|.st 2<|.rg<|.go 3<|.ld [(i6<|(av fs<|(n:Int) - 1).turns)]<|.fk (.go 1<|.en<|.st 2<|.rg<|.go 5<|.ld [(i6<|(av fs<|(n:Int) - 1).turns)]<|.vl (i6<|(av fs<|(n:Int) - 1).turns - 1)<|.go 2<|.np (aD aH<|fs.set ((n:Int) - 1).toNat<|OF fs n)<|.go 2<|.np (aD aH<|fs.set ((n:Int) - 1).toNat ({(av fs<|(n:Int) - 1) with ar:=0,turns:=((av fs<|(n:Int) - 1).turns - 1)}:Fr))<|.en<|.st 2<|.rg<|.go 3<|.ld [(.U (nm ((av fs<|(n:Int) - 1).block.map aL).flatten) 0 (av fs<|(n:Int) - 1).block.length)]<|.go 1<|.fk (.en<|.rt 2 .no)<|.en<|.st 4<|.ls [(0,.ptr<|some (270,0))] (Dc a n c u fs) 273 .no)<|.go 1<|.en<|.st 2<|.rg<|.go 3<|.XM ((av fs<|(n:Int) - 1).bY) (.go 1<|.en<|.st 1<|.rg<|.go 4<|.kt i0 u'<|.en<|.st 1<|.rg<|.go 10<|.vl (i6<|(n:Int) - 1)<|.so<|.go 3<|.en<|.st 2<|.ls [(0,.ptr<|some (270,0))] (FV a n c u' fs) 273 .no)<|.go 1<|.en<|.st 3<|.rg<|.go 10<|.vl (i6<|(n:Int) - 1)<|.so<|.go 3<|.en<|.st 2<|.ls [(0,.ptr<|some (270,0))] (FT a n c u fs) 273 .no)<|.en<|.rt 3 .no)
  (aT ((n:Int)>0) (fun _=>(ai (wI<|(n:Int) - 1)
  (dU ((n:Int) - 1) (n:Int)
  (ai (mD fB hR (jg (l:=fs) (z:=((n:Int) - 1)) ab ab) 1 1 rfl)
  (ai (mD fB hR (jg (l:=fs) (z:=((n:Int) - 1)) ab ab) 0 1 rfl)
  (aT ((av fs<|(n:Int) - 1).ar<(((av fs<|(n:Int) - 1).block.length:Nat):Int)) (fun _=>(Px (st:=(vh a n c u fs)) (s:=ah (FW a n c u fs) 273) (E1 ab ab) (show((.tuple []):AV)= .tuple [] from rfl) bW bW bW))
  (fun _=>(ai (mD fB hR (jg (l:=fs) (z:=((n:Int) - 1)) ab ab) 2 1 rfl)
  (aT ((av fs<|(n:Int) - 1).turns>0) (fun _=>(ai (mD fB hR (jg (l:=fs) (z:=((n:Int) - 1)) ab ab) 2 1 rfl)
  (ai (wI<|(av fs<|(n:Int) - 1).turns - 1)
  (ai (ru fB hR (jg (l:=fs) (z:=((n:Int) - 1)) ab ab) (c':=(OF fs n)) (r:=[(i6<|((av fs<|(n:Int) - 1).turns - 1))]) 2 rfl rfl rfl)
  (ai (adi fB hR (jg (l:=fs) (z:=((n:Int) - 1)) ab ab) (c:=(OF fs n)) (c':=({(av fs<|(n:Int) - 1) with ar:=0,turns:=((av fs<|(n:Int) - 1).turns - 1)}:Fr)) (r:=[i0]) 1 rfl rfl rfl)
  (ai (adh fB hR (jg (l:=fs) (z:=((n:Int) - 1)) ab ab) (c:=({(av fs<|(n:Int) - 1) with ar:=0,turns:=((av fs<|(n:Int) - 1).turns - 1)}:Fr)) 0 1 rfl)
  (aT ((((av fs<|(n:Int) - 1).block.length:Nat):Int)>0) (fun _=>(Px (st:=(Bg a n c u fs)) (s:=ah (Dc a n c u fs) 273) (E2 ab ab ab ab) (show((.tuple []):AV)= .tuple [] from rfl) bW bW bW))
  (fun _=>(ai (mS [(0,.ptr<|some (270,0))])<|ai (mO<|Dc a n c u fs)<|ai (rX (⟨40,aC [(0,.ptr<|some (270,0))],(max Tryz.f40.ntmps 1),[.code<|aQ pg 40 [0,0],.inLoop<|aQ pg 40 [0,0],.inBlock 0],[],none⟩:AF)) (show((0<(n:Int)/\¬((av fs<|(n:Int) - 1).ar<(((av fs<|(n:Int) - 1).block.length:Nat):Int))/\0<(av fs<|(n:Int) - 1).turns/\¬(0<(((av fs<|(n:Int) - 1).block.length:Nat):Int)))/\(ah (Dc a n c u fs) 273)=(ah (ak++aY (dD 270 3<|Bg a n c u fs)) 273))\/((0<(n:Int)/\¬((av fs<|(n:Int) - 1).ar<(((av fs<|(n:Int) - 1).block.length:Nat):Int))/\¬(0<(av fs<|(n:Int) - 1).turns)/\(av fs<|(n:Int) - 1).bY=true)/\(ah (Dc a n c u fs) 273)=(FY a n c u' fs))\/((0<(n:Int)/\¬((av fs<|(n:Int) - 1).ar<(((av fs<|(n:Int) - 1).block.length:Nat):Int))/\¬(0<(av fs<|(n:Int) - 1).turns)/\(av fs<|(n:Int) - 1).bY=false)/\(ah (Dc a n c u fs) 273)=(FX a n c u fs)) from Or.inl<|ai (show(0<(n:Int)/\¬((av fs<|(n:Int) - 1).ar<(((av fs<|(n:Int) - 1).block.length:Nat):Int))/\0<(av fs<|(n:Int) - 1).turns/\¬(0<(((av fs<|(n:Int) - 1).block.length:Nat):Int))) from⟨by omega,by omega,by omega,by omega⟩) bW))))))))))
  (fun _=>(ai (mD fB hR (jg (l:=fs) (z:=((n:Int) - 1)) ab ab) 3 1 rfl) (tfb ((av fs<|(n:Int) - 1).bY) (fun h5=>(ai (hm ⟨by omega,by omega,by omega,h5⟩)
  (ai (wI<|(n:Int) - 1)
  (ai (show(0:Int)=0 from rfl)<|ai (show 0<=((n:Int) - 1) from ab) (ai (show((n:Int) - 1)<=Int.ofNat (jd n<|.aq c 13) from(show((n:Int) - 1)<=(c:Int) from by omega))
  (ai (mS [(0,.ptr<|some (270,0))])<|ai (mO<|FV a n c u' fs)<|ai (rX (⟨40,aC [(0,.ptr<|some (270,0))],(max Tryz.f40.ntmps 1),[.code<|aQ pg 40 [0,0],.inLoop<|aQ pg 40 [0,0],.inBlock 0],[],none⟩:AF)) (show((0<(n:Int)/\¬((av fs<|(n:Int) - 1).ar<(((av fs<|(n:Int) - 1).block.length:Nat):Int))/\0<(av fs<|(n:Int) - 1).turns/\¬(0<(((av fs<|(n:Int) - 1).block.length:Nat):Int)))/\(ah (FV a n c u' fs) 273)=(ah (ak++aY (dD 270 3<|Bg a n c u fs)) 273))\/((0<(n:Int)/\¬((av fs<|(n:Int) - 1).ar<(((av fs<|(n:Int) - 1).block.length:Nat):Int))/\¬(0<(av fs<|(n:Int) - 1).turns)/\(av fs<|(n:Int) - 1).bY=true)/\(ah (FV a n c u' fs) 273)=(FY a n c u' fs))\/((0<(n:Int)/\¬((av fs<|(n:Int) - 1).ar<(((av fs<|(n:Int) - 1).block.length:Nat):Int))/\¬(0<(av fs<|(n:Int) - 1).turns)/\(av fs<|(n:Int) - 1).bY=false)/\(ah (FV a n c u' fs) 273)=(FX a n c u fs)) from Or.inr<|Or.inl<|ai (show(0<(n:Int)/\¬((av fs<|(n:Int) - 1).ar<(((av fs<|(n:Int) - 1).block.length:Nat):Int))/\¬(0<(av fs<|(n:Int) - 1).turns)/\(av fs<|(n:Int) - 1).bY=true) from⟨by omega,by omega,by omega,h5⟩) bW)))))))
  (fun h5=>(ai (wI<|(n:Int) - 1)
  (ai (show(0:Int)=0 from rfl)<|ai (show 0<=((n:Int) - 1) from ab) (ai (show((n:Int) - 1)<=Int.ofNat (jd n<|.aq c 13) from(show((n:Int) - 1)<=(c:Int) from by omega))
  (ai (mS [(0,.ptr<|some (270,0))])<|ai (mO<|FT a n c u fs)<|ai (rX (⟨40,aC [(0,.ptr<|some (270,0))],(max Tryz.f40.ntmps 1),[.code<|aQ pg 40 [0,0],.inLoop<|aQ pg 40 [0,0],.inBlock 0],[],none⟩:AF)) (show((0<(n:Int)/\¬((av fs<|(n:Int) - 1).ar<(((av fs<|(n:Int) - 1).block.length:Nat):Int))/\0<(av fs<|(n:Int) - 1).turns/\¬(0<(((av fs<|(n:Int) - 1).block.length:Nat):Int)))/\(ah (FT a n c u fs) 273)=(ah (ak++aY (dD 270 3<|Bg a n c u fs)) 273))\/((0<(n:Int)/\¬((av fs<|(n:Int) - 1).ar<(((av fs<|(n:Int) - 1).block.length:Nat):Int))/\¬(0<(av fs<|(n:Int) - 1).turns)/\(av fs<|(n:Int) - 1).bY=true)/\(ah (FT a n c u fs) 273)=(FY a n c u' fs))\/((0<(n:Int)/\¬((av fs<|(n:Int) - 1).ar<(((av fs<|(n:Int) - 1).block.length:Nat):Int))/\¬(0<(av fs<|(n:Int) - 1).turns)/\(av fs<|(n:Int) - 1).bY=false)/\(ah (FT a n c u fs) 273)=(FX a n c u fs)) from Or.inr<|Or.inr<|ai (show(0<(n:Int)/\¬((av fs<|(n:Int) - 1).ar<(((av fs<|(n:Int) - 1).block.length:Nat):Int))/\¬(0<(av fs<|(n:Int) - 1).turns)/\(av fs<|(n:Int) - 1).bY=false) from⟨by omega,by omega,by omega,h5⟩) bW))))))))))))))))))
  (fun _=>(Px (st:=(vh a n c u fs)) (s:=ah (FW a n c u fs) 273) (E0 ab) (show((.tuple []):AV)= .tuple [] from rfl) bW bW bW)))
abbrev frS:AF:=(⟨40,aC [(0,.ptr<|some (270,0))],(max Tryz.f40.ntmps 1),[.code<|aQ pg 40 [0,0],.inLoop<|aQ pg 40 [0,0],.inBlock 0],[],none⟩:AF)
abbrev Yr(a:MN)(n c:Nat)(u:AV)(fs:List Fr):VS:=(vh a n c u fs)
theorem afG{n:Nat}{u':AV}(mc:Mt [CZ] B)(H:au pg B 273 (gX 270 3 pg (az Tryz.f40) (.tuple []) uz) (⟨40,aC [(0,.ptr<|some (270,0))],(max Tryz.f40.ntmps 1),[.code<|aQ pg 40 [0,0],.inLoop<|aQ pg 40 [0,0],.inBlock 0],[],none⟩:AF)<|ah (ak++aY (dD 270 3<|vh a n c u fs)) 273):au pg B 273 (gX 270 3 pg (az Tryz.f40) (.tuple []) uz) (sF 40 Tryz.f40 [.ptr<|some (270,0)])<|ah (ak++aY (dD 270 3<|vh a n c u fs)) 273:=by
 exact wp_cut (E:=qT [CZ]) (C:=(fun fr s1 _=>fr=(⟨40,aC [(0,.ptr<|some (270,0))],(max Tryz.f40.ntmps 1),[.code<|aQ pg 40 [0,0],.inLoop<|aQ pg 40 [0,0],.inBlock 0],[],none⟩:AF)/\s1=(ah (ak++aY (dD 270 3<|vh a n c u fs)) 273))) eT rfl bI mc.2.2.1 mc.2.2.2 MU rfl mc.1 (fun fr s1 p hC=>by
  obtain⟨rfl,rfl⟩:=hC;exact H) 900 (.st 2<|.ls [(0,.ptr<|some (270,0))] (FW a n c u fs) 273 .no)
  (ai (mS [(0,.ptr<|some (270,0))])<|ai (mO<|FW a n c u fs)<|ai (rX (⟨40,aC [(0,.ptr<|some (270,0))],(max Tryz.f40.ntmps 1),[.code<|aQ pg 40 [0,0],.inLoop<|aQ pg 40 [0,0],.inBlock 0],[],none⟩:AF)) (show(ah (FW a n c u fs) 273)=(ah (ak++aY (dD 270 3<|vh a n c u fs)) 273) from bW))
end
end iV
end
section
open Go Go.Rn Go.RowKit Go.Proofs
namespace jh
open cj eR cH dq cU dm fY fF gJ gQ gW gm hZ iB iC iV gk
variable {fs:List Fr}
def oo:Nat->Nat->List Fr->bf->Option (Nat×List Fr×bf)
  |0,_,_,_=>none
  | k +1,n,fs,b=>if n=0 then some (n,fs,b) else
    let f:=av fs<|(n:Int) - 1
    if f.ar<(f.block.length:Int) then some (n,fs,b)
    else if 0<f.turns then
      let cY:=fs.set ((n:Int) - 1).toNat {f with ar:=0,turns:=f.turns - 1}
      if 0<(f.block.length:Int) then some (n,cY,b) else oo k n cY b
    else if f.bY=true then(if 2<=b.length then oo k ((n:Int) - 1).toNat fs (gd b) else none)
    else oo k ((n:Int) - 1).toNat fs b
def iq(fs:List Fr):Prop:=∀f∈fs,(0<=f.turns/\f.turns<=1000000)/\f.kept.length=8
theorem iq.at(h:iq fs)(z:Int):0<=(av fs z).turns/\(av fs z).turns<=1000000:=by
 unfold av;by_cases q:z.toNat<fs.length
 ·rw[List.getD_eq_getElem?_getD,List.getElem?_eq_getElem q];exact(h _<|List.getElem_mem q).1
 ·rw[List.getD_eq_getElem?_getD,List.getElem?_eq_none ab];show(0:Int)<=0/\(0:Int)<=1000000;omega
theorem iq.kept(h:iq fs){z:Int}(h0:0<=z)(hz:z<(fs.length:Int)):(av fs z).kept.length=8:=(h _<|List.mem_of_getElem?<|jg h0 hz).2
theorem iq.set(h:iq fs){i:Nat}{f:Fr}(hf:(0<=f.turns/\f.turns<=1000000)/\f.kept.length=8):iq<|fs.set i f:=fun g hg=>by
 rcases List.mem_or_eq_of_mem_set hg with q|q
 ·exact h g q
 ·rw[q];exact hf
theorem Mj{b:bf}(h:dj b)(h2:2<=b.length):iK (gV bJ IS) (bJ b) []=some ((.int .i64 0:AV),bJ<|gd b):=by
 unfold iK;rw[AP sM];show(match ([]:List AV).all AV.hi with
  |true=>((if 2<=List.length b then some ((AV.int .i64 0:AV),gd b) else none).map (fun p:AV×bf=>((p.1,bJ p.2):AV×AV))).bind fun p:AV×AV=>match p.1.hi with
   |true=>some p
   |false=>none
  |false=>none)=_
 rw[if_pos h2];rfl
theorem HM{B:aI}(mc:Mt [CZ] B){a:MN}{c:Nat}{n':Nat}{cY:List Fr}{b':bf}:∀(k n:Nat) (fs:List Fr) (b:bf),oo k n fs b=some (n',cY,b')->dj b->iq fs->n<=fs.length->n<=c->fs.length<=1000000->
 au pg B 273 (gX 270 3 pg (az Tryz.f40) (.tuple [])<|Yr a n' c (bJ b') cY) frS (ah (ak++aY (dD 270 3<|Yr a n c (bJ b) fs)) 273)
 |0,n,fs,b,h,_,_,_,_,_=>by cases h
 |k+1,n,fs,b,h,hb,hf,hn,hc,hl=>by
  unfold oo at h;have ax:=hf.at<|(n:Int) - 1;have Gl:n≠0->∀f:Fr,f={av fs ((n:Int) - 1) with ar:=0,turns:=(av fs<|(n:Int) - 1).turns - 1}->0<(av fs<|(n:Int) - 1).turns->iq (fs.set ((n:Int) - 1).toNat f):=fun oX f e h0=>hf.set (by subst e;refine⟨?_,hf.kept (z:=(n:Int) - 1) ab ab⟩;show 0<=(av fs<|(n:Int) - 1).turns - 1/\(av fs<|(n:Int) - 1).turns - 1<=1000000;omega);by_cases n0:n=0
  ·rw[if_pos n0] at h;injection h with h;injection h with e1 h;injection h with e2 e3
   subst e1;subst e2;subst e3;exact DF (u':=.tuple []) mc hn hc hl (by have:top=549755813888:=rfl;omega) ax (fun q=>absurd q.1 ab) (fun _=>rfl) (fun _ _=>rfl) (fun q _ _ _=>absurd q ab) (fun q=>absurd q.1 ab) (fun q=>absurd q.1 ab) fun q=>absurd q.1 ab
  ·rw[if_neg n0] at h;simp only at h;have hz:((n:Int) - 1).toNat<=n:=by omega
   have hr:fs.length*13<=top:=by have:top=549755813888:=rfl;omega
   by_cases a1:(av fs<|(n:Int) - 1).ar<(((av fs<|(n:Int) - 1).block.length:Nat):Int)
   ·rw[if_pos a1] at h;injection h with h;injection h with e1 h;injection h with e2 e3
    subst e1;subst e2;subst e3;exact DF (u':=.tuple []) mc hn hc hl hr ax (fun q=>absurd a1 q.2.1) (fun _=>rfl) (fun _ _=>rfl) (fun _ q _ _=>absurd a1 q) (fun q=>absurd a1 q.2.1) (fun q=>absurd a1 q.2.1) fun q=>absurd a1 q.2.1
   ·rw[if_neg a1] at h;by_cases a2:0<(av fs<|(n:Int) - 1).turns
    ·rw[if_pos a2] at h;by_cases a3:0<(((av fs<|(n:Int) - 1).block.length:Nat):Int)
     ·rw[if_pos a3] at h;injection h with h;injection h with e1 h;injection h with e2 e3
      subst e1;subst e2;subst e3;exact DF (u':=.tuple []) mc hn hc hl hr ax (fun q=>absurd a2 q.2.2.1) (fun q=>absurd q ab) (fun _ q=>absurd q a1) (fun _ _ _ _=>rfl) (fun q=>absurd a3 q.2.2.2) (fun q=>absurd a2 q.2.2.1) fun q=>absurd a2 q.2.2.1
     ·rw[if_neg a3] at h;have ih:=HM (c:=c) (a:=a) mc k n _ b h hb (Gl n0 _ rfl a2) (by rw[List.length_set];exact hn) hc (by rw[List.length_set];exact hl);exact DF (u':=.tuple []) mc hn hc hl hr ax (fun q=>absurd a2 q.2.2.1) (fun q=>absurd q ab) (fun _ q=>absurd q a1) (fun _ _ _ q=>absurd q a3) (fun _=>ih) (fun q=>absurd a2 q.2.2.1) fun q=>absurd a2 q.2.2.1
    ·rw[if_neg a2] at h;by_cases a4:(av fs<|(n:Int) - 1).bY=true
     ·rw[if_pos a4] at h;by_cases a5:2<=b.length
      ·rw[if_pos a5] at h;have ih:=HM (c:=c) (a:=a) mc k _ fs _ h (Ir hb a5) hf ab ab hl;exact DF (u':=bJ<|gd b) mc hn hc hl hr ax (fun _=>Mj hb a5) (fun q=>absurd q ab) (fun _ q=>absurd q a1) (fun _ _ q _=>absurd q a2) (fun q=>absurd q.2.2.1 a2) (fun _=>ih) (fun q=>by rw[a4] at q;cases q.2.2.2)
      ·rw[if_neg a5] at h;cases h
     ·rw[if_neg a4] at h;have ih:=HM (c:=c) (a:=a) mc k _ fs b h hb hf ab ab hl;exact DF (u':=.tuple []) mc hn hc hl hr ax (fun q=>absurd q.2.2.2 a4) (fun q=>absurd q ab) (fun _ q=>absurd q a1) (fun _ _ q _=>absurd q a2) (fun q=>absurd q.2.2.1 a2) (fun q=>absurd q.2.2.2 a4) fun _=>ih
theorem LR:∀(k m n:Nat) (fs:List Fr) (b:bf) (r:Nat×List Fr×bf),oo k n fs b=some r->k<=m->oo m n fs b=some r
 |0,_,_,_,_,_,h,_=>by cases h
 |k+1,0,_,_,_,_,_,hm=>by omega
 |k+1,m+1,n,fs,b,r,h,hm=>by
  have ih:=fun n fs b h=>LR k m n fs b r h ab;unfold oo at h ⊢;simp only at h ⊢;split at h
  ·rename_i q;rw[if_pos q];exact h
  ·rename_i q;rw[if_neg q];split at h
   ·rename_i q;rw[if_pos q];exact h
   ·rename_i q;rw[if_neg q];split at h
    ·rename_i q;rw[if_pos q];split at h
     ·rename_i q;rw[if_pos q];exact h
     ·rename_i q;rw[if_neg q];exact ih _ _ _ h
    ·rename_i q;rw[if_neg q];split at h
     ·rename_i q;rw[if_pos q];split at h
      ·rename_i q;rw[if_pos q];exact ih _ _ _ h
      ·cases h
     ·rename_i q;rw[if_neg q];exact ih _ _ _ h
theorem Jy:∀l:List Int,l.length=8->l=[l.getD 0 0,l.getD 1 0,l.getD 2 0,l.getD 3 0,l.getD 4 0,l.getD 5 0,l.getD 6 0,l.getD 7 0]
 |[a,b,c,d,e,f,g,h],_=>rfl
theorem abm(f g:Fr)(hf:f.kept.length=8)(hg:g.kept.length=8)(h:aH f=aH g):f=g:=by
 obtain⟨a1,a2,a3,a4,a5,a6⟩:=f;obtain⟨b1,b2,b3,b4,b5,b6⟩:=g;simp only[aH,eight,List.cons_append,List.nil_append,List.cons.injEq,AV.int.injEq,AV.bool.injEq,true_and,_root_.and_true] at h;obtain⟨h1,rfl,rfl,rfl,c0,c1,c2,c3,c4,c5,c6,c7,h6⟩:=h;rw[H4 h1,UN h6];have e:a5=b5:=by rw[Jy a5 hf,Jy b5 hg,c0,c1,c2,c3,c4,c5,c6,c7]
 rw[e]
theorem Fp:∀(l m:List Fr),iq l->iq m->(l.map aH).flatten=(m.map aH).flatten->l=m
 |[],[],_,_,_=>rfl
 |[],y::m,_,_,h=>by have:=congrArg List.length h;simp only[List.map_nil,List.flatten_nil,List.length_nil,List.map_cons,List.flatten_cons,List.length_append,fB] at this;omega
 |x::l,[],_,_,h=>by have:=congrArg List.length h;simp only[List.map_nil,List.flatten_nil,List.length_nil,List.map_cons,List.flatten_cons,List.length_append,fB] at this;omega
 |x::l,y::m,hl,hm,h=>by rw[List.map_cons,List.map_cons,List.flatten_cons,List.flatten_cons] at h;obtain⟨e1,e2⟩:=List.append_inj h (by rw[fB,fB]);rw[abm x y (hl x List.mem_cons_self).2 (hm y List.mem_cons_self).2 e1,Fp l m (fun f hf=>hl f<|List.mem_cons_of_mem _ hf) (fun f hf=>hm f<|List.mem_cons_of_mem _ hf) e2]
def eL(st:VS)(rest:List AV)(p:AV×VS):Prop:=∃(a:MN) (n c k n':Nat) (fs cY:List Fr) (b b':bf),sw st a/\rest=[]/\st.R.len=n/\st.R.cap= .aq c 13/\st.u=bJ b/\st.row=(fs.map aH).flatten/\dj b/\iq fs/\n<=fs.length/\n<=c/\fs.length<=1000000/\oo k n fs b=some (n',cY,b')/\p=(.tuple [],⟨⟨st.R.pre,n',.aq c 13,st.R.post⟩,bJ b',(cY.map aH).flatten⟩)
theorem eL.bM(st:VS)(rest:List AV)(v v':AV×VS)(h:eL st rest v)(h':eL st rest v'):v=v':=by
 obtain⟨a,n,c,k,n',fs,cY,b,b',_,_,e1,e2,e3,e4,_,f1,_,_,_,s1,rfl⟩:=h;obtain⟨a1,m,d,j,m',gs,gs',b1,XV,_,_,g1,g2,g3,g4,_,f2,_,_,_,s2,rfl⟩:=h';rw[e1] at g1;subst g1;rw[e2] at g2;injection g2 with g2
 subst g2;rw[e3] at g3;have e:=sM _ _ g3;subst e;rw[e4] at g4;have e:=Fp _ _ f1 f2 g4;subst e;have q1:=LR k (max k j) _ _ _ _ s1<|Nat.le_max_left _ _;have q2:=LR j (max k j) _ _ _ _ s2<|Nat.le_max_right _ _;rw[q1] at q2;injection q2 with q2;injection q2 with q2 q3;injection q3 with q3 q4
 rw[q2,q3,q4]
noncomputable def yV:FuncId×KE:=(40,.raw<|nf 10 3<|dJ eL)
theorem SE(hP:bS pg){L:bO}(h:aX L):aX<|yV::L:=by
 refine Iu hP gT ye jT jq mr lY h (aas hP<|de) Tryz.func40 (body:=aQ pg 40 []) aU aU fun st rest y aW e=>?_;obtain⟨a,n,c,k,n',fs,cY,b,b',⟨h1,h2,h3⟩,rfl,e1,e2,e3,e4,hb,hf,hn,hc,hl,hs,hp⟩:=IU e;injection hp with ja fe
 subst ja;subst fe;refine⟨aK.1 aU,fun B mc=>?_⟩;obtain⟨⟨pre,len,cap,post⟩,u,row⟩:=st;simp only at h1 h2 e1 e2 e3 e4;subst h1;subst h2;subst e1;subst e2;subst e3;subst e4;exact afG (u':=.tuple []) mc<|HM mc k _ fs b hs hb hf hn hc hl
end jh
end
section
open Go Go.Rn Go.RowKit Go.Proofs
namespace jY
open cj eR cH dq cU dm fY fF gJ gQ gW gm hZ iB iC iV jh gk tW
variable {j nt:Nat} {s:AS} {t:Tr AV} {T:Prop} {K:List Item}
noncomputable section
def Lu:Code:=aQ pg 29 [1,0,1,0,0]
def wA:Code:=aQ pg 29 [1,0,1,0,1]
def pc:List<|Nat×AV:=[(2,(.ptr<|some (273,0))),(9,(.func (.func 74) [] [(.ptr<|some (274,0))]))]
def KI:List Item:=[.inBlock 0,.code<|aQ pg 29 [1,1]]
def uA(st:LoopState)(p:Option Code):ae:=.loop st p 29 (aC pc) 15 [10,11] Lu wA 275
def oW(o0 o1 o2:ae)(r:Int)(sl:AV)(lo:ae)(js:List<|Nat×Option ae):List<|Nat×Option ae:=ak++([(270,some o0),(271,some o1),(272,some o2),(273,some<|.cells 1 (Tr.fill [.int .i64 r] 0 .nil) []),(274,some<|.cells 1 (Tr.fill [sl] 0 .nil) []),(275,some .defs),(276,some lo)]++js)
abbrev ky(L:bO):Env:=yd pg 270 dV dH L 270 false
def Py(P:Program)(YR:aJ)(rs:List ResultVar)(k l:Nat)(fr:AF)(s:AS):Option<|AV×Option ae×Option ae×Option ae:=match GF P YR rs k l fr s with
 |some (v,s2)=>some (v,s2.h.get 270,s2.h.get 271,s2.h.get 272)
 |none=>none
theorem abn{P:Program}{YR:aJ}{l:Nat}{B:aI}{J k:Nat}{rs:List ResultVar}{fr:AF}{v:AV}{R:AV->AS->Prop}{o0 o1 o2:ae}(bI:P.follows .mixedOrders=true)(hc:fT P B YR)(hl:∀t a,YQ<|YR t a)(h1:fr.round=none)(h2:fr.defers=[])(h:Py P YR rs k l fr s=some (v,some o0,some o1,some o2))(hR:∀s2:AS,s2.h.get 270=some o0->s2.h.get 271=some o1->s2.h.get 272=some o2->R v s2):GD P YR B J (Fin P rs R) l fr s:=by
 unfold Py at h;split at h
 ·rename_i v2 s2 e;injection h with h;injection h with h3 h;injection h with h4 h;injection h with h5 h6
  subst h3;exact Nn bI hc hl h1 h2 e<|hR _ h4 h5 h6
 ·cases h
abbrev bX(cs:List AV):Option ae:=some<|.cells 13 (Tr.fill cs 0 .nil) []
def Q1:List AV:=[.slice none 0<|.known 0,.int .i64 0,.int .i64 0,.bool false,.int .i64 0,.int .i64 0,.int .i64 0,.int .i64 0,.int .i64 0,.int .i64 0,.int .i64 0,.int .i64 0,.slice none 0<|.known 0]
theorem Xe(f:Fr):xI (bX Q1) 0 (aH f)=bX (aH f):=by have e:=MM f;show(match (Nat.ble (0+13) 13&&(Nat.ble 13 top&&(aH f).all AV.bR)) with|true=>some (ae.cells 13 (Tr.fill (aH f) 0<|Tr.fill Q1 0 .nil) [])|false=>none)=_;rw[e];kernel_rfl
def iG(fs:List Fr):Nat->Int
 |0=> -1
 |n+1=>if(av fs (n:Int)).bY=true then(n:Int) else iG fs n
theorem ahi{l:List Fr}{z:Int}{b:Bool}(h:(av l z).bY=b)(h0:0<=z)(h1:z<(l.length:Int)):l[z.toNat]? =some ({av l z with bY:=b}:Fr):=by subst h;exact jg h0 h1
def RW(B:aI)(R:AV->AS->Prop)(v:AV)(s:AS):Prop:=v= .tuple []/\∃p s4,lQ 276 s= .ok p s4/\au pg B 273 (Fin pg (az Tryz.f29) R) ⟨29,aC pc,15,andThen p KI,[275],none⟩ s4
def jsL(b:Nat->Option ae)(j:Nat):List<|Nat×Option ae:=(List.range j).map fun k=>(277+k,b k)
def BL(b:Nat->Option ae)(j:Nat)(o:Option ae)(k:Nat):Option ae:=match Nat.beq k j with
 |true=>o
 |false=>b k
def rI(t:Bool)(i:Int):Int:=match t with
 |true=>i
 |false=>0
def Q2(t:Bool):ae:=match t with
 |true=>uA .done<|some .ret
 |false=>uA .ready none
abbrev sJ(o0 o1 o2:ae)(r:Int)(sl:AV)(lo:ae)(b:Nat->Option ae)(j:Nat):AS:=ah (oW o0 o1 o2 r sl lo<|jsL b j)<|277+j
abbrev EF(i:Int)(cs:List AV)(m:Nat):Tr AV:=aC [(2,(.ptr<|some (273,0))),(3,(i6 i)),(4,(.ptr<|some (m,0))),(9,(.func (.func 74) [] [(.ptr<|some (274,0))])),(10,(i6 i)),(11,(.agg cs))]
section
variable {o0 o1 o2:ae} {sl:AV} {f:Fr} {i:Int} {b:Nat->Option ae} {B:aI} {R:AV->AS->Prop} {fs:List Fr} {n c:Nat} {d:Nat->AV}
abbrev sA(o0 o1 o2:ae)(sl:AV)(b:Nat->Option ae)(j:Nat):AS:=sJ o0 o1 o2 0 sl (uA .ready none) b j
abbrev sE(o0 o1 o2:ae)(sl:AV)(f:Fr)(i:Int)(b:Nat->Option ae)(t:Bool)(j:Nat):AS:=sJ o0 o1 o2 (rI t i) sl (Q2 t) (BL b j<|bX<|aH {f with bY:=t})<|j+1
abbrev P9(o0 o1 o2:ae)(sl:AV)(f:Fr)(i:Int)(b:Nat->Option ae)(t:Bool)(j:Nat):Prop:=aZ pg (sp []) FU 5 (.round 276) [.int .i64 i,.agg<|aH {f with bY:=t}] (sA o0 o1 o2 sl b j)= .ok (.bool !t) (sE o0 o1 o2 sl f i b t j)
theorem Qa(t:Bool)(j:Nat)(k1:getLoop 276 (sA o0 o1 o2 sl b j)= .ok (.loop .ready none 29 (aC pc) 15 [10,11] Lu wA 275) (sA o0 o1 o2 sl b j):=by as_aux_lemma=>kernel_rfl)(k2:((xI (bX Q1) 0 (aH {f with bY:=t})=bX (aH {f with bY:=t}))/\((⟨29,EF i (aH {f with bY:=t})<|277+j,15,[.beginRound,.code wA],[],none⟩:AF)=⟨29,EF i (aH {f with bY:=t})<|277+j,15,[.beginRound,.code wA],[],none⟩/\sJ o0 o1 o2 0 sl (uA .ready none) (BL b j<|bX<|aH {f with bY:=t}) (j+1)=sJ o0 o1 o2 0 sl (uA .ready none) (BL b j<|bX<|aH {f with bY:=t}) (j+1)))=
 wp (ky []) 900 4 (.fr 29 15 [.code Lu,.beginRound,.code wA] (jz [10,11] [.int .i64 i,.agg<|aH {f with bY:=t}]<|aC pc)<|sA o0 o1 o2 sl b j) (.st 2<|.rg<|.go 1<|.np (.cells 13 (Tr.fill (aH {f with bY:=t}) 0 .nil) [])<|.en<|.cut .no) [] (fun _ _ _=>False) (fun fr s1 _=>fr=⟨29,EF i (aH {f with bY:=t})<|277+j,15,[.beginRound,.code wA],[],none⟩/\s1=sJ o0 o1 o2 0 sl (uA .ready none) (BL b j<|bX<|aH {f with bY:=t}) (j+1)):=by as_aux_lemma=>kernel_rfl)(k3:dX pg (aZ pg (sp []) FU 4) 1 ⟨29,EF i (aH {f with bY:=t})<|277+j,15,[.beginRound,.code wA],[],some 276⟩ (sJ o0 o1 o2 0 sl (uA .ready none) (BL b j<|bX<|aH {f with bY:=t})<|j+1)= .ok (.go ⟨29,EF i (aH {f with bY:=t})<|277+j,15,[.code wA],[],some 276⟩) (sJ o0 o1 o2 0 sl (uA .busy none) (BL b j<|bX<|aH {f with bY:=t})<|j+1):=by as_aux_lemma=>kernel_rfl)(k4:((none:Option Nat)=none/\([]:List Nat)=[]/\(some (.bool !t,sE o0 o1 o2 sl f i b t j):Option<|AV×AS)=some (.bool !t,sE o0 o1 o2 sl f i b t j))=
 wp (ky []) 900 4 (.fr 29 15 [.code wA] (EF i (aH {f with bY:=t})<|277+j)<|sJ o0 o1 o2 0 sl (uA .busy none) (BL b j<|bX<|aH {f with bY:=t})<|j+1) (.st 6<|.cut .no) [] (fun _ _ _=>False) (fun fr s1 _=>fr.round=none/\fr.defers=[]/\AR pg (aZ pg (sp []) FU 4) 276 fr s1=some (.bool !t,sE o0 o1 o2 sl f i b t j)):=by as_aux_lemma=>kernel_rfl):P9 o0 o1 o2 sl f i b t j:=
 ER k1 rfl (CN (E:=ky []) eT rfl (fun fr s p h=>by obtain⟨rfl,rfl⟩:=h;exact⟨rfl,rfl,Chunk.ev 1 _ _ _ _ k3<|CN (E:=ky []) eT rfl (fun fr s p h=>EP h.1 h.2.1 h.2.2) 900 _ (Ha _ _) k4⟩) 900 _ ⟨Xe _,rfl,rfl⟩ k2)
theorem Ns(t:Bool)(hj:j<6):P9 o0 o1 o2 sl f i b t j:=by rcases(by omega:j=0\/j=1\/j=2\/j=3\/j=4\/j=5) with rfl|rfl|rfl|rfl|rfl|rfl<;>cases t<;>exact Qa _ _
def nD:Nat->Nat
 |0=>3
 |_=>15
abbrev fJ(j:Nat)(i:Int)(d:Nat->AV):AF:=⟨74,aC<|[(0,(.yield 276)),(1,(.ptr<|some (274,0))),(3,(.int .i64 i))]++(List.range<|nD j).map fun k=>(4+k,d k),19,[.code<|aQ pg 74 [1,0,0],.inLoop<|aQ pg 74 [1,0,0],.inBlock 0],[],none⟩
abbrev wB(B:aI)(R:AV->AS->Prop)(fr:AF)(s:AS):Prop:=sd (ky []) 5 (az Tryz.f74) (RW B R) fr s
theorem Ys{B:aI}{R:AV->AS->Prop}{f:Nat}{FR:AF}{S1:AS}(H:wB B R FR S1)(p:Pl)(x:T)(h:T=wp (ky []) 900 5 (.fr f nt K t s) p (az Tryz.f74) (fun v s _=>RW B R v s) (fun fr s1 _=>fr=FR/\s1=S1):=by as_aux_lemma=>kernel_rfl):wB B R ⟨f,t,nt,K,[],none⟩ s:=F5 (C:=fun fr s1 _=>fr=FR/\s1=S1) eT rfl (fun fr s1 p h=>by obtain⟨rfl,rfl⟩:=h;exact H) 900 p x h
theorem Yt{B:aI}{R:AV->AS->Prop}{f:Nat}(p:Pl)(x:T)(h:T=wp (ky []) 900 5 (.fr f nt K t s) p (az Tryz.f74) (fun v s _=>RW B R v s) (fun _ _ _=>False):=by as_aux_lemma=>kernel_rfl):wB B R ⟨f,t,nt,K,[],none⟩ s:=F5 (C:=fun _ _ _=>False) eT rfl (fun _ _ _ h=>h.elim) 900 p x h
abbrev iO(n c:Nat):AV:=.slice (some (272,0)) n<|.aq c 13
theorem Yu(t:Bool)(mc:Mt [] B){v:Int}(hR:∀s2:AS,s2.h.get 270=some o0->s2.h.get 271=some o1->s2.h.get 272=some (aD aH fs)->R (.int .i64 v) s2)(p:Option Code)(k1:lQ 276 (sJ o0 o1 (aD aH fs) (rI t i) (iO n c) (Q2 t) b j)= .ok p (sJ o0 o1 (aD aH fs) (rI t i) (iO n c) (uA .exhausted p) b j):=by as_aux_lemma=>kernel_rfl)(k2:Py pg (aZ pg (sp []) FU 6) (az Tryz.f29) 8 275 ⟨29,aC pc,15,andThen p KI,[],none⟩ (sJ o0 o1 (aD aH fs) (rI t i) (iO n c) (uA .exhausted p) b j)=some (.int .i64 v,some o0,some o1,some<|aD aH fs):=by as_aux_lemma=>kernel_rfl):RW B R (.tuple [])<|sJ o0 o1 (aD aH fs) (rI t i) (iO n c) (Q2 t) b j:=⟨rfl,p,_,k1,(abn (l:=275) (k:=8) (fr:=⟨29,aC pc,15,andThen p KI,[],none⟩) (v:=.int .i64 v) (o0:=o0) (o1:=o1) (o2:=aD aH fs) bI mc.2.2.1 mc.2.2.2 rfl rfl k2 hR).2.2 (by show 273<=277+j;omega)⟩
theorem bkE(hi:i<0)(hL:RW B R (.tuple [])<|sA o0 o1 (aD aH fs) (iO n c) b j)(k:((i>=0->False)/\(¬i>=0->RW B R (.tuple []) (sA o0 o1 (aD aH fs) (iO n c) b j)))=wp (ky []) 900 5 (.fr 74 19 (fJ j i d).todo (fJ j i d).tmps<|sA o0 o1 (aD aH fs) (iO n c) b j) (.st 2<|.rg<|.go 1<|.fk (.no)<|.en<|.rt 3 .no) (az Tryz.f74) (fun v s _=>RW B R v s) (fun _ _ _=>False):=by as_aux_lemma=>kernel_rfl):wB B R (fJ j i d)<|sA o0 o1 (aD aH fs) (iO n c) b j:=Yt _ ⟨fun h=>by omega,fun _=>hL⟩ k
abbrev Q3(o0 o1:ae)(fs:List Fr)(n c:Nat)(i:Int)(b:Nat->Option ae)(t:Bool)(j:Nat)(P:Prop):Prop:=((i>=0->((0:Int)<=i/\i<(n:Int)/\(cellsOf (some<|aD aH fs) (i.toNat*13+0) 13=some (((aH {(av fs i) with bY:=t}).drop 0).take 13)/\(P9 o0 o1 (aD aH fs) (iO n c) (av fs i) i b t j/\P))))/\(¬i>=0->False))
theorem Yv{t:Bool}{P:Prop}(hj:j<6)(hi:0<=i/\i<n/\n<=fs.length)(hR:fs.length*13<=top)(cS:(av fs i).bY=t)(x:P):Q3 o0 o1 fs n c i b t j P:=⟨fun _=>⟨hi.1,hi.2.1,mD fB hR (ahi (l:=fs) (z:=i) cS hi.1 ab) 0 13 rfl,Ns t hj,x⟩,fun h=>h hi.1⟩
theorem bkT(hj:j<6)(hi:0<=i/\i<n/\n<=fs.length)(hR:fs.length*13<=top)(cS:(av fs i).bY=true)(hL:RW B R (.tuple [])<|sE o0 o1 (aD aH fs) (iO n c) (av fs i) i b true j)(k:Q3 o0 o1 fs n c i b true j (RW B R (.tuple [])<|sE o0 o1 (aD aH fs) (iO n c) (av fs i) i b true j)=wp (ky []) 900 5 (.fr 74 19 (fJ j i d).todo (fJ j i d).tmps<|sA o0 o1 (aD aH fs) (iO n c) b j) (.st 2<|.rg<|.go 1<|.fk (.en<|.st 5<|.rg<|.go 4<|.ix<|.ld (aH {(av fs i) with bY:=true})<|.cy (.bool false) (sE o0 o1 (aD aH fs) (iO n c) (av fs i) i b true j)<|.go 1<|.en<|.rt 2 .no)<|.no) (az Tryz.f74) (fun v s _=>RW B R v s) (fun _ _ _=>False):=by as_aux_lemma=>kernel_rfl):wB B R (fJ j i d)<|sA o0 o1 (aD aH fs) (iO n c) b j:=Yt _ (Yv hj hi hR cS hL) k
def dN(d:Nat->AV)(fs:List Fr)(n c:Nat)(i:Int)(k:Nat):AV:=[d 0,d 1,d 2,.int .i64 i,.bool true,.int .i64 i,.int .i64<|i - 1,.yield 276,.int .i64 i,iO n c,.int .i64 i,.ptr<|some (272,i.toNat*13+0),.agg<|aH {(av fs i) with bY:=false},.bool true,.bool false].getD k<|.bool false
theorem bkF(hj:j<6)(hi:0<=i/\i<n/\n<=fs.length)(hf:fs.length<=1000000)(hR:fs.length*13<=top)(cS:(av fs i).bY=false)(H:wB B R (fJ (j+1) (i - 1)<|dN d fs n c i)<|sE o0 o1 (aD aH fs) (iO n c) (av fs i) i b false j)(k:Q3 o0 o1 fs n c i b false j ((AV.int .i64 (IntKind.wrap .i64<|i - 1)= .int .i64 (i - 1))/\(fJ (j+1) (i - 1) (dN d fs n c i)=fJ (j+1) (i - 1) (dN d fs n c i)/\sE o0 o1 (aD aH fs) (iO n c) (av fs i) i b false j=sE o0 o1 (aD aH fs) (iO n c) (av fs i) i b false j))=wp (ky []) 900 5 (.fr 74 19 (fJ j i d).todo (fJ j i d).tmps<|sA o0 o1 (aD aH fs) (iO n c) b j) (.st 2<|.rg<|.go 1<|.fk (.en<|.st 5<|.rg<|.go 4<|.ix<|.ld (aH {(av fs i) with bY:=false})<|.cy (.bool true) (sE o0 o1 (aD aH fs) (iO n c) (av fs i) i b false j)<|.go 1<|.en<|.st 3<|.rg<|.go 1<|.vl (i6<|i - 1)<|.go 1<|.en<|.st 1<|.cut .no)<|.no) (az Tryz.f74) (fun v s _=>RW B R v s) (fun fr s1 _=>fr=fJ (j+1) (i - 1) (dN d fs n c i)/\s1=sE o0 o1 (aD aH fs) (iO n c) (av fs i) i b false j):=by as_aux_lemma=>kernel_rfl):wB B R (fJ j i d)<|sA o0 o1 (aD aH fs) (iO n c) b j:=Ys H _ (Yv hj hi hR cS ⟨wI _,rfl,rfl⟩) k
theorem U2(mc:Mt [] B)(hl:n<=fs.length)(hf:fs.length<=1000000):∀(m j:Nat) (b:Nat->Option ae) (d:Nat->AV),j+m<=6->m<=n->(∀s2:AS,s2.h.get 270=some o0->s2.h.get 271=some o1->s2.h.get 272=some (aD aH fs)->R (i6<|iG fs m) s2)->wB B R (fJ j ((m:Int) - 1) d) (sA o0 o1 (aD aH fs) (iO n c) b j)
 |0,j,b,d,h6,_,hQ=>by rcases(by omega:j=0\/j=1\/j=2\/j=3\/j=4\/j=5\/j=6) with rfl|rfl|rfl|rfl|rfl|rfl|rfl<;>exact bkE ab<|Yu (i:=0) false mc hQ none
 |m+1,j,b,d,h6,hn,hQ=>by
  have hR:fs.length*13<=top:=by have:top=549755813888:=rfl;omega
  have e:(((m+1:Nat):Int) - 1)=(m:Int):=by omega
  rw[e];cases cS:(av fs (m:Int)).bY with
  |true=>rw[show iG fs (m+1)=(m:Int) from if_pos cS] at hQ;rcases(by omega:j=0\/j=1\/j=2\/j=3\/j=4\/j=5) with rfl|rfl|rfl|rfl|rfl|rfl<;>exact bkT ab ⟨by omega,by omega,hl⟩ hR cS<|Yu true mc hQ<|some .ret
  |false=>rw[show iG fs (m+1)=iG fs m from if_neg (by rw[cS];intro q;cases q)] at hQ;have ih:=fun b d=>U2 mc hl hf m (j+1) b d ab ab hQ;rcases(by omega:j=0\/j=1\/j=2\/j=3\/j=4\/j=5) with rfl|rfl|rfl|rfl|rfl|rfl<;>exact bkF ab ⟨by omega,by omega,hl⟩ hf hR cS<|ih _ _
def d0(n c k:Nat):AV:=[iO n c,.int .i64 (n:Int),.int .i64<|(n:Int) - 1].getD k<|.bool false
theorem aiE(hn:n<=1000000)(H:wB B R (fJ 0 ((n:Int) - 1)<|d0 n c)<|sA o0 o1 (aD aH fs) (iO n c) b 0):wB B R (sF 74 Tryz.f74 [.yield 276,.ptr<|some (274,0)])<|sA o0 o1 (aD aH fs) (iO n c) b 0:=Ys H (.st 1<|.rg<|.go 2<|.vl (i6<|(n:Int) - 1)<|.go 1<|.en<|.st 2<|.cut .no)<|ai (wI<|(n:Int) - 1)<|ai (rX<|fJ 0 ((n:Int) - 1)<|d0 n c)<|rX<|sA o0 o1 (aD aH fs) (iO n c) b 0
end
theorem Bm:aQ pg 29 [1,0,1,0]= .rangeFunc (.tmp 9) #[10,11] Lu wA:=by kernel_rfl
abbrev Yw(a:MN)(n c:Nat):ae:=.cells 13 (Tr.fill (a.row (.ptr<|some (271,0)) (iO n c)<|i6 a.steps) 0 .nil) []
abbrev Hj(a:MN)(n c:Nat)(u:AV)(fs:List Fr):List<|Nat×Option ae:=ak++[(270,some<|Yw a n c),(271,some<|.tok 3 u),(272,some<|aD aH fs),(273,some<|.cells 1 (Tr.fill [.int .i64 0] 0 .nil) []),(274,some<|.cells 1 (Tr.fill [iO n c] 0 .nil) [])]
abbrev pd:AF:=⟨29,aC pc,15,.code (aQ pg 29 [1,0,1,0])::KI,[],none⟩
abbrev jy(a:MN)(n c:Nat)(u:AV)(fs:List Fr):VS:=⟨⟨a.pre,n,.aq c 13,[.int .i64 a.steps]⟩,u,(fs.map aH).flatten⟩
theorem afH{B:aI}{a:MN}{n c:Nat}{u:AV}{fs:List Fr}(mc:Mt [] B)(Yx:n<=6)(hl:n<=fs.length)(hf:fs.length<=1000000):au pg B 273 (gX 270 3 pg (az Tryz.f29) (i6<|iG fs n)<|jy a n c u fs) (sF 29 Tryz.f29 [.ptr<|some (270,0)])<|ah (ak++aY (dD 270 3<|jy a n c u fs)) 273:=by refine wp_cut (E:=qT []) (C:=fun fr s1 _=>fr=pd/\s1=ah (Hj a n c u fs) 275) eT rfl bI mc.2.2.1 mc.2.2.2 MU rfl mc.1 (fun fr s1 p hC=>?_) 900 (.st 4<|.rg<|.go 4<|.il<|.rt 5<|.en<|.st 1<|.ls pc (Hj a n c u fs) 275 .no)<|ai (mS pc)<|ai (mO<|Hj a n c u fs)<|ai (rX pd)<|rX<|ah (Hj a n c u fs) 275;obtain⟨rfl,rfl⟩:=hC;unfold pd;rw[Bm];obtain⟨v,s2,h1,rfl,p,s4,h5,H⟩:=sd.call (E:=(ky [])) (n:=5) Tryz.func74 (Fk Tryz.func74 bW)<|aiE (b:=fun _=>none) (c:=c) ab<|U2 (o0:=Yw a n c) (o1:=.tok 3 u) (R:=fun(y1:AV) (s':AS)=>y1= .int .i64 (iG fs n)/\∀m o,(m,o)∈dD 270 3 (jy a n c u fs)->s'.h.get m=some o) mc hl hf n 0 _ _ ab (Nat.le_refl n) fun s2 a b d=>mN rfl a b d;exact au.chunk bI mc.2.2.1 mc.2.2.2 (Im (gv:=.func (.func 74) [] [.ptr<|some (274,0)]) (s1:=ah (Hj a n c u fs++[(275,some .defs)]) 276) bW bW bW h1 h5) (by show 273<=275;omega) H
def rj(st:VS)(rest:List AV)(v:AV):Prop:=∃(a:MN) (n c:Nat) (fs:List Fr),sw st a/\rest=[]/\st.R.len=n/\st.R.cap= .aq c 13/\st.row=(fs.map aH).flatten/\iq fs/\n<=6/\n<=fs.length/\fs.length<=1000000/\v= .int .i64 (iG fs n)
theorem rj.bM(st:VS)(rest:List AV)(v v':AV)(h:rj st rest v)(h':rj st rest v'):v=v':=by obtain⟨a,n,c,fs,_,_,rfl,_,e4,f1,_,_,_,rfl⟩:=h;obtain⟨a1,m,d,gs,_,_,rfl,_,g4,f2,_,_,_,rfl⟩:=h';rw[e4] at g4;rw[Fp _ _ f1 f2 g4]
def l9:FuncId×KE:=(29,.raw<|ng 10 3<|vR rj)
theorem Mk(hP:bS pg){L:bO}(h:aX L):aX<|l9::L:=by refine Fa hP gT ye jT jq mr lY h de Tryz.func29 (body:=aQ pg 29 []) aU aU fun st rest y e _=>?_;obtain⟨a,n,c,fs,⟨h1,h2,h3⟩,rfl,e1,e2,e4,_,Yx,hl,hf,rfl⟩:=FQ e;refine⟨aK.1 aU,fun B mc=>?_⟩;obtain⟨⟨pre,len,cap,post⟩,u,row⟩:=st;simp only at h1 h2 e1 e2 e4;subst h1;subst h2;subst e1;subst e2;subst e4;exact afH mc Yx hl hf
end
end jY
end
section
open Go Go.Rn Go.RowKit Go.Proofs
namespace ko
open cj eR cH dq cU dm fY fF gJ gQ gW gm hZ iB iC iV jh jY gk
variable {fs:List Fr} {u:AV} {to aE nn n2 kind:Int} {c N4 N3 N2 N L4 L3 L2 L:Nat} {a:MN} {B:aI}
noncomputable section
def qu(o:Option St):AV:=match o with
 |none=>.tuple [.agg [.int .u8 0,.int .i64 0,.int .u8 0,.int .i64 0,.slice none 0<|.known 0,.int .u8 0,.int .i64 0,.slice none 0<|.known 0,.slice none 0<|.known 0,.slice none 0<|.known 0],.bool false]
 |some s=>.tuple [.agg<|aL s,.bool true]
def zJ(fs:List Fr)(n:Nat):Fr:=av fs<|(n:Int) - 1
def mJ(fs:List Fr)(n:Nat)(o:Option St):Prop:=(n=0/\o=none)\/(1<=n/\0<=(zJ fs n).ar/\∃s,(zJ fs n).block[(zJ fs n).ar.toNat]? =some s/\o=some s)
theorem mJ.bM{n:Nat}{o o':Option St}(h:mJ fs n o)(h':mJ fs n o'):o=o':=by
 rcases h with⟨a,b⟩|⟨a,_,s,b,e⟩<;>rcases h' with⟨a',b'⟩|⟨a',_,s',b',e'⟩
 ·rw[b,b']
 ·omega
 ·omega
 ·rw[b] at b';injection b' with b';rw[e,e',b']
noncomputable abbrev Dd(a:MN)(n c:Nat)(u:AV)(fs:List Fr):VS:=(⟨⟨a.pre,n,(.aq c 13),[.int .i64 a.steps]⟩,u,(fs.map aH).flatten⟩:VS)
noncomputable abbrev De(kind to op nn:Int)(N L:Nat)(aE n2:Int)(N2 L2 N3 L3 N4 L4:Nat):List AV:=[(u8<|kind),(i6 to),(u8<|op),(i6 nn),(.U N 0 L),(u8<|aE),(i6 n2),(.U N2 0 L2),(.U N3 0 L3),(.U N4 0 L4)]
theorem aiF{n:Nat}{op:Int}(mc:Mt [] B)(h1:1<=n)(hn:n<=fs.length)(hf:fs.length<=1000000)(hR:fs.length*13<=top)(ax:0<=(av fs<|(n:Int) - 1).ar/\(av fs<|(n:Int) - 1).ar<(((av fs<|(n:Int) - 1).block.length:Nat):Int))(hx:cG FU (nm ((av fs<|(n:Int) - 1).block.map aL).flatten) (0+(av fs<|(n:Int) - 1).ar.toNat*10+0) 10=some (De kind to op nn N L aE n2 N2 L2 N3 L3 N4 L4)):au pg B 273 (gX 270 3 pg (az Tryz.f27) (.tuple [.agg<|De kind to op nn N L aE n2 N2 L2 N3 L3 N4 L4,.bool true])<|Dd a n c u fs) (sF 27 Tryz.f27 [.ptr<|some (270,0)])<|ah (ak++aY (dD 270 3<|Dd a n c u fs)) 273:=by exact me (E:=qT []) eT rfl bI mc.2.2.1 mc.2.2.2 900 (.st 4<|.rg<|.go 5<|.fk (.no)<|.en<|.st 3<|.rg<|.go 9<|.vl (i6<|(n:Int) - 1)<|.ix<|.ld (aH<|av fs<|(n:Int) - 1)<|.go 1<|.np (.cells 13 (Tr.fill (aH<|av fs<|(n:Int) - 1) 0 .nil) [])<|.en<|.st 1<|.rg<|.go 4<|.eF<|.eG (De kind to op nn N L aE n2 N2 L2 N3 L3 N4 L4)<|.go 2<|.en<|.rt 1 .no)<|aT ((n:Int)=0) gb fun _=>(ai (wI<|(n:Int) - 1)<|dU ((n:Int) - 1) (n:Int)<|ai (mD fB hR (jg (l:=fs) (z:=((n:Int) - 1)) ab ab) 0 13 rfl)<|ai (Xe<|av fs<|(n:Int) - 1)<|dU ((av fs<|(n:Int) - 1).ar) (((av fs<|(n:Int) - 1).block.length:Nat):Int)<|ai (show top<=nm ((av fs<|(n:Int) - 1).block.map aL).flatten from cN _)<|ai hx<|mN (st:=(Dd a n c u fs)) (s:=ah (ak++[(270,some<|.cells 13 (Tr.fill (a.row (.ptr<|some (271,0)) (.slice (some (272,0)) (n)<|.aq c 13)<|i6 a.steps) 0 .nil) []),(271,(some<|.tok 3 u)),(272,(some<|aD aH fs)),(273,some<|.cells 10 (Tr.fill (De kind to op nn N L aE n2 N2 L2 N3 L3 N4 L4) 0 .nil) []),(274,some<|.cells 13 (Tr.fill (aH<|av fs<|(n:Int) - 1) 0 .nil) [])]) 275) (show((.tuple [(.agg<|De kind to op nn N L aE n2 N2 L2 N3 L3 N4 L4),(.bool true)]):AV)=(.tuple [.agg<|De kind to op nn N L aE n2 N2 L2 N3 L3 N4 L4,.bool true]) from rfl) bU bU bU)
noncomputable abbrev VM:AV:=.tuple [.agg [.int .u8 0,.int .i64 0,.int .u8 0,.int .i64 0,.slice none 0<|.known 0,.int .u8 0,.int .i64 0,.slice none 0<|.known 0,.slice none 0<|.known 0,.slice none 0<|.known 0],.bool false]
theorem aiG{n:Nat}{N L N2 L2 N3 L3 N4 L4:Nat}{kind to op nn aE n2:Int}(mc:Mt [] B)(h1:n=0):au pg B 273 (gX 270 3 pg (az Tryz.f27) VM<|Dd a n c u fs) (sF 27 Tryz.f27 [.ptr<|some (270,0)])<|ah (ak++aY (dD 270 3<|Dd a n c u fs)) 273:=by exact me (E:=qT []) eT rfl bI mc.2.2.1 mc.2.2.2 900 (.st 4<|.rg<|.go 5<|.fk (.en<|.rt 4 .no)<|.no)<|aT ((n:Int)=0) (fun _=>(mN (st:=(Dd a n c u fs)) (s:=ah (ak++[(270,some<|.cells 13 (Tr.fill (a.row (.ptr<|some (271,0)) (.slice (some (272,0)) (n)<|.aq c 13)<|i6 a.steps) 0 .nil) []),(271,(some<|.tok 3 u)),(272,(some<|aD aH fs)),(273,some<|.cells 10 (Tr.fill [(u8<|.ofNat 0),i0,(u8<|.ofNat 0),i0,(.slice none 0<|.known 0),(u8<|.ofNat 0),i0,(.slice none 0<|.known 0),(.slice none 0<|.known 0),(.slice none 0<|.known 0)] 0 .nil) [])]) 274) (show((.tuple [(.agg [(u8<|.ofNat 0),i0,(u8<|.ofNat 0),i0,(.slice none 0<|.known 0),(u8<|.ofNat 0),i0,(.slice none 0<|.known 0),(.slice none 0<|.known 0),(.slice none 0<|.known 0)]),(.bool false)]):AV)=VM from rfl) bU bU bU)) gb
def iR(st:VS)(rest:List AV)(v:AV):Prop:=∃(a:MN) (n c:Nat) (fs:List Fr) (o:Option St),sw st a/\rest=[]/\st.R.len=n/\st.R.cap= .aq c 13/\st.row=(fs.map aH).flatten/\iq fs/\n<=fs.length/\fs.length<=1000000/\mJ fs n o/\v=qu o
theorem iR.bM(st:VS)(rest:List AV)(v v':AV)(h:iR st rest v)(h':iR st rest v'):v=v':=by obtain⟨a,n,c,fs,o,_,_,rfl,_,e4,f1,_,_,s1,rfl⟩:=h;obtain⟨a1,m,d,gs,o',_,_,rfl,_,g4,f2,_,_,s2,rfl⟩:=h';rw[e4] at g4;have e:=Fp _ _ f1 f2 g4;subst e;rw[s1.bM s2]
def mg:FuncId×KE:=(27,.raw<|ng 10 3<|vR iR)
theorem Nt(hP:bS pg){L:bO}(h:aX L):aX<|mg::L:=by
 refine Fa hP gT ye jT jq mr lY h de Tryz.func27 (body:=aQ pg 27 []) aU aU fun st rest y e _=>?_;obtain⟨a,n,c,fs,o,⟨h1,h2,h3⟩,rfl,e1,e2,e4,_,hl,hf,hS,rfl⟩:=FQ e;refine⟨aK.1 aU,fun B mc=>?_⟩;obtain⟨⟨pre,len,cap,post⟩,u,row⟩:=st;simp only at h1 h2 e1 e2 e4;subst h1;subst h2;subst e1;subst e2;subst e4;rcases hS with⟨q,rfl⟩|⟨q,q0,s,q1,rfl⟩
 ·exact aiG (N:=0) (L:=0) (N2:=0) (L2:=0) (N3:=0) (L3:=0) (N4:=0) (L4:=0) (kind:=0) (to:=0) (op:=0) (nn:=0) (aE:=0) (n2:=0) mc q
 ·obtain⟨kind,to,⟨oa,na,la⟩,⟨ob,nb,lb⟩,bd,el⟩:=s;have cf:=(List.getElem?_eq_some_iff.1 q1).1;have hx:=xq mz q1 0 10<|Nat.le_refl _;rw[show(zJ fs len).ar.toNat*10+0=0+(zJ fs len).ar.toNat*10+0 by omega,show((aL<|.mk kind to (.mk oa na la) (.mk ob nb lb) bd el).drop 0).take 10=aL (.mk kind to (.mk oa na la) (.mk ob nb lb) bd el) by rw[List.drop_zero];exact List.take_of_length_le (by rw[mz.len];omega)] at hx;rw[show qu (some<|.mk kind to (.mk oa na la) (.mk ob nb lb) bd el)= .tuple [.agg<|aL<|.mk kind to (.mk oa na la) (.mk ob nb lb) bd el,.bool true] from rfl];rw[aL,aB,aB] at hx ⊢;exact aiF mc q hl hf (by have:top=549755813888:=rfl;omega) ⟨q0,by unfold zJ at cf q0;omega⟩ hx
end
end ko
end
