import Derived.Test.YtbkagfkpnnoacaaDoorAtGK
import Derived.Test.YtbkagfkpnnoacaaDoorAtGJ
import Derived.Test.YtbkagfkpnnoacaaDoorRnGH
set_option maxRecDepth 100000
set_option maxHeartbeats 8000000
set_option linter.unusedSimpArgs false
set_option linter.unusedVariables false
section
open Go Go.Rn Go.RowKit Go.Proofs
namespace lV
open ch fT iq eO
variable {r:Nat->Nat} {o0:List<|Nat×Option ae} {lo bw:Nat} {ps:List<|Nat×Nat} {b a:List<|Int×Int}
def lW(ps:List<|Nat×Nat)(lo bw k:Nat):Nat:=match ps.find? fun p=>Nat.beq p.1 k with
 |some p=>p.2
 |none=>if k<lo\/top<=k then k else max k bw
def zY(ps:List<|Nat×Nat)(lo bw nx:Nat)(names:List Nat):Bool:=ps.all (fun p=>Nat.ble lo p.1&&(Nat.blt p.1 nx&&(Nat.ble lo p.2&&Nat.blt p.2 top)))&&(Nat.ble lo nx&&(Nat.ble nx top&&(Nat.blt bw top&&(names.all fun m=>Nat.blt m lo||ps.any fun p=>Nat.beq p.1 m))))
def Kl(ps:List<|Nat×Nat):Bool:=ps.all fun p=>ps.all fun q=> !(Nat.beq p.2 q.2)||Nat.beq p.1 q.1
def G6(r:Nat->Nat)(l0:List<|Nat×AV):List (Nat×AV)->Prop
 |[]=>True
 |p::l=>(p.1<top/\∃x,(p.1,x)∈l0/\jC [] r x p.2)/\G6 r l0 l
def zZ(r:Nat->Nat)(o0:List<|Nat×Option ae):List (Nat×Option ae)->Prop
 |[]=>True
 |p::l=>(∀y,p.2=some y->y.jP=true/\∃x,(r p.1,some x)∈o0/\fK x y/\fj [] r x y)/\zZ r o0 l
theorem G6.mem{l0:List<|Nat×AV}:∀{l:List<|Nat×AV},G6 r l0 l->∀p∈l,p.1<top/\∃x,(p.1,x)∈l0/\jC [] r x p.2
 |[],_,p,hp=>by cases hp
 |a::l,h,p,hp=>by
  rcases List.mem_cons.1 hp with rfl|hp
  ·exact h.1
  ·exact G6.mem h.2 p hp
theorem zZ.mem:∀{l:List<|Nat×Option ae},zZ r o0 l->∀p∈l,∀y,p.2=some y->y.jP=true/\∃x,(r p.1,some x)∈o0/\fK x y/\fj [] r x y
 |[],_,p,hp=>by cases hp
 |a::l,h,p,hp=>by
  rcases List.mem_cons.1 hp with rfl|hp
  ·exact h.1
  ·exact zZ.mem h.2 p hp
theorem JU{nx:Nat}{l0 l:List<|Nat×AV}{o:List<|Nat×Option ae}(eW:270<=lo)(hb:zY ps lo bw nx (o.map (·.1))=true)(hi:Kl ps=true)(hl:∀r,r=lW ps lo bw->(∀k,top<=k->r k=k)->G6 r l0 l)(ho:∀r,r=lW ps lo bw->(∀k,top<=k->r k=k)->zZ r o0 o):
 hJ FU lo bw l0 (ar++o0) l (ar++o) nx:=by
 unfold zY at hb;obtain⟨b1,hb⟩:=and_true.1 hb;obtain⟨b2,hb⟩:=and_true.1 hb;obtain⟨b3,hb⟩:=and_true.1 hb;obtain⟨b4,b5⟩:=and_true.1 hb;have b2:=aL.1 b2;have b3:=aL.1 b3;have b4:=(blt_eq _ _).mp b4;have uh:∀p∈ps,lo<=p.1/\p.1<nx/\lo<=p.2/\p.2<top:=fun p hp=>by have:=List.all_eq_true.1 b1 p hp;obtain⟨c1,c2⟩:=and_true.1 this;obtain⟨c2,c3⟩:=and_true.1 c2;obtain⟨c3,c4⟩:=and_true.1 c3;exact⟨aL.1 c1,(blt_eq _ _).mp c2,aL.1 c3,(blt_eq _ _).mp c4⟩
 have none_:∀k,(k<lo\/nx<=k)->(ps.find? fun p=>Nat.beq p.1 k)=none:=fun k hk=>by refine List.find?_eq_none.2 fun p hp=>?_;obtain⟨c1,c2,_⟩:=uh p hp;rw[ey];omega
 let r:=lW ps lo bw;have rl:∀k,k<lo->r k=k:=fun k hk=>by show lW ps lo bw k=k;unfold lW;rw[none_ k<|.inl hk];exact if_pos<|.inl hk
 have rt:∀k,top<=k->r k=k:=fun k hk=>by show lW ps lo bw k=k;unfold lW;rw[none_ k<|.inr ab];exact if_pos<|.inr hk
 have rn:∀k,nx<=k->k<top->bw<=r k/\r k<top:=fun k h1 h2=>by show bw<=lW ps lo bw k/\lW ps lo bw k<top;unfold lW;rw[none_ k<|.inr h1];show bw<=(if _ then _ else _)/\(if _ then _ else _)<top;rw[if_neg ab];omega
 have XZ:∀k∈o.map (·.1),(k<lo/\r k=k)\/∃p∈ps,p.1=k/\r k=p.2:=fun k hk=>by
  have:=List.all_eq_true.1 b5 k hk;rcases Bool.or_eq_true_iff.1 this with this|this
  ·have:=(blt_eq _ _).mp this;exact .inl ⟨this,rl k this⟩
  right;obtain⟨p,hp,e⟩:=List.any_eq_true.1 this;cases q:ps.find? fun p=>Nat.beq p.1 k with
  |none=>exact absurd e (by simpa using List.find?_eq_none.1 q p hp)
  |some p'=>have h1:=List.find?_some q;refine⟨p',List.mem_of_find?_eq_some q,ey.1 h1,?_⟩;show lW ps lo bw k=_;unfold lW;rw[q]
 have Eo:∀p∈ar,p.1<270:=fun p hp=>by obtain⟨k,hk,e⟩:=List.mem_map.1 hp;rw[←e];exact jj k hk
 have t0:270<top:=by unfold top;omega
 refine⟨[],r,rl,rn,rt,b3,(hl r rfl rt).mem,fun p hp=>?_,fun p hp q hq _ _ e=>?_,fun p hp=>nM,fun p hp=>nM⟩
 ·rcases List.mem_append.1 hp with hp|hp
  ·have bZ:=Eo p hp;refine⟨by omega,fun y hy=>?_⟩;rw[rl _ ab];refine⟨by omega,TW p hp y hy,y,?_,fK.refl _,(E9 (nx:=270) (fun k hk=>rl k ab) bY p hp y hy).z⟩;refine List.mem_append_left _ ?_;rw[←hy];exact hp
  ·have bZ:p.1<top/\r p.1<top:=by
    rcases XZ p.1 (List.mem_map.2 ⟨p,hp,rfl⟩) with⟨c1,c2⟩|⟨p',h1,h2,h3⟩
    ·rw[c2];omega
    ·obtain⟨c1,c2,c3,c4⟩:=uh p' h1;rw[h3];omega
   refine⟨bZ.1,fun y hy=>?_⟩;obtain⟨d1,x,d2,d3,d4⟩:=(ho r rfl rt).mem p hp y hy;exact⟨bZ.2,d1,x,List.mem_append_right _ d2,d3,d4⟩
 ·have key:∀p∈ar++o,(p.1<lo/\r p.1=p.1)\/∃q∈ps,q.1=p.1/\r p.1=q.2:=fun p hp=>by
   rcases List.mem_append.1 hp with hp|hp
   ·exact .inl ⟨by have:=Eo p hp;omega,rl _ (by have:=Eo p hp;omega)⟩
   ·exact XZ p.1<|List.mem_map.2 ⟨p,hp,rfl⟩
  rcases key p hp with⟨a1,a2⟩|⟨a,a1,a2,a3⟩<;>rcases key q hq with⟨c1,c2⟩|⟨c,c1,c2,c3⟩
  ·rw[a2,c2] at e;exact e
  ·have:=(uh c c1).2.2.1;rw[a2,c3] at e;omega
  ·have:=(uh a a1).2.2.1;rw[a3,c2] at e;omega
  ·rw[a3,c3] at e;have h1:=List.all_eq_true.1 (List.all_eq_true.1 hi a a1) c c1;rw[Bool.or_eq_true] at h1;rcases h1 with h1|h1
   ·rw[e,show Nat.beq c.2 c.2=true from Nat.beq_refl _] at h1;cases h1
   ·rw[←a2, ←c2];exact Nat.eq_of_beq_eq_true h1
theorem Tf{l m:List AV}{rest:List AV}(hl:(l++rest).length<=top)(h:kK [] r l m)(h1:m.all AV.bR=true):fj [] r (.cells (l++rest).length (Tr.fill (l++rest) 0 .nil) [])<|.cells m.length (Tr.fill m 0 .nil) []:=by
 have hlen:=h.length;have yc:l.length<=(l++rest).length:=by rw[List.length_append];omega
 intro ρ fE N o yl k;refine fj.cells ab h h1 ρ fE N o yl ?_;obtain⟨c,e,rfl,k1,k2,k3⟩:=k;refine⟨c,e,rfl,k1,by omega,fun i hi=>?_⟩;obtain⟨x,v,a1,a2,a3,a4⟩:=k3 i ab;refine⟨x,v,?_,a2,a3,a4⟩;unfold cellAt at a1 ⊢;rw[Tr.sq _ _ _ _ ab,if_pos ab,Nat.sub_zero] at a1;rw[Tr.sq _ _ _ _ ab,if_pos ab,Nat.sub_zero];rw[List.getElem?_append_left hi] at a1;exact a1
theorem adQ{n m o len nV e:Nat}(h:r m=n)(h1:nV<=lo)(h2:len<=nV):bg r (.slice (some (n,o)) len<|.aq lo e)<|.slice (some (m,o)) len<|.aq nV e:=by intro ρ v hv;simp only[VR] at hv ⊢;obtain⟨b,N,c,q1,q2,q3,q4,q5⟩:=hv;exact⟨b,N,c,by rw[h];exact q1,q2,by omega,q4,q5⟩
theorem aiB{m:List<|Int×Int}:fj [] r (bz m)<|bz m:=fun _ _ _ _ _ h=>uL h
theorem Pk{m:List<|Int×Int}(hk:dU m):fj [] r (xQ m)<|bz m:=fun _ _ _ _ _ h=>ab4 hk h
theorem ag7:fK (bz a)<|bz b:=⟨fun _=>rfl,(fun e=>by cases e),fun e=>by cases e⟩
theorem Om:fK (xQ a)<|bz b:=⟨fun _=>rfl,(fun e=>by cases e),fun e=>by cases e⟩
theorem wW{a b:Nat}{s t:Tr AV}{z w:List AV}:fK (.cells a s z)<|.cells b t w:=⟨fun _=>rfl,(fun e=>by cases e),fun e=>by cases e⟩
theorem mi{α:Type}{l:List α}{a:α}(j:Nat)(h:l[j]? =some a:=by rfl):a∈l:=List.mem_of_getElem? h
theorem rq{m n:Nat}(hr:r=lW ps lo bw)(h:lW ps lo bw m=n:=by as_aux_lemma=>kernel_rfl):r m=n:=by rw[hr];exact h
theorem vi{k:IntKind}{n:Int}:jC [] r (.int k n)<|.int k n:=(bg.int _ _).z
theorem sc{m n:Nat}{x y:ae}(hm:(n,some x)∈o0)(hr:r m=n)(kp:fK x y)(ent:fj [] r x y)(pl:y.jP=true:=by rfl):∀z,some y=some z->z.jP=true/\∃x,(r m,some x)∈o0/\fK x z/\fj [] r x z:=fun z e=>by cases e;exact⟨pl,x,by rw[hr];exact hm,kp,ent⟩
theorem aft{N M:Nat}{l m:List AV}(h:kK [] r l m)(hN:l.length=N:=by rfl)(hM:m.length=M:=by rfl)(hl:Nat.ble N top=true:=by as_aux_lemma=>kernel_rfl)(h1:m.all AV.bR=true:=by rfl):fj [] r (.cells N (Tr.fill l 0 .nil) [])<|.cells M (Tr.fill m 0 .nil) []:=by subst hN;subst hM;exact fj.cells (aL.1 hl) h h1
abbrev X0(lo bw nx:Nat)(l0:List<|Nat×AV)(o0:List<|Nat×Option ae)(l1:List<|Nat×AV)(o1:List<|Nat×Option ae)(fr:AF)(s:AS):Prop:=(l0.map (fun q=>some q.2)=l0.map (fun q=>some q.2))/\((ar++o0).map (fun q=>q.2)=(ar++o0).map (fun q=>q.2))/\hJ FU lo bw l0 (ar++o0) l1 (ar++o1) nx/\(fr=fr/\s=s)
end lV
end
section
open Go Go.Rn Go.RowKit Go.Proofs
namespace gj
open ch eO fT iq PX lV tO
variable {v x:Int} {r:Nat->Nat} {g nt i:Nat} {w2 w1:AV} {p:Option Code} {o0:List<|Nat×Option ae} {kf:bf} {nN:bW}
noncomputable section
section
variable {B:aJ} {ms:bf} {cap:bW}
theorem fP{l:bf}(h:1<=l.length/\l.length<=6):(∃m0,l=[m0])\/(∃m0 m1,l=[m0,m1])\/(∃m0 m1 m2,l=[m0,m1,m2])\/(∃m0 m1 m2 m3,l=[m0,m1,m2,m3])\/(∃m0 m1 m2 m3 m4,l=[m0,m1,m2,m3,m4])\/∃m0 m1 m2 m3 m4 m5,l=[m0,m1,m2,m3,m4,m5]:=by
 match l,h with
 |[a],_=>exact .inl ⟨_,rfl⟩
 |[a,b],_=>exact .inr<|.inl ⟨_,_,rfl⟩
 |[a,b,c],_=>exact .inr<|.inr<|.inl ⟨_,_,_,rfl⟩
 |[a,b,c,d],_=>exact .inr<|.inr<|.inr<|.inl ⟨_,_,_,_,rfl⟩
 |[a,b,c,d,e],_=>exact .inr<|.inr<|.inr<|.inr<|.inl ⟨_,_,_,_,_,rfl⟩
 |[a,b,c,d,e,f],_=>exact .inr<|.inr<|.inr<|.inr<|.inr ⟨_,_,_,_,_,_,rfl⟩
 |[],h=>simp at h
 |_::_::_::_::_::_::_::_,h=>simp at h
theorem F2{l:bf}(h:1<=l.length/\l.length<=7):l.length<=6\/∃m0 m1 m2 m3 m4 m5 m6,l=[m0,m1,m2,m3,m4,m5,m6]:=by
 match l,h with
 |[a,b,c,d,e,f,g],_=>exact .inr ⟨_,_,_,_,_,_,_,rfl⟩
 |[],_|[_],_|[_,_],_|[_,_,_],_|[_,_,_,_],_|[_,_,_,_,_],_|[_,_,_,_,_,_],_=>exact .inl (by simp)
 |_::_::_::_::_::_::_::_::l,h=>simp only[List.length_cons] at h;omega
theorem adR(h:de ms){nx:Nat}:∀m p,(m,p)∈dL ms cap->(ah (ar++aX (dL ms cap)) nx).h.get m=some p:=fun m p hm=>by
 rcases(F2 h.1).imp (fun q=>fP ⟨h.1.1,q⟩) id with(⟨m0,rfl⟩|⟨m0,m1,rfl⟩|⟨m0,m1,m2,rfl⟩|⟨m0,m1,m2,m3,rfl⟩|⟨m0,m1,m2,m3,m4,rfl⟩|⟨m0,m1,m2,m3,m4,m5,rfl⟩)|⟨m0,m1,m2,m3,m4,m5,m6,rfl⟩
 all_goals
  simp only[dL,qi,List.mem_cons,List.not_mem_nil,or_false] at hm
  repeat' (rcases hm with hm|hm)
  all_goals kernel_rfl
theorem Km(nx:Nat)(h:de ms)(hc:oU ms.length cap)(y:AV):oV 3 y (bI ms) (ah (ar++aX (dL ms cap)) nx) y:=⟨rfl,_,.buf _ h cap hc,adR h⟩
def kL:bf->Int->Int->bf
 |[],_,_=>[]
 |[m],v,x=>[fM m v x]
 |m::m'::l,v,x=>m::kL (m'::l) v x
def ga:bf->bf
 |[]=>[]
 |[m]=>[m]
 |[m,m']=>[fe m m']
 |m::m'::z6::l=>m::ga (m'::z6::l)
def xJ:bf->List (Int×Int)
 |[]=>[]
 |[m]=>m
 |_::l=>xJ l
def gB(ms:bf)(v:Int):Nat->Option Int
 |0=>none
 |n+1=>if lB (ms.getD n []) v=true then some (getM (ms.getD n []) v) else gB ms v n
def kz(ms:bf)(v:Int):Int×Bool:=((gB ms v ms.length).getD 0,(gB ms v ms.length).isSome)
theorem adS{l:bf}{m:List<|Int×Int}(h:de<|l++[m]):de<|l++[fM m v x]:=by
 obtain⟨h1,h2⟩:=h;rw[List.length_append] at h1;refine⟨by rw[List.length_append];exact h1,fun q hq=>?_⟩;rcases List.mem_append.1 hq with hq|hq
 ·exact h2 q<|List.mem_append_left _ hq
 ·rw[List.mem_singleton] at hq;subst hq;exact dU.set (h2 m<|List.mem_append_right _<|List.mem_singleton.2 rfl) v x
theorem Sl{l:bf}{m:List<|Int×Int}:kL (l++[m]) v x=l++[fM m v x]:=by
 induction l with
 |nil=>rfl
 |cons y l ih=>
  cases l with
  |nil=>rfl
  |cons z l=>show y::kL (z::(l++[m])) v x=_;rw[show(z::(l++[m]):bf)=(z::l)++[m] from rfl,ih];rfl
theorem MF{b:bf}(h:de b)(v x:Int):de<|kL b v x:=by
 have cf:b≠[]:=fun e=>by have:=h.1.1;rw[e] at this;simp only[List.length_nil] at this;omega
 rw[←List.dropLast_concat_getLast cf] at h ⊢;rw[Sl];exact adS h
theorem HH:∀(b:bf) (v x:Int),(kL b v x).length=b.length
 |[],_,_|[_],_,_=>rfl
 |m::m'::l,v,x=>congrArg (· +1)<|HH (m'::l) v x
theorem NU(h:de ms)(h6:ms.length<7):de<|ms++[[]]:=by
 refine⟨by rw[List.length_append];show 1<=ms.length+1/\ms.length+1<=7;omega,fun m hm=>?_⟩;rcases List.mem_append.1 hm with hm|hm
 ·exact h.2 m hm
 ·rw[List.mem_singleton] at hm;subst hm;exact List.nodup_nil
theorem NV(h:de ms)(h2:2<=ms.length):de ms.dropLast:=by refine⟨by rw[List.length_dropLast];have:=h.1.2;omega,fun m hm=>h.2 m<|List.dropLast_subset _ hm⟩
theorem Hw:∀ms:bf,2<=ms.length->(ga ms).length+1=ms.length
 |[],h=>by simp at h
 |[_],h=>by simp at h
 |[_,_],_=>rfl
 |m::m'::z6::l,_=>by have:=Hw (m'::z6::l) (by simp);show(ga<|m'::z6::l).length+1+1=(m'::z6::l).length+1;rw[this]
theorem Rl:∀ms:bf,(∀m∈ms,dU m)->∀m∈ga ms,dU m
 |[],h,m,hm=>by cases hm
 |[a],h,m,hm=>h m hm
 |[a,b],h,m,hm=>by rw[show ga [a,b]=[fe a b] from rfl,List.mem_singleton] at hm;subst hm;exact dU.merge (h a<|by simp)
 |a::b::c::l,h,m,hm=>by
  have hm:m∈a::ga (b::c::l):=hm;rcases List.mem_cons.1 hm with rfl|hm
  ·exact h _ (by simp)
  ·exact Rl (b::c::l) (fun q hq=>h q<|List.mem_cons_of_mem _ hq) m hm
theorem Il(h:de ms)(h2:2<=ms.length):de<|ga ms:=⟨by have:=Hw ms h2;have:=h.1.2;omega,Rl ms h.2⟩
theorem Nc(h:de ms):∀p∈dL ms cap,p.1<279:=fun p hp=>by
 have h6:=h.1.2;rcases List.mem_cons.1 hp with rfl|hp
 ·show 270<279;omega
 rcases List.mem_cons.1 hp with rfl|hp
 ·show 271<279;omega
 ·have:=(HV hp).2.1;omega
abbrev SB(B:aJ)(g nt:Nat)(rs:List ResultVar)(args:List AV)(ms:bf)(cap:bW)(y:AV)(kf:bf):Prop:=au pg B 271 (iS XT pg rs 3 y<|bI kf) ⟨g,dt<|.ptr (some (270,0))::args,nt,[.code<|aR pg g []],[],none⟩<|ah (ar++aX (dL ms cap)) 279
theorem aiC(mc:Mt [] B)(h:de ms)(hc:oU ms.length cap)(k:((some (bz<|xJ ms)=some (bz<|xJ ms))/\oV 3 (.int .i64 0) (bI<|kL ms v x) (ah (ar++aX (dL (kL ms v x) cap)) 279) (.int .i64 0))=wp (o9 []) 900 6 (.fr 54 (max Tryd.f54.ntmps 3) (cO 54 []) (dt [.ptr<|some (270,0),.int .i64 v,.int .i64 x])<|ah (ar++aX (dL ms cap)) 279) (.st 8<|.rg<|.go 14<|.KS (xJ ms)<|.en<|.rt 3 .no) (az Tryd.f54) (fun y s _=>oV 3 (.int .i64 0) (bI<|kL ms v x) s y) (fun _ _ _=>False):=by as_aux_lemma=>kernel_rfl):
 SB B 54 (max Tryd.f54.ntmps 3) (az Tryd.f54) [.int .i64 v,.int .i64 x] ms cap (.int .i64 0) (kL ms v x):=
 Ei mc _ ⟨rfl,Km 279 (MF h v x) (by rw[HH];exact hc)<|.int .i64 0⟩ k bY
theorem acd(mc:Mt [] B)(h:de ms)(hc:oU ms.length cap)(h6:ms.length<=6):SB B 54 (max Tryd.f54.ntmps 3) (az Tryd.f54) [.int .i64 v,.int .i64 x] ms cap (.int .i64 0)<|kL ms v x:=by rcases fP ⟨h.1.1,h6⟩ with⟨m0,rfl⟩|⟨m0,m1,rfl⟩|⟨m0,m1,m2,rfl⟩|⟨m0,m1,m2,m3,rfl⟩|⟨m0,m1,m2,m3,m4,rfl⟩|⟨m0,m1,m2,m3,m4,m5,rfl⟩<;>exact aiC mc h hc
abbrev KA(L:bO)(g:Nat)(f:Func)(ms:bf)(cap:bW)(path:List Nat)(kf:bf)(nN:bW)(p:Pl):Prop:=wp (o9 L) 900 6 (.fr g (max f.ntmps 1) [.code<|aR pg g []] (dt [.ptr<|some (270,0)])<|ah (ar++aX (dL ms cap)) 279) p f.results.toList (fun y s _=>oV 3 (.int .i64 0) (bI kf) s y) fun fr s1 _=>fr=⟨g,aE [(2,i0)],max f.ntmps 1,[.code<|aR pg g path],[],none⟩/\s1=ah (ar++aX (dL kf nN)) 279
abbrev K7(kf:bf)(nN:bW):Prop:=oV 3 (.int .i64 0) (bI kf) (ah (ar++aX (dL kf nN)) 279)<|.int .i64 0
abbrev KB(L:bO)(g:Nat)(f:Func)(path:List Nat)(kf:bf)(nN:bW):Prop:=wp (o9 L) 900 6 (.fr g (max f.ntmps 1) [.code<|aR pg g path] (aE [(2,i0)])<|ah (ar++aX (dL kf nN)) 279) (.rt 1 .no) f.results.toList (fun y s _=>oV 3 (.int .i64 0) (bI kf) s y) fun _ _ _=>False
theorem On{L:bO}{f:Func}(path:List Nat)(mc:Mt L B)(h':de kf)(QF:oU kf.length nN)(p:Pl){T:Prop}(x:T)(k:T=KA L g f ms cap path kf nN p:=by as_aux_lemma=>kernel_rfl)(k2:K7 kf nN=KB L g f path kf nN:=by as_aux_lemma=>kernel_rfl):
 SB B g (max f.ntmps 1) f.results.toList [] ms cap (.int .i64 0) kf:=
 B6 mc (fun fr s1 _ hC=>by obtain⟨rfl,rfl⟩:=hC;exact Ei mc _ (Km 279 h' QF _) k2 bY) p x k bY
abbrev G7(bw:Nat)(o0:List<|Nat×Option ae)(kf:bf)(nN:bW)(g nt:Nat)(path:List Nat):Prop:=X0 271 bw 279 [(2,i0)] o0 [(2,i0)] (aX<|dL kf nN) ⟨g,aE [(2,i0)],nt,[.code<|aR pg g path],[],none⟩<|ah (ar++aX (dL kf nN)) 279
theorem WY{ps:List<|Nat×Nat}{bw:Nat}{path:List Nat}(h:∀r,r=lW ps 271 bw->zZ r o0 (aX<|dL kf nN))(h1:zY ps 271 bw 279 ((aX<|dL kf nN).map (·.1))=true:=by as_aux_lemma=>kernel_rfl)(h2:Kl ps=true:=by as_aux_lemma=>kernel_rfl):G7 bw o0 kf nN g nt path:=⟨rfl,rfl,JU (ps:=ps) ab h1 h2 (fun r hr ht=>⟨⟨by unfold top;omega,_,mi 0,vi⟩,trivial⟩) fun r hr _=>h r hr,rfl,rfl⟩
def Er(n:Nat):List<|Nat×Nat:=(271,281)::(272+n,279)::(List.range n).map fun i=>(272+i,272+i)
def QG(ms:bf):List<|Nat×Option ae:=(270,some<|aC hI [.slice (some (281,0)) (ms.length+1)<|.aq (ms.length+1) 1])::(281,some<|aC hI<|jQ ms.length++[.map<|some 279])::(279,some<|xQ [])::aX (qi 272 ms)
theorem FF(l:List AV):(l.map hI).flatten=l:=Dr l
theorem Gy{l m:List AV}(h:kK [] r l m)(hl:l.length<=8)(h1:m.all AV.bR=true):fj [] r (aC hI l)<|aC hI m:=by show fj [] r (.cells (l.map hI).flatten.length (Tr.fill (l.map hI).flatten 0 .nil) [])<|.cells (m.map hI).flatten.length (Tr.fill (m.map hI).flatten 0 .nil) [];rw[FF,FF];exact fj.cells dZ h h1
theorem Nf(n:Nat):(jQ n).all AV.bR=true:=by rw[jQ,List.all_map,List.all_eq_true];exact fun _ _=>rfl
theorem Ng(n:Nat):(jQ n).length=n:=by rw[jQ,List.length_map,List.length_range]
theorem X1{m:Nat}{l:List<|Int×Int}(q:r m=m)(hm:(m,some<|bz l)∈o0:=by repeat first|exact List.mem_cons_self|apply List.mem_cons_of_mem):∀z,some (bz l)=some z->z.jP=true/\∃x,(r m,some x)∈o0/\fK x z/\fj [] r x z:=sc hm q ag7 aiB
theorem ag8(mc:Mt [] B)(h:de<|ms++[[]])(w1:∀r,r=lW (Er ms.length) 271 282->kK [] r (jQ ms.length++[.map<|some 279]) (jQ (ms++[[]]).length))(w2:∀r,r=lW (Er ms.length) 271 282->zZ r (QG ms) (aX<|qi 272<|ms++[[]]))(k:G7 282 (QG ms) (ms++[[]]) (.aq (ms.length+1) 1) 56 (max Tryd.f56.ntmps 1) [1,1,1,1]=KA [] 56 Tryd.f56 ms cap [1,1,1,1] (ms++[[]]) (.aq (ms.length+1) 1) (.st 11<|.rn [(2,i0)] (ar++QG ms) [(2,i0)] (ar++aX (dL (ms++[[]])<|.aq (ms.length+1) 1)) 282 279 .no):=by as_aux_lemma=>kernel_rfl)(h1:zY (Er ms.length) 271 282 279 ((aX<|dL (ms++[[]])<|.aq (ms.length+1) 1).map (·.1))=true:=by as_aux_lemma=>kernel_rfl)(h2:Kl (Er ms.length)=true:=by as_aux_lemma=>kernel_rfl)(q0:lW (Er ms.length) 271 282 270=270:=by as_aux_lemma=>kernel_rfl)(q1:lW (Er ms.length) 271 282 271=281:=by as_aux_lemma=>kernel_rfl)(k2:K7 (ms++[[]]) (.aq (ms.length+1) 1)=KB [] 56 Tryd.f56 [1,1,1,1] (ms++[[]]) (.aq (ms.length+1) 1):=by as_aux_lemma=>kernel_rfl):
 SB B 56 (max Tryd.f56.ntmps 1) (az Tryd.f56) [] ms cap (.int .i64 0) (ms++[[]]):=by
 have hl:(ms++[[]]).length=ms.length+1:=by rw[List.length_append];rfl
 have h7:=h.1.2;refine On [1,1,1,1] mc h (.inl<|by rw[hl]) _ (WY (fun r hr=>⟨sc (mi 0) (rq hr q0) wW<|Gy (l:=[.slice (some (281,0)) (ms.length+1)<|.aq (ms.length+1) 1]) ⟨?_,trivial⟩ (by simp) rfl,sc (mi 1) (rq hr q1) wW<|Gy (w1 r hr) ?_<|Nf _,w2 r hr⟩) h1 h2) k k2
 ·rw[hl];exact(bg.slice<|rq hr q1).z
 ·rw[List.length_append,Ng];show ms.length+1<=8;omega
theorem aa2(mc:Mt [] B)(h:de ms)(hc:oU ms.length cap)(h6:ms.length<=6):SB B 56 (max Tryd.f56.ntmps 1) (az Tryd.f56) [] ms cap (.int .i64 0)<|ms++[[]]:=by
  have h2:=NU h ab
  rcases fP ⟨h.1.1,h6⟩ with⟨m0,rfl⟩|⟨m0,m1,rfl⟩|⟨m0,m1,m2,rfl⟩|⟨m0,m1,m2,m3,rfl⟩|⟨m0,m1,m2,m3,m4,rfl⟩|⟨m0,m1,m2,m3,m4,m5,rfl⟩
  all_goals rcases hc with rfl|⟨e,rfl⟩
  all_goals first
    |(cases e;done)
    | (refine ag8 mc h2 (fun r hr=>?_) fun r hr=>?_
       · repeat' first|exact trivial|refine⟨(bg.map<|rq hr).z,?_⟩
       · repeat' first|exact trivial|refine⟨sc (n:=279) (mi 2) (rq hr) Om<|Pk List.nodup_nil,?_⟩|refine⟨X1<|rq hr,?_⟩)
theorem TY{α:Type}{f g:α->AV}:∀{l:List α},(∀i∈l,jC [] r (f i)<|g i)->kK [] r (l.map f) (l.map g)
 |[],_=>trivial
 |_::_,h=>⟨h _ List.mem_cons_self,TY fun i hi=>h i<|List.mem_cons_of_mem _ hi⟩
theorem WZ{r:Nat->Nat}{o0:List<|Nat×Option ae}:∀{ms:bf} {k:Nat},(∀p∈qi k ms,(p.1,some p.2)∈o0)->(∀i,i<ms.length->r (k+i)=k+i)->zZ r o0 (aX<|qi k ms)
 |[],_,_,_=>trivial
 |m::ms,k,h,q=>⟨X1 (m:=k) (q 0<|Nat.succ_pos _)<|h _ List.mem_cons_self,WZ (fun p hp=>h p<|List.mem_cons_of_mem _ hp) fun i hi=>by have:=q (i+1)<|Nat.succ_lt_succ hi;rwa[show k+1+i=k+(i+1) by omega]⟩
theorem TZ:∀{l:List<|Nat×ae} {p:Nat×ae},p∈l->(p.1,some p.2)∈aX l
 |_::l,p,h=>by
  rcases List.mem_cons.1 h with rfl|h
  ·exact List.mem_cons_self
  ·exact List.mem_cons_of_mem _<|TZ h
def K8:List<|Nat×Nat:=[(271,271),(272,272),(273,273),(274,274),(275,275),(276,276),(277,277)]
theorem We(hr:r=lW K8 271 279)(i:Nat)(h:i<6):r (272+i)=272+i:=by rcases(by omega:i=0\/i=1\/i=2\/i=3\/i=4\/i=5) with rfl|rfl|rfl|rfl|rfl|rfl<;>exact rq hr
def G8(ms:bf):List<|Nat×Option ae:=(270,some<|aC hI [.slice (some (271,0)) ms.length<|.aq (ms.length+1) 1])::(271,some<|aC hI<|jQ<|ms.length+1)::aX (qi 272 ms)
theorem UM{path:List Nat}(h:de ms)(h6:ms.length<=6)(h1:zY K8 271 279 279 ((aX<|dL ms<|.aq ms.length 1).map (·.1))=true:=by as_aux_lemma=>kernel_rfl):G7 279 (G8 ms) ms (.aq ms.length 1) g nt path:=by refine WY (fun r hr=>⟨sc (mi 0) (rq hr) wW<|Gy (l:=[.slice (some (271,0)) ms.length<|.aq (ms.length+1) 1]) ⟨(adQ (rq hr) ab ab).z,trivial⟩ (by simp) rfl,sc (mi 1) (rq hr) wW ?_,WZ (fun p hp=>List.mem_cons_of_mem _<|List.mem_cons_of_mem _<|TZ hp) fun i hi=>We hr i ab⟩) h1;show fj [] r (.cells ((jQ<|ms.length+1).map hI).flatten.length (Tr.fill ((jQ<|ms.length+1).map hI).flatten 0 .nil) [])<|.cells ((jQ ms.length).map hI).flatten.length (Tr.fill ((jQ ms.length).map hI).flatten 0 .nil) [];rw[FF,FF,show jQ (ms.length+1)=jQ ms.length++[.map<|some<|272+ms.length] by rw[jQ,List.range_succ,List.map_append];rfl];exact Tf (by rw[List.length_append,Ng];show ms.length+1<=top;unfold top;omega) (TY fun i hi=>(bg.map<|We hr i (by have:=List.mem_range.1 hi;omega)).z)<|Nf _
theorem ag9(mc:Mt [] B)(h:de ms.dropLast)(h6:ms.dropLast.length<=6)(h1:zY K8 271 279 279 ((aX<|dL ms.dropLast<|.aq ms.dropLast.length 1).map (·.1))=true:=by as_aux_lemma=>kernel_rfl)(k:G7 279 (G8 ms.dropLast) ms.dropLast (.aq ms.dropLast.length 1) 55 (max Tryd.f55.ntmps 1) [1,1,1]=KA [] 55 Tryd.f55 ms cap [1,1,1] ms.dropLast (.aq ms.dropLast.length 1) (.st 3<|.rg<|.go 1<|.il<|.rt 19<|.go 5<|.en<|.st 2<|.rn [(2,i0)] (ar++G8 ms.dropLast) [(2,i0)] (ar++aX (dL ms.dropLast<|.aq ms.dropLast.length 1)) 279 279 .no):=by as_aux_lemma=>kernel_rfl)(k2:K7 ms.dropLast (.aq ms.dropLast.length 1)=KB [] 55 Tryd.f55 [1,1,1] ms.dropLast (.aq ms.dropLast.length 1):=by as_aux_lemma=>kernel_rfl):
 SB B 55 (max Tryd.f55.ntmps 1) (az Tryd.f55) [] ms cap (.int .i64 0) ms.dropLast:=
 On [1,1,1] mc h (.inl rfl) _ (UM h h6 h1) k k2
theorem aa3(mc:Mt [] B)(h:de ms)(hc:oU ms.length cap)(h2:2<=ms.length)(h6:ms.length<=6):SB B 55 (max Tryd.f55.ntmps 1) (az Tryd.f55) [] ms cap (.int .i64 0) ms.dropLast:=by
 have q:=NV h h2;have q6:ms.dropLast.length<=6:=by rw[List.length_dropLast];omega
 rcases hc with rfl|⟨e,_⟩
 rotate_left
 ·omega
 rcases fP ⟨h.1.1,h6⟩ with⟨m0,rfl⟩|⟨m0,m1,rfl⟩|⟨m0,m1,m2,rfl⟩|⟨m0,m1,m2,m3,rfl⟩|⟨m0,m1,m2,m3,m4,rfl⟩|⟨m0,m1,m2,m3,m4,m5,rfl⟩
 ·simp at h2
 all_goals exact ag9 mc q q6
def QH(a b:Nat)(m1 m2:List<|Int×Int)(s:AS):AS:=fl b (some<|bz m2)<|fl a (some<|bz<|fe m1 m2)<|aU b<|aU a<|dB 270 dG dT s
def Ca(ms:bf):AS:=⟨fR<|ar++(270,some<|aC hI [.slice (some (271,0)) (ms.length - 1)<|.aq ms.length 1])::(271,some<|aC hI<|jQ ms.length)::aX (qi 272 ms),279,279,[],[]⟩
abbrev X2(ms:bf):AS:=QH (272+(ms.length - 2)) (272+(ms.length - 1)) (xJ ms.dropLast) (xJ ms)<|Ca ms
theorem MG:∀{ms:bf},(∀m∈ms,dU m)->dU (xJ ms)
 |[],_=>List.nodup_nil
 |[m],h=>h m List.mem_cons_self
 |_::m::l,h=>MG (ms:=m::l) fun q hq=>h q<|List.mem_cons_of_mem _ hq
theorem afu(mc:Mt [yv] B)(h0:de ms)(hn:2<=ms.length)(h:de<|ga ms)(h6:(ga ms).length<=6)(h1:zY K8 271 279 279 ((aX<|dL (ga ms)<|.aq (ga ms).length 1).map (·.1))=true:=by as_aux_lemma=>kernel_rfl)(hk:pK 270 dG dT (Ca ms)=true:=by as_aux_lemma=>kernel_rfl)(ha:Nat.blt (272+(ms.length - 2)) (dB 270 dG dT<|Ca ms).nx=true:=by as_aux_lemma=>kernel_rfl)(hb:Nat.blt (272+(ms.length - 1)) (dB 270 dG dT<|Ca ms).nx=true:=by as_aux_lemma=>kernel_rfl)(g1:(dB 270 dG dT<|Ca ms).h.get (272+(ms.length - 2))=some (bz<|xJ ms.dropLast):=by as_aux_lemma=>kernel_rfl)(g2:(dB 270 dG dT<|Ca ms).h.get (272+(ms.length - 1))=some (bz<|xJ ms):=by as_aux_lemma=>kernel_rfl)(k:(bc pg (sp [yv]) FU 6 (.fn 59) [.map<|some<|272+(ms.length - 2),.map<|some<|272+(ms.length - 1)] (Ca ms)= .ok (.tuple []) (X2 ms)/\G7 279 (G8<|ga ms) (ga ms) (.aq (ga ms).length 1) 58 (max Tryd.f58.ntmps 1) [1,1,1,1])=KA [yv] 58 Tryd.f58 ms cap [1,1,1,1] (ga ms) (.aq (ga ms).length 1) (.st 3<|.rg<|.go 1<|.il<|.rt 19<|.go 5<|.en<|.st 4<|.rg<|.go 13<|.cu (.tuple []) (X2 ms)<|.en<|.st 2<|.rn [(2,i0)] (ar++G8 (ga ms)) [(2,i0)] (ar++aX (dL (ga ms)<|.aq (ga ms).length 1)) 279 279 .no):=by as_aux_lemma=>kernel_rfl)(k2:K7 (ga ms) (.aq (ga ms).length 1)=KB [yv] 58 Tryd.f58 [1,1,1,1] (ga ms) (.aq (ga ms).length 1):=by as_aux_lemma=>kernel_rfl):
 SB B 58 (max Tryd.f58.ntmps 1) (az Tryd.f58) [] ms cap (.int .i64 0) (ga ms):=
 have h7:=h0.1.2
 On [1,1,1,1] mc h (.inl rfl) _ ⟨UB (P:=pg) (sp:=sp [yv]) aW hk ab ha hb Gs Gs g1 g2 (MG fun m hm=>h0.2 m<|List.dropLast_subset _ hm)<|MG h0.2,UM h h6 h1⟩ k k2
theorem L9(mc:Mt [yv] B)(h:de ms)(hc:oU ms.length cap)(h2:2<=ms.length):SB B 58 (max Tryd.f58.ntmps 1) (az Tryd.f58) [] ms cap (.int .i64 0)<|ga ms:=by
 have q:=Il h h2;have q6:(ga ms).length<=6:=by have:=Hw ms h2;have:=h.1.2;omega
 rcases hc with rfl|⟨e,_⟩
 rotate_left
 ·omega
 rcases(F2 h.1).imp (fun q=>fP ⟨h.1.1,q⟩) id with(⟨m0,rfl⟩|⟨m0,m1,rfl⟩|⟨m0,m1,m2,rfl⟩|⟨m0,m1,m2,m3,rfl⟩|⟨m0,m1,m2,m3,m4,rfl⟩|⟨m0,m1,m2,m3,m4,m5,rfl⟩)|⟨m0,m1,m2,m3,m4,m5,m6,rfl⟩
 ·simp at h2
 all_goals exact afu mc h h2 q q6
def G9:Code:=aR pg 30 [1,1,0,1,0,0]
def Cc:Code:=aR pg 30 [1,1,0,1,0,1]
def sd:List<|Nat×AV:=[(3,(.ptr<|some (279,0))),(4,(.ptr<|some (280,0))),(5,(.ptr<|some (281,0))),(12,(.func (.func 74) [] [(.ptr<|some (282,0))]))]
def oG(n:Nat)(cap:bW)(x:Nat->Option ae)(v:Int)(w1 w2:AV):List<|Nat×Option ae:=ar++[(270,some<|WR n cap),(271,some<|aC hI<|jQ n),(272,x 0),(273,x 1),(274,x 2),(275,x 3),(276,x 4),(277,x 5),(279,some<|eH<|.int .i64 v),(280,some<|eH w1),(281,some<|eH w2),(282,some<|.cells 1 (Tr.fill [.ptr<|some (270,0)] 0 .nil) [])]
def sG(n:Nat)(cap:bW)(x:Nat->Option ae)(v:Int)(w1 w2:AV)(st:LoopState)(p:Option Code):AS:=ah (oG n cap x v w1 w2++[(283,some .defs),(284,some<|.loop st p 30 (aE sd) 22 [13] G9 Cc 283)]) 285
abbrev qN(n:Nat)(cap:bW)(x:Nat->Option ae)(v:Int):AS:=sG n cap x v (.int .i64 0) (.bool false) .ready none
def pc(n:Nat)(cap:bW)(x:Nat->Option ae)(v:Int):Option Int->AS
 |none=>qN n cap x v
 |some z=>sG n cap x v (.int .i64 z) (.bool true) .done<|some .ret
def oI(b:Bool)(z:Int):Option Int:=match b with
 |true=>some z
 |false=>none
def bP(b:Bool)(p q:Prop):Prop:=match b with
 |true=>p
 |false=>q
theorem rgT{A L:Prop}{m:List<|Int×Int}(b:Bool)(a:A)(hh:lB m v=b)(l:L):A/\((lB m v=true->bP b L False)/\(lB m v=false->bP b False L)):=by subst hh;refine⟨a,fun h=>?_,fun h=>?_⟩<;>(rw[h];exact l)
abbrev yp(n:Nat)(cap:bW)(x:Nat->Option ae)(v:Int)(i:Nat)(s:AS)(y:AV):Prop:=bc pg (sp []) FU 5 (.round 284) [.map<|some<|272+i] (qN n cap x v)= .ok y s
theorem rgW{n:Nat}{cap:bW}{x:Nat->Option ae}{m:List<|Int×Int}(b:Bool)(hx:x i=some (bz m))(hh:lB m v=b)(k1:getLoop 284 (qN n cap x v)= .ok (.loop .ready none 30 (aE sd) 22 [13] G9 Cc 283) (qN n cap x v):=by as_aux_lemma=>kernel_rfl)(k2:dV pg (bc pg (sp []) FU 4) 2 ⟨30,jw [13] [.map<|some<|272+i]<|aE sd,22,[.code G9,.beginRound,.code Cc],[],some 284⟩ (qN n cap x v)= .ok (.go ⟨30,((jw [13] [.map<|some<|272+i]<|aE sd).put 6<|some<|.map<|some<|272+i),22,[.code Cc],[],some 284⟩) (sG n cap x v (.int .i64 0) (.bool false) .busy none):=by as_aux_lemma=>kernel_rfl)(k:((x i=some (bz m))/\((lB m v=true->bP b ((none:Option Nat)=none/\([]:List Nat)=[]/\(some (.bool !b,pc n cap x v<|oI b<|getM m v):Option<|AV×AS)=some (.bool !b,pc n cap x v<|oI b<|getM m v)) False)/\(lB m v=false->bP b False ((none:Option Nat)=none/\([]:List Nat)=[]/\(some (.bool !b,pc n cap x v<|oI b<|getM m v):Option<|AV×AS)=some (.bool !b,pc n cap x v<|oI b<|getM m v)))))=wp (jM []) 900 4 (.fr 30 22 [.code Cc] ((jw [13] [.map<|some<|272+i]<|aE sd).put 6<|some<|.map<|some<|272+i)<|sG n cap x v (.int .i64 0) (.bool false) .busy none) (.st 2<|.rg<|.go 2<|.Xz m (@Bool.rec (fun _=>Pl) .no (.go 5<|.en<|.st 5<|.cut .no) b)<|@Bool.rec (fun _=>Pl) (.go 5<|.en<|.st 5<|.cut .no) .no b) [] (fun _ _ _=>False)
 (fun fr s1 _=>fr.round=none/\fr.defers=[]/\AK pg (bc pg (sp []) FU 4) 284 fr s1=some (.bool !b,pc n cap x v<|oI b<|getM m v)):=by as_aux_lemma=>kernel_rfl):yp n cap x v i (pc n cap x v<|oI b<|getM m v)<|.bool !b:=
 EC k1 rfl (Chunk.ev 2 _ _ _ _ k2<|CE (E:=jM []) eQ rfl (fun fr s p h=>EB h.1 h.2.1 h.2.2) 900 _ (rgT b hx hh<|G2 _ _) k)
theorem UN{n:Nat}{cap:bW}{x:Nat->Option ae}{m:List<|Int×Int}(b:Bool)(hi:i<6)(hx:x i=some (bz m))(hh:lB m v=b):yp n cap x v i (pc n cap x v<|oI b<|getM m v)<|.bool !b:=by rcases(by omega:i=0\/i=1\/i=2\/i=3\/i=4\/i=5) with rfl|rfl|rfl|rfl|rfl|rfl<;>cases b<;>exact rgW _ hx hh
def pD(s0 sE:AS)(b:Bool):Nat->Nat->Pl
 |j,0=> @Bool.rec (fun _=>Pl) (.rt 11 .no) (.st j<|.rg<|.go 8<|.cy (.bool false) sE<|.go 1<|.en<|.rt 2 .no) b
 |j,k+1=>.st j<|.rg<|.go 8<|.cy (.bool true) s0<|.go 1<|.en<|pD s0 sE b 13 k
def TD(n:Nat)(cap:bW)(x:Nat->Option ae)(v z:Int)(b:Bool):Nat->Nat->Prop
 |i,0=>bP b (yp n cap x v (i - 1) (pc n cap x v<|some z) (.bool false)/\(AV.tuple []= .tuple []/\pc n cap x v (some z)=pc n cap x v (some z)))<|AV.tuple []= .tuple []/\qN n cap x v=qN n cap x v
 |i,k+1=>yp n cap x v (i - 1) (qN n cap x v) (.bool true)/\TD n cap x v z b (i - 1) k
def xB(ms:bf)(i:Nat):Option ae:=(ms[i]?).map bz
theorem UO{n:Nat}{v:Int}(h6:ms.length<=6):∀i,i<=ms.length->∃k b z,((b=true/\k<i)\/(b=false/\k=i))/\gB ms v i=oI b z/\TD n cap (xB ms) v z b i k
 |0,_=>⟨0,false,0,.inr ⟨rfl,rfl⟩,rfl,rfl,rfl⟩
 |i+1,hi=>by
  have hx:xB ms i=some (bz<|ms.getD i []):=by unfold xB;rw[List.getD_eq_getElem?_getD,List.getElem?_eq_getElem ab];rfl
  cases hh:lB (ms.getD i []) v with
  |true=>exact⟨0,true,getM (ms.getD i []) v,.inl ⟨rfl,by omega⟩,by unfold gB;rw[hh];rfl,UN true ab hx hh,rfl,rfl⟩
  |false=>obtain⟨k,b,z,h1,h2,h3⟩:=UO (n:=n) h6 i ab;exact⟨k+1,b,z,h1.imp (fun h=>⟨h.1,by omega⟩) fun h=>⟨h.1,by omega⟩,by rw[←h2,gB,hh];rfl,UN false ab hx hh,h3⟩
abbrev QI(s0 sE:AS):Prop:=bc pg (sp []) FU 6 (.fn 74) [.yield 284,.ptr<|some (282,0)] s0= .ok (.tuple []) sE
theorem X3{n:Nat}{x:Nat->Option ae}{z:Int}{b:Bool}{k:Nat}(h:TD n cap x v z b n k)(q:TD n cap x v z b n k=wp (jM []) 900 5 (.fr 74 (max Tryd.f74.ntmps 2) (cO 74 []) (dt [.yield 284,.ptr<|some (282,0)])<|qN n cap x v) (pD (qN n cap x v) (pc n cap x v<|some z) b 12 k) (az Tryd.f74) (fun y s _=>y= .tuple []/\s=pc n cap x v (oI b z)) (fun _ _ _=>False):=by as_aux_lemma=>kernel_rfl):QI (qN n cap x v)<|pc n cap x v<|oI b z:=by obtain⟨y,s2,q1,rfl,rfl⟩:=rT.call (E:=jM []) (n:=5) (args:=[.yield 284,.ptr<|some (282,0)]) Tryd.func74 (E4 Tryd.func74 bY)<|FX (R:=fun y s=>y= .tuple []/\s=pc n cap x v (oI b z)) (C:=fun _ _ _=>False) eQ rfl (fun _ _ _ h=>h.elim) 900 _ h q;exact q1
theorem adT(h:1<=ms.length/\ms.length<=6):QI (qN ms.length cap (xB ms) v)<|pc ms.length cap (xB ms) v<|gB ms v ms.length:=by
 obtain⟨k,b,z,h1,h2,h3⟩:=UO (n:=ms.length) (cap:=cap) (v:=v) h.2 ms.length<|Nat.le_refl _;rw[h2];revert h1 h3;generalize xB ms=x;generalize ms.length=n at h;intro h1 h3;rcases(by omega:n=1\/n=2\/n=3\/n=4\/n=5\/n=6) with rfl|rfl|rfl|rfl|rfl|rfl<;>rcases h1 with⟨rfl,h1⟩|⟨rfl,rfl⟩
 all_goals first
  |(rcases(by omega:k=0\/k=1\/k=2\/k=3\/k=4\/k=5) with rfl|rfl|rfl|rfl|rfl|rfl<;>first|(exfalso;omega)|exact X3 h3)
  |exact X3 h3
def QJ:List Item:=[.inBlock 0,.code<|aR pg 30 [1,1,1]]
def Cd:AF:=⟨30,aE sd,max Tryd.f30.ntmps 2,.code (aR pg 30 [1,1,0,1,0])::QJ,[],none⟩
theorem aha:aR pg 30 [1,1,0,1,0]= .rangeFunc (.tmp 12) #[13] G9 Cc:=by kernel_rfl
def sZ(n:Nat)(cap:bW)(x:Nat->Option ae)(v:Int)(w1 w2:AV)(o:Option ae)(p:Option Code):AS:=ah (oG n cap x v w1 w2++[(283,o),(284,some<|.loop .exhausted p 30 (aE sd) 22 [13] G9 Cc 283)]) 285
theorem adU{o:Option ae}(h:1<=ms.length/\ms.length<=6):∀m q,(m,q)∈dL ms cap->(sZ ms.length cap (xB ms) v w1 w2 o p).h.get m=some q:=fun m q hm=>by
 rcases fP h with⟨m0,rfl⟩|⟨m0,m1,rfl⟩|⟨m0,m1,m2,rfl⟩|⟨m0,m1,m2,m3,rfl⟩|⟨m0,m1,m2,m3,m4,rfl⟩|⟨m0,m1,m2,m3,m4,m5,rfl⟩
 all_goals
  simp only[dL,qi,List.mem_cons,List.not_mem_nil,or_false] at hm
  repeat' (rcases hm with hm|hm)
  all_goals kernel_rfl
theorem X4{Y:AV}(mc:Mt [] B)(hb:de ms)(h6:ms.length<=6)(hc:oU ms.length cap){sE:AS}(dn:QI (qN ms.length cap (xB ms) v) sE)(h5:lM 284 sE= .ok p (sZ ms.length cap (xB ms) v w1 w2 (some .defs) p))(hd:Gw pg (bc pg (sp []) FU 6) (az Tryd.f30) 8 283 ⟨30,aE sd,max Tryd.f30.ntmps 2,andThen p QJ,[],none⟩ (sZ ms.length cap (xB ms) v w1 w2 (some .defs) p)=some (Y,sZ ms.length cap (xB ms) v w1 w2 none p)):
 au pg B 271 (iS XT pg (az Tryd.f30) 3 Y<|bI ms) Cd (ah (oG ms.length cap (xB ms) v (.int .i64 0)<|.bool false) 283):=by
 unfold Cd;rw[aha];exact au.chunk bH mc.2.2.1 mc.2.2.2 (Ih (gv:=.func (.func 74) [] [.ptr<|some (282,0)]) (s1:=ah (oG ms.length cap (xB ms) v (.int .i64 0) (.bool false)++[(283,some .defs)]) 284) bY bY bY dn h5) (by show 271<=283;omega)<|(M8 (l:=283) (k:=8) (fr:=⟨30,aE sd,max Tryd.f30.ntmps 2,andThen p QJ,[],none⟩) bH mc.2.2.1 mc.2.2.2 rfl rfl hd ⟨rfl,_,.buf _ hb cap hc,adU ⟨hb.1.1,h6⟩⟩).2.2 (by show 271<=285;omega)
theorem goG{y v':AV}(mc:Mt [] B)(H:au pg B 271 (iS XT pg (az Tryd.f30) 3 y v') Cd<|ah (oG ms.length cap (xB ms) v (.int .i64 0)<|.bool false) 283)(k:((sd.map (fun q=>some q.2)=sd.map (fun q=>some q.2))/\((oG ms.length cap (xB ms) v (.int .i64 0)<|.bool false).map (fun q=>q.2)=(oG ms.length cap (xB ms) v (.int .i64 0)<|.bool false).map (fun q=>q.2))/\(Cd=Cd/\ah (oG ms.length cap (xB ms) v (.int .i64 0)<|.bool false) 283=ah (oG ms.length cap (xB ms) v (.int .i64 0)<|.bool false) 283))=wp (o9 []) 900 6 (.fr 30 (max Tryd.f30.ntmps 2) (cO 30 []) (dt [.ptr<|some (270,0),.int .i64 v])<|ah (ar++aX (dL ms cap)) 279)
 (.st 9<|.rg<|.go 1<|.il<|.rt 5<|.en<|.st 1<|.ls sd (oG ms.length cap (xB ms) v (.int .i64 0)<|.bool false) 283 .no) (az Tryd.f30) (fun Y s _=>oV 3 y v' s Y) (fun fr s1 _=>fr=Cd/\s1=ah (oG ms.length cap (xB ms) v (.int .i64 0)<|.bool false) 283):=by as_aux_lemma=>kernel_rfl):
 au pg B 271 (iS XT pg (az Tryd.f30) 3 y v') (sF 30 Tryd.f30 [.ptr<|some (270,0),.int .i64 v]) (ah (ar++aX (dL ms cap)) 279):=
 B6 mc (fun fr s1 _ hC=>by obtain⟨rfl,rfl⟩:=hC;exact H) _ ⟨rfl,rfl,rfl,rfl⟩ k bY
theorem ace(mc:Mt [] B)(hb:de ms)(hc:oU ms.length cap)(h6:ms.length<=6):SB B 30 (max Tryd.f30.ntmps 2) (az Tryd.f30) [.int .i64 v] ms cap (.tuple [.int .i64 (kz ms v).1,.bool (kz ms v).2]) ms:=by
 have dn:=adT (cap:=cap) (v:=v) ⟨hb.1.1,h6⟩;have H:au pg B 271 (iS XT pg (az Tryd.f30) 3 (.tuple [.int .i64 (kz ms v).1,.bool (kz ms v).2])<|bI ms) Cd<|ah (oG ms.length cap (xB ms) v (.int .i64 0)<|.bool false) 283:=by
  unfold kz;revert dn;cases gB ms v ms.length with
  |none=>exact fun dn=>X4 mc hb h6 hc dn (w1:=.int .i64 0) (w2:=.bool false) (p:=none) bY bY
  |some z=>exact fun dn=>X4 mc hb h6 hc dn (w1:=.int .i64 z) (w2:=.bool true) (p:=some .ret) bY bY
 rcases fP ⟨hb.1.1,h6⟩ with⟨m0,rfl⟩|⟨m0,m1,rfl⟩|⟨m0,m1,m2,rfl⟩|⟨m0,m1,m2,m3,rfl⟩|⟨m0,m1,m2,m3,m4,rfl⟩|⟨m0,m1,m2,m3,m4,m5,rfl⟩<;>exact goG mc H
end
section
variable {L:bO}
theorem Fm{L0:bO}{fn:Func}{F:bf->List AV->Option (AV×bf)}(hP:bS pg)(h:aY L)(h0:aY L0)(cj:Tryd.prog.funcs[g]? =some fn)(H:∀a rest y a',F a rest=some (y,a')->max fn.ntmps (rest.length+1)<=top/\∀B cap,Mt L0 B->de a->oU a.length cap->SB B g (max fn.ntmps<|rest.length+1) fn.results.toList rest a cap y a')(ct:fn.body=some (aR pg g []):=by kernel_rfl)(hn:(fn.name == "runtime.NumGoroutine")=false:=by kernel_rfl):aY<|(g,.tok 3<|gV bI F)::L:=by
 refine NL yo hP gU rf jR jj mh lU h h0 cj ct hn fun v rest y v' e=>?_;obtain⟨a,a',rfl,e1,rfl⟩:=Ig e;obtain⟨q1,q2⟩:=H a rest y a' e1;refine⟨q1,fun L hx=>?_⟩;generalize hv:bI a=v at hx;cases hx with
 |buf b hb cap hc=>have:=sw _ _ hv;subst this;exact⟨279,by omega,aL.1 aW,Nc hb,fun B mc=>q2 B cap mc hb hc⟩
def F3:bf->List AV->Option (AV×bf)
 |a,[.int .i64 v,.int .i64 x]=>if a.length<=6 then some (.int .i64 0,kL a v x) else none
 |_,_=>none
def Bh:bf->List AV->Option (AV×bf)
 |a,[.int .i64 v]=>if a.length<=6 then some (.tuple [.int .i64 (kz a v).1,.bool (kz a v).2],a) else none
 |_,_=>none
def Jm:bf->List AV->Option (AV×bf)
 |a,[]=>if a.length<7 then some (.int .i64 0,a++[[]]) else none
 |_,_=>none
def Jn:bf->List AV->Option (AV×bf)
 |a,[]=>if 2<=a.length/\a.length<=6 then some (.int .i64 0,a.dropLast) else none
 |_,_=>none
def II:bf->List AV->Option (AV×bf)
 |a,[]=>if 2<=a.length then some (.int .i64 0,ga a) else none
 |_,_=>none
def F4:FuncId×KE:=(54,.tok 3<|gV bI F3)
def Oo:FuncId×KE:=(56,.tok 3<|gV bI Jm)
def Oq:FuncId×KE:=(55,.tok 3<|gV bI Jn)
def CR:FuncId×KE:=(58,.tok 3<|gV bI II)
def kO:FuncId×KE:=(30,.tok 3<|gV bI Bh)
theorem acf(hP:bS pg)(h:aY L):aY<|F4::L:=Fm hP h dc Tryd.func54 fun a rest y a' e=>by unfold F3 at e;split at e<;>(try split at e)<;>cases e;exact⟨aL.1 aW,fun B cap mc hb hc=>acd mc hb hc ‹_›⟩
theorem aa4(hP:bS pg)(h:aY L):aY<|Oo::L:=Fm hP h dc Tryd.func56 fun a rest y a' e=>by unfold Jm at e;split at e<;>(try split at e)<;>cases e;exact⟨aL.1 aW,fun B cap mc hb hc=>aa2 mc hb hc<|Nat.le_of_lt_succ ‹_›⟩
theorem aa5(hP:bS pg)(h:aY L):aY<|Oq::L:=Fm hP h dc Tryd.func55 fun a rest y a' e=>by unfold Jn at e;split at e<;>(try split at e)<;>cases e;rename_i q;exact⟨aL.1 aW,fun B cap mc hb hc=>aa3 mc hb hc q.1 q.2⟩
theorem aah(hP:bS pg)(h:aY L):aY<|CR::L:=Fm hP h (VA hP dc) Tryd.func58 fun a rest y a' e=>by unfold II at e;split at e<;>(try split at e)<;>cases e;exact⟨aL.1 aW,fun B cap mc hb hc=>L9 mc hb hc ‹_›⟩
theorem Im(hP:bS pg)(h:aY L):aY<|kO::L:=Fm hP h dc Tryd.func30 fun a rest y a' e=>by unfold Bh at e;split at e<;>(try split at e)<;>cases e;exact⟨aL.1 aW,fun B cap mc hb hc=>ace mc hb hc ‹_›⟩
def Pm:List AV->Option (Option AV×(AV->AV))
 |[]=>some (some<|bI [[]],fun p=>p)
 |_=>none
def Dt:FuncId×KE:=(23,.new 3 Pm)
def oN:List<|Nat×Option ae:=[(270,some<|xQ []),(271,some<|aC hI [.map<|some 270]),(272,some<|aC hI [.slice (some (271,0)) 1<|.known 1])]
theorem Ot:de [[]]:=⟨by show 1<=1/\1<=7;omega,fun m hm=>by rw[List.mem_singleton] at hm;subst hm;exact List.nodup_nil⟩
theorem afv:X0 270 273 279 [(0,.ptr<|some (272,0))] oN [(0,.ptr<|some (270,0))] (aX<|dL [[]]<|.known 1) ⟨23,aE [(0,.ptr<|some (270,0))],max Tryd.f23.ntmps 0,(cO 23 [1,1]),[],none⟩<|ah (ar++aX (dL [[]]<|.known 1)) 279:=⟨rfl,rfl,JU (ps:=[(270,272),(271,271),(272,270)]) ab bY bY (fun r hr _=>⟨⟨by unfold top;omega,_,mi 0,(bg.ptr<|rq hr).z⟩,trivial⟩) fun r hr _=>⟨sc (mi 2) (rq hr) wW<|Gy (l:=[.slice (some (271,0)) 1<|.known 1]) ⟨(bg.slice<|rq hr).z,trivial⟩ (by simp) rfl,sc (mi 1) (rq hr) wW<|Gy (l:=[.map<|some 270]) ⟨(bg.map<|rq hr).z,trivial⟩ (by simp) rfl,sc (mi 0) (rq hr) Om<|Pk List.nodup_nil,trivial⟩,rfl,rfl⟩
theorem acg(hP:bS pg)(h:aY L):aY<|Dt::L:=by
 refine Uv yo hP gU (aL.1 aW) jR jj h dc Tryd.func23 (body:=aR pg 23 []) aW aW fun args p e=>?_;unfold Pm at e;split at e<;>cases e;refine⟨aL.1 aW,fun e0=>(by cases e0),fun v e0=>?_⟩;injection e0 with e0;subst e0
 refine⟨za.ptr,fun B mc=>?_⟩;rw[←ij];exact wC mc (C:=fun fr s1 _=>fr=⟨23,aE [(0,.ptr<|some (270,0))],max Tryd.f23.ntmps 0,(cO 23 [1,1]),[],none⟩/\s1=ah (ar++aX (dL [[]]<|.known 1)) 279) (fun fr s1 _ hC=>by obtain⟨rfl,rfl⟩:=hC;exact wS mc (.rt 1 .no)<|Km (ms:=[[]]) (cap:=.known 1) 279 Ot (.inr ⟨rfl,rfl⟩)<|.ptr<|some (270,0)) (.st 4<|.rn [(0,.ptr<|some (272,0))] (ar++oN) [(0,.ptr<|some (270,0))] (ar++aX (dL [[]]<|.known 1)) 273 279 .no) afv
end
end
end gj
end
section
open Go Go.Rn Go.RowKit Go.Proofs
namespace gk
open ch eO cG cQ di fW fD gH gQ gW
variable {st:VS} {T:Prop} {v:AV} {x7 x6 x5 x4 x3 x2 x0:Int} {s:AS} {rest:List AV} {q lg G:Nat} {cap:bW} {L:bO}
noncomputable section
abbrev qO(L:bO):Env:=xX pg 270 dT dG L 273 true
def GB:FuncId×KE:=(50,.raw fun a b c=>vM a b c<|aP zg)
def l8(x0 x1 x2 x3 x4 x5 x6 x7:Int):List Int:=[x0,x1,x2,x3,x4,x5,x6,x7]
theorem evU{n m off len:Nat}{cs:List AV}{a b:AV}(h1:(a.hi&&(b.hi&&F5 len cap))=true)(hk:pK 270 dG dT s=true)(hm:Nat.blt m (dB 270 dG dT s).nx=true)(ht:Nat.blt m top=true)(h2:cellsOf ((dB 270 dG dT s).h.get m) off len=some cs)(h3:cs.all AV.gg=true)(h4:aP zg [a,.U (nm cs) 0 len,b]=some v)(h5:v.xK=true):
 bc pg (sp [GB]) FU (n+1) (.fn 50) [a,.slice (some (m,off)) len cap,b] s= .ok v (aU m<|dB 270 dG dT s):=
 aci (P:=pg) (sp:=sp [GB]) aW h1 hk hm ht h2 h3 h4 h5
theorem mL{y Y:AV}(e:Y=y)(h1:s.h.get 270=some (bT<|dO st.R 271 272))(h2:s.h.get 271=some (.tok 3 st.u))(h3:s.h.get 272=some (bT st.row)):Y=y/\∀m o,(m,o)∈dC 270 3 st->s.h.get m=some o:=by
 refine⟨e,fun m o hm=>?_⟩;simp only[dC,List.mem_cons,List.not_mem_nil,or_false] at hm;rcases hm with hm|hm|hm<;>(injection hm with a b;subst a;subst b)
 ·exact h1
 ·exact h2
 ·exact h3
theorem afy{e:Ex}{aA:List Int}{x1:Int}(hg:dv encI 1 (.U G q lg) aA):aP zg [.agg<|aD e,.U (nm [.int .i64 x0,.int .i64 x1,.int .i64 x2,.int .i64 x3,.int .i64 x4,.int .i64 x5,.int .i64 x6,.int .i64 x7]) 0 8,.U G q lg]=some (DN<|zf e (l8 x0 x1 x2 x3 x4 x5 x6 x7) aA):=eK zg.bM ⟨e,_,0,8,G,q,lg,l8 x0 x1 x2 x3 x4 x5 x6 x7,aA,rfl,dv.aw eI<|l8 x0 x1 x2 x3 x4 x5 x6 x7,hg,rfl⟩
noncomputable abbrev Ou(vars:Int)(G q lg:Nat)(x0 x1 x2 x3 x4 x5 x6 x7:Int)(len:Nat)(cap:bW)(steps:Int)(u:AV)(row:List AV)(op n:Int)(N L:Nat):List<|Nat×Option ae:=ar++[(270,some<|.cells 13 (Tr.fill [(i6 vars),(.U G q lg),(i6 x0),(i6 x1),(i6 x2),(i6 x3),(i6 x4),(i6 x5),(i6 x6),(i6 x7),(.ptr<|some (271,0)),(.slice (some (272,0)) (len) cap),(i6 steps)] 0 .nil) []),(271,(some<|.tok 3 u)),(272,(some<|bT row)),(273,some<|.cells 3 (Tr.fill [(u8<|op),(i6 n),(.U N 0 L)] 0 .nil) [])]
theorem ahc{B:aJ}{vars steps x1:Int}{len:Nat}{u:AV}{row:List AV}{N L:Nat}{op n z f:Int}(mc:Mt [GB] B)(hG:(((.agg [(u8<|op),(i6 n),(.U N 0 L)]):AV).hi&&((.U G q lg:AV).hi&&F5 8 (.known 8)))=true)(he:aP zg [(.agg [(u8<|op),(i6 n),(.U N 0 L)]),.U (nm [.int .i64 x0,.int .i64 x1,.int .i64 x2,.int .i64 x3,.int .i64 x4,.int .i64 x5,.int .i64 x6,.int .i64 x7]) 0 8,.U G q lg]=some (.tuple [.int .i64 z,.int .i64 f])):au pg B 273 (gX 270 3 pg (az Tryd.f27) (.int .i64 z) (⟨(⟨[.int .i64 vars,.U G q lg,.int .i64 x0,.int .i64 x1,.int .i64 x2,.int .i64 x3,.int .i64 x4,.int .i64 x5,.int .i64 x6,.int .i64 x7],len,cap,[.int .i64 steps]⟩:RS),u,row⟩:VS)) (sF 27 Tryd.f27 [(.ptr<|some (270,0)),(.agg [(u8<|op),(i6 n),(.U N 0 L)])])<|ah (ar++aX (dC 270 3 (⟨(⟨[.int .i64 vars,.U G q lg,.int .i64 x0,.int .i64 x1,.int .i64 x2,.int .i64 x3,.int .i64 x4,.int .i64 x5,.int .i64 x6,.int .i64 x7],len,cap,[.int .i64 steps]⟩:RS),u,row⟩:VS))) 273:=by exact lZ (E:=qO [GB]) eQ rfl bH mc.2.2.1 mc.2.2.2 900 (.st 3<|.rg<|.go 9<|.cu (.tuple [(i6 z),(i6 f)]) (aU 270<|dB 270 dG dT (⟨fR<|Ou vars G q lg x0 x1 x2 x3 x4 x5 x6 x7 len cap steps u row op n N L,274,274,[],[]⟩:AS))<|.go 5<|.en<|.rt 3 .no)<|ai (evU (n:=5) (m:=270) (off:=2) (len:=8) (cap:=.known 8) (cs:=[.int .i64 x0,.int .i64 x1,.int .i64 x2,.int .i64 x3,.int .i64 x4,.int .i64 x5,.int .i64 x6,.int .i64 x7]) (s:=(⟨fR<|Ou vars G q lg x0 x1 x2 x3 x4 x5 x6 x7 len cap steps u row op n N L,274,274,[],[]⟩:AS)) hG bU bU bU bU bU he bU)<|mL (st:=(⟨(⟨[.int .i64 vars,.U G q lg,.int .i64 x0,.int .i64 x1,.int .i64 x2,.int .i64 x3,.int .i64 x4,.int .i64 x5,.int .i64 x6,.int .i64 x7],len,cap,[.int .i64 steps]⟩:RS),u,row⟩:VS)) (s:=ah (Ou vars G q lg x0 x1 x2 x3 x4 x5 x6 x7 len cap steps u row op n N L) 274) (show((i6 z):AV)=(.int .i64 z) from rfl) bU bU bU
open Classical in
def vR(R:VS->List AV->AV->Prop)(st:VS)(rest:List AV):Option AV:=if h:∃v,R st rest v then some h.choose else none
theorem FG{R:VS->List AV->AV->Prop}(h:vR R st rest=some v):R st rest v:=by
 unfold vR at h;split at h
 ·rename_i q;injection h with h;rw[←h];exact q.choose_spec
 ·cases h
theorem Du{R:VS->List AV->AV->Prop}(hd:∀st rest v v',R st rest v->R st rest v'->v=v')(h:R st rest v):vR R st rest=some v:=by unfold vR;have q:∃v,R st rest v:=⟨v,h⟩;rw[dif_pos q,hd _ _ _ _ q.choose_spec h]
structure MN where
 vars:Int
 G:Nat
 q:Nat
 lg:Nat
 aA:List Int
 x0:Int
 x1:Int
 x2:Int
 x3:Int
 x4:Int
 x5:Int
 x6:Int
 x7:Int
 steps:Int
def MN.l(a:MN):List Int:=l8 a.x0 a.x1 a.x2 a.x3 a.x4 a.x5 a.x6 a.x7
def MN.pre(a:MN):List AV:=[.int .i64 a.vars,.U a.G a.q a.lg,.int .i64 a.x0,.int .i64 a.x1,.int .i64 a.x2,.int .i64 a.x3,.int .i64 a.x4,.int .i64 a.x5,.int .i64 a.x6,.int .i64 a.x7]
def MN.row(a:MN)(x y z:AV):List AV:=a.pre++[x,y,z]
abbrev vG(r:Nat):AS->AS:=Wf 270 dG dT 270 271 r
abbrev vF(r:Nat)(st:VS):AS->AS:=JV 270 dG dT 3 270 271 r st
abbrev vQ(r:Nat)(st:VS):AS->Prop:=F9 270 dG dT 3 270 271 r st
abbrev K9(st:VS)(r:Nat)(T:Prop):Prop:=(true=true/\true=true/\some (bT<|dO st.R 271 r)=some (bT<|dO st.R 271 r)/\some (ae.tok 3 st.u)=some (.tok 3 st.u)/\some (bT st.row)=some (bT st.row))/\T
abbrev Lc(r:Nat):Bool:= !Nat.beq 270 271&&(!Nat.beq 270 r&& !Nat.beq 271 r)
abbrev Lf(r:Nat):Bool:=Nat.blt 270 top&&(Nat.blt 271 top&&Nat.blt r top)
theorem jK(L:bO)(g r:Nat)(val:VS->List AV->Option AV)(rest:List AV)(st:VS)(y:AV)(ho:bD 10 st=true)(hv:val st rest=some y)(hr:rest.all AV.hi=true)(hy:y.hi=true)(t:T)(h1:sp L g=some (mZ 10 3 val 270 dT dG):=by as_aux_lemma=>kernel_rfl)(h2:Lc r=true:=by as_aux_lemma=>kernel_rfl)(h3:Lf r=true:=by as_aux_lemma=>kernel_rfl)(h4:st.R.pre.length=10:=by rfl):(∀s,vQ r st s->bc pg (sp L) FU 6 (.fn g) (.ptr (some (270,0))::rest) s= .ok y (vG r s))/\K9 st r T:=⟨ack (P:=pg) (F:=FU) (n:=5) h1 hr h2 h3 h4 ho hv hy,⟨rfl,rfl,rfl,rfl,rfl⟩,t⟩
theorem yw(L:bO)(g r:Nat)(val:VS->List AV->Option AV)(rest:List AV)(st:VS)(y:AV)(ho:bD 10 st=true)(hv:val st rest=some y)(t:T)(hr:rest.all AV.hi=true:=by as_aux_lemma=>kernel_rfl)(hy:y.hi=true:=by as_aux_lemma=>kernel_rfl)(h1:sp L g=some (mZ 10 3 val 270 dT dG):=by as_aux_lemma=>kernel_rfl)(h2:Lc r=true:=by as_aux_lemma=>kernel_rfl)(h3:Lf r=true:=by as_aux_lemma=>kernel_rfl)(h4:st.R.pre.length=10:=by rfl):(∀s,vQ r st s->bc pg (sp L) FU 6 (.fn g) (.ptr (some (270,0))::rest) s= .ok y (vG r s))/\K9 st r T:=jK L g r val rest st y ho hv hr hy t h1 h2 h3 h4
theorem Ya(L:bO)(g r:Nat)(val:VS->List AV->Option (AV×VS))(rest:List AV)(st aV:VS)(ho:bD 10 st=true)(hv:val st rest=some (.tuple [],aV))(kE:bD 10 aV=true)(hr:rest.all AV.hi=true)(t:T)(h1:sp L g=some (mY 10 3 val 270 dT dG):=by as_aux_lemma=>kernel_rfl)(h2:Lc r=true:=by as_aux_lemma=>kernel_rfl)(h3:Lf r=true:=by as_aux_lemma=>kernel_rfl)(h4:st.R.pre.length=10:=by rfl):(∀s,vQ r st s->bc pg (sp L) FU 6 (.fn g) (.ptr (some (270,0))::rest) s= .ok (.tuple []) (vF r aV s))/\K9 st r T:=⟨NW (P:=pg) (F:=FU) (n:=5) h1 hr h2 h3 h4 ho hv rfl kE,⟨rfl,rfl,rfl,rfl,rfl⟩,t⟩
theorem vZ(L:bO)(g r:Nat)(val:VS->List AV->Option (AV×VS))(rest:List AV)(st aV:VS)(ho:bD 10 st=true)(hv:val st rest=some (.tuple [],aV))(kE:bD 10 aV=true)(t:T)(hr:rest.all AV.hi=true:=by as_aux_lemma=>kernel_rfl)(h1:sp L g=some (mY 10 3 val 270 dT dG):=by as_aux_lemma=>kernel_rfl)(h2:Lc r=true:=by as_aux_lemma=>kernel_rfl)(h3:Lf r=true:=by as_aux_lemma=>kernel_rfl)(h4:st.R.pre.length=10:=by rfl):(∀s,vQ r st s->bc pg (sp L) FU 6 (.fn g) (.ptr (some (270,0))::rest) s= .ok (.tuple []) (vF r aV s))/\K9 st r T:=Ya L g r val rest st aV ho hv kE hr t h1 h2 h3 h4
def sf(st:VS)(a:MN):Prop:=st.R.pre=a.pre/\st.R.post=[.int .i64 a.steps]/\dv encI 1 (.U a.G a.q a.lg) a.aA
theorem sf.inj{a b:MN}(h:sf st a)(k:sf st b):a=b:=by obtain⟨h1,h2,h3⟩:=h;obtain⟨k1,k2,k3⟩:=k;rw[h1] at k1;rw[h2] at k2;obtain⟨a1,a2,a3,a4,a5,c0,c1,c2,c3,c4,c5,c6,c7,a6⟩:=a;obtain⟨b1,b2,b3,b4,b5,d0,d1,d2,d3,d4,d5,d6,d7,b6⟩:=b;simp only[MN.pre,List.cons.injEq,AV.int.injEq,AV.U.injEq,true_and,_root_.and_true] at k1 k2;obtain⟨rfl,⟨rfl,rfl,rfl⟩,rfl,rfl,rfl,rfl,rfl,rfl,rfl,rfl⟩:=k1;subst k2;have e5:a5=b5:=dv.inj sB h3 k3;subst e5;rfl
def ji(st:VS)(rest:List AV)(v:AV):Prop:=∃(a:MN) (e:Ex),sf st a/\rest=[.agg<|aD e]/\v= .int .i64 (zf e a.l a.aA).1
theorem ji.bM(st:VS)(rest:List AV)(v v':AV)(h:ji st rest v)(h':ji st rest v'):v=v':=by obtain⟨a,e,h1,rfl,rfl⟩:=h;obtain⟨a',e',k1,h2,rfl⟩:=h';simp only[List.cons.injEq,AV.agg.injEq,_root_.and_true] at h2;rw[nr _ _ h2,h1.inj k1]
def iL:FuncId×KE:=(27,.raw<|mZ 10 3<|vR ji)
theorem xY:270+3<=top:=aL.1 aW
theorem adX(hP:bS pg)(h:aY L):aY<|GB::L:=by
 refine adW hP gU rf jR jj h (UD hP<|TP hP 6 dc) Tryd.func50 (body:=aR pg 50 []) aW aW fun args v e=>?_;obtain⟨⟨op,n,l⟩,M,p,lm,G,q,lg,lo,aA,rfl,i1,i2,rfl⟩:=fV e;refine⟨aL.1 aW,fun B mc=>?_⟩;rw[←ij];have c:=Og (e:=.mk op n l);have d:bit (eL 6<|.mk op n l)=1->_:=fun h=>NQ (k:=6) (e:=.mk op n l) i1 i2 (by rw[←wV (eL 6<|.mk op n l)];exact decide_eq_true h);have key:=ae9 (x:=bit<|eL 6<|.mk op n l) (u:=(ly 6 (.mk op n l) lo aA).1) (f:=(ly 6 (.mk op n l) lo aA).2) (N:=nm<|cH l) (L:=l.length) (op:=op) (n:=n) mc (by rw[wV];rw[aD] at c;exact c) (fun h=>by have:=d h;rw[aD] at this;exact this);unfold zf;rw[aD];cases q:eL 6 (.mk op n l) with
 |true=>rw[q,if_pos (show bit true=1 from rfl)] at key;rw[if_pos rfl];exact key
 |false=>rw[q,if_neg (show ¬(bit false=1) by decide)] at key;rw[if_neg (by intro h;cases h)];exact key
theorem CS(hP:bS pg)(h:aY L):aY<|iL::L:=by refine ES hP gU xY jR jj mh lU h (adX hP dc) Tryd.func27 (body:=aR pg 27 []) aW aW fun st rest y e _=>?_;obtain⟨a,⟨op,n,l⟩,⟨h1,h2,h3⟩,rfl,rfl⟩:=FG e;refine⟨aL.1 aW,fun B mc=>?_⟩;obtain⟨⟨pre,len,cap,post⟩,u,row⟩:=st;simp only at h1 h2;subst h1;subst h2;have q:=afy (e:=.mk op n l) (x0:=a.x0) (x1:=a.x1) (x2:=a.x2) (x3:=a.x3) (x4:=a.x4) (x5:=a.x5) (x6:=a.x6) (x7:=a.x7) h3;rw[aD] at q ⊢;exact ahc mc (and_true.2 ⟨by rw[←aD];exact Bf _,and_true.2 ⟨h3.hi,rfl⟩⟩) q
end
end gk
end
section
open Go Go.Rn Go.RowKit Go.Proofs
namespace hU
open ch eO cG cQ di fW fD gH gQ gW gk
noncomputable abbrev A7(a:MN)(len:Nat)(cap:bW)(u:AV)(row:List AV):VS:=(⟨(⟨a.pre,len,cap,[.int .i64 a.steps]⟩:RS),u,row⟩:VS)
theorem ahd{B:aJ}{a:MN}{len:Nat}{cap:bW}{u:AV}{row:List AV}{N L:Nat}{op n z v f:Int}(mc:Mt [iL,Kh] B)(hO:bD 10 (A7 a len cap u row)=true)(hA:([(.agg [(u8<|op),(i6 n),(.U N 0 L)])]:List AV).all AV.hi=true)(hz:vR ji (A7 a len cap u row) [(.agg [(u8<|op),(i6 n),(.U N 0 L)])]=some (.int .i64 z))(hv:ba (aP Bx) [.int .i64 z,.int .i64 a.vars]=some (.tuple [.int .i64 v,.int .i64 f])):au pg B 273 (gX 270 3 pg (az Tryd.f29) (.int .i64 v)<|A7 a len cap u row) (sF 29 Tryd.f29 [(.ptr<|some (270,0)),(.agg [(u8<|op),(i6 n),(.U N 0 L)])])<|ah (ar++aX (dC 270 3<|A7 a len cap u row)) 273:=by exact lZ (E:=qO [iL,Kh]) eQ rfl bH mc.2.2.1 mc.2.2.2 900 (.st 3<|.rg<|.go 2<|.cg (i6 z) (vG 272) (vQ 272<|A7 a len cap u row)<|.go 4<|.kn (.tuple [(i6 v),(i6 f)])<|.go 5<|.en<|.rt 3 .no)<|jK [iL,Kh] 27 272 (vR ji) [(.agg [(u8<|op),(i6 n),(.U N 0 L)])] (A7 a len cap u row) (i6 z) hO hz hA bU<|ai hv<|mL (st:=(A7 a len cap u row)) (s:=ah (ar++[(270,some<|.cells 13 (Tr.fill (a.row (.ptr<|some (271,0)) (.slice (some (272,0)) (len) cap)<|i6 a.steps) 0 .nil) []),(271,(some<|.tok 3 u)),(272,(some<|bT row)),(273,some<|.cells 3 (Tr.fill [(u8<|op),(i6 n),(.U N 0 L)] 0 .nil) [])]) 274) (show((i6 v):AV)=(.int .i64 v) from rfl) bU bU bU
def nK(st:VS)(rest:List AV)(v:AV):Prop:=∃(a:MN) (e:Ex) (x f:Int),sf st a/\rest=[.agg<|aD e]/\a.vars<=1099511627776/\tM (zf e a.l a.aA).1 a.vars= .tuple [.int .i64 x,.int .i64 f]/\v= .int .i64 x
theorem nK.bM(st:VS)(rest:List AV)(v v':AV)(h:nK st rest v)(h':nK st rest v'):v=v':=by obtain⟨a,e,x,f,h1,rfl,_,h2,rfl⟩:=h;obtain⟨a',e',x',f',k1,k0,_,k2,rfl⟩:=h';simp only[List.cons.injEq,AV.agg.injEq,_root_.and_true] at k0;have e1:=h1.inj k1;subst e1;rw[←nr _ _ k0,h2] at k2;simp only[AV.tuple.injEq,List.cons.injEq,AV.int.injEq,true_and] at k2;rw[k2.1]
noncomputable def jE:FuncId×KE:=(29,.raw<|mZ 10 3<|vR nK)
theorem Fo(hP:bS pg){L:bO}(h:aY L):aY<|jE::L:=by
 refine ES hP gU xY jR jj mh lU h (CS hP<|adu hP dc) Tryd.func29 (body:=aR pg 29 []) aW aW fun st rest y e eo=>?_;obtain⟨a,⟨op,n,l⟩,x,f,hM,rfl,hm,hx,rfl⟩:=FG e;refine⟨aL.1 aW,fun B mc=>?_⟩;have hz:vR ji st [.agg<|aD<|.mk op n l]=some _:=Du ji.bM ⟨a,_,hM,rfl,rfl⟩;obtain⟨h1,h2,h3⟩:=hM;obtain⟨⟨pre,len,cap,post⟩,u,row⟩:=st;simp only at h1 h2;subst h1;subst h2;have hA:([AV.agg<|aD<|.mk op n l]:List AV).all AV.hi=true:=by rw[List.all_cons,Bf];rfl
 have hv:ba (aP Bx) [.int .i64 (zf (.mk op n l) a.l a.aA).1,.int .i64 a.vars]=some (.tuple [.int .i64 x,.int .i64 f]):=eP (eK Bx.bM ⟨_,_,rfl,hm,hx.symm⟩) rfl rfl;rw[aD] at hz hA ⊢;exact ahd mc eo hA hz hv
end hU
end
section
open Go Go.Rn Go.RowKit Go.Proofs
namespace iC
open ch eO cG dj cQ di fW fD gH gQ gW gk hU gj
variable {cap:bW} {u:AV} {to aF n2 kind v:Int} {a:MN} {N4 N3 N2 N L4 L3 L2 L:Nat} {B:aJ}
theorem Ux(l:List AV){k:Nat}(h:k<13)(hl:l.length=13:=by rfl):l[k]? =some (l.getD k<|.tuple []):=by rw[List.getD_eq_getElem?_getD,List.getElem?_eq_getElem ab];rfl
theorem Uy{pre post:List AV}{len i r1 r2:Nat}{c:AV}(h:i<pre.length):aC ng ((dO ⟨pre,len,cap,post⟩ r1 r2).set i c)=bT (dO ⟨pre.set i c,len,cap,post⟩ r1 r2):=by
 have e:(dO ⟨pre,len,cap,post⟩ r1 r2).set i c=dO ⟨pre.set i c,len,cap,post⟩ r1 r2:=by unfold dO;exact List.set_append_left _ _ h
 rw[e];unfold aC bT;rw[Dr]
noncomputable abbrev Vs(a:MN)(len:Nat)(cap:bW)(to z:Int)(u:AV)(row:List AV)(kind op n:Int)(N L:Nat)(aF n2:Int)(N2 L2 N3 L3 N4 L4:Nat):List<|Nat×Option ae:=ar++[(270,(some<|aC ng<|((a.row (.ptr<|some (271,0)) (.slice (some (272,0)) (len) cap)<|i6 a.steps):List AV).set (2+to.toNat)<|i6 z)),(271,(some<|.tok 3 u)),(272,(some<|bT row)),(273,some<|.cells 10 (Tr.fill [(u8<|kind),(i6 to),(u8<|op),(i6 n),(.U N 0 L),(u8<|aF),(i6 n2),(.U N2 0 L2),(.U N3 0 L3),(.U N4 0 L4)] 0 .nil) [])]
noncomputable abbrev mD(a:MN)(len:Nat)(cap:bW)(u:AV)(row:List AV):VS:=(⟨(⟨a.pre,len,cap,[.int .i64 a.steps]⟩:RS),u,row⟩:VS)
noncomputable abbrev xr(op n:Int)(N L:Nat):List AV:=[(.agg [(u8<|op),(i6 n),(.U N 0 L)])]
theorem ahe{len:Nat}{row:List AV}{op n:Int}{z:Int}(mc:Mt [iL] B)(hO:bD 10 (mD a len cap u row)=true)(h0:0<=to)(h8:to<8)(hA:((xr op n N L):List AV).all AV.hi=true)(hz:vR ji (mD a len cap u row) (xr op n N L)=some (.int .i64 z)):au pg B 273 (gX 270 3 pg (az Tryd.f31) (.tuple []) (⟨⟨(a.pre:List AV).set (2+to.toNat)<|.int .i64 z,len,cap,[.int .i64 a.steps]⟩,u,row⟩:VS)) (sF 31 Tryd.f31 [(.ptr<|some (270,0)),(.agg [(u8<|kind),(i6 to),(u8<|op),(i6 n),(.U N 0 L),(u8<|aF),(i6 n2),(.U N2 0 L2),(.U N3 0 L3),(.U N4 0 L4)])])<|ah (ar++aX (dC 270 3<|mD a len cap u row)) 273:=by exact lZ (E:=qO [iL]) eQ rfl bH mc.2.2.1 mc.2.2.2 900 (.st 2<|.rg<|.go 6<|.cg (i6 z) (vG 272) (vQ 272<|mD a len cap u row)<|.go 2<|.KR<|.mr (aC ng<|((a.row (.ptr<|some (271,0)) (.slice (some (272,0)) (len) cap)<|i6 a.steps):List AV).set (2+to.toNat)<|i6 z)<|.en<|.rt 1 .no)<|jK [iL] 27 272 (vR ji) (xr op n N L) (mD a len cap u row) (i6 z) hO hz hA bU XK
theorem afz{len:Nat}{row:List AV}{op n:Int}{z:Int}{fb:Bool}(mc:Mt [jE,kO] B)(hO:bD 10 (mD a len cap u row)=true)(h0:0<=to)(h8:to<8)(hA:((xr op n N L):List AV).all AV.hi=true)(hv:vR nK (mD a len cap u row) (xr op n N L)=some (.int .i64 v))(hg:iK (gV bI Bh) u [.int .i64 v]=some (.tuple [.int .i64 z,.bool fb],u)):au pg B 273 (gX 270 3 pg (az Tryd.f32) (.tuple []) (⟨⟨(a.pre:List AV).set (2+to.toNat)<|.int .i64 z,len,cap,[.int .i64 a.steps]⟩,u,row⟩:VS)) (sF 32 Tryd.f32 [(.ptr<|some (270,0)),(.agg [(u8<|kind),(i6 to),(u8<|op),(i6 n),(.U N 0 L),(u8<|aF),(i6 n2),(.U N2 0 L2),(.U N3 0 L3),(.U N4 0 L4)])])<|ah (ar++aX (dC 270 3<|mD a len cap u row)) 273:=by exact lZ (E:=qO [jE,kO]) eQ rfl bH mc.2.2.1 mc.2.2.2 900 (.st 2<|.rg<|.go 6<|.ld [(.ptr<|some (271,0))]<|.go 3<|.cg (i6 v) (vG 272) (vQ 272<|mD a len cap u row)<|.kt (.tuple [(i6 z),(.bool fb)]) u<|.go 5<|.KR<|.mr (aC ng<|((a.row (.ptr<|some (271,0)) (.slice (some (272,0)) (len) cap)<|i6 a.steps):List AV).set (2+to.toNat)<|i6 z)<|.en<|.rt 1 .no)<|ai WL<|jK [jE,kO] 29 272 (vR nK) (xr op n N L) (mD a len cap u row) (i6 v) hO hv hA bU<|ai hg XK
theorem adY{len:Nat}{row:List AV}{op n:Int}{z:Int}{u':AV}(mc:Mt [jE,iL,F4] B)(hO:bD 10 (mD a len cap u row)=true)(hA:((xr op n N L):List AV).all AV.hi=true)(hB:([(.agg [(u8<|aF),(i6 n2),(.U N2 0 L2)])]:List AV).all AV.hi=true)(hv:vR nK (mD a len cap u row) (xr op n N L)=some (.int .i64 v))(hz:vR ji (mD a len cap u row) [(.agg [(u8<|aF),(i6 n2),(.U N2 0 L2)])]=some (.int .i64 z))(hp:iK (gV bI F3) u [.int .i64 v,.int .i64 z]=some ((.int .i64 0:AV),u')):au pg B 273 (gX 270 3 pg (az Tryd.f33) (.tuple []) (⟨(⟨a.pre,len,cap,[.int .i64 a.steps]⟩:RS),u',row⟩:VS)) (sF 33 Tryd.f33 [(.ptr<|some (270,0)),(.agg [(u8<|kind),(i6 to),(u8<|op),(i6 n),(.U N 0 L),(u8<|aF),(i6 n2),(.U N2 0 L2),(.U N3 0 L3),(.U N4 0 L4)])])<|ah (ar++aX (dC 270 3<|mD a len cap u row)) 273:=by exact lZ (E:=qO [jE,iL,F4]) eQ rfl bH mc.2.2.1 mc.2.2.2 900 (.st 2<|.rg<|.go 3<|.ld [(.ptr<|some (271,0))]<|.go 3<|.cg (i6 v) (vG 272) (vQ 272<|mD a len cap u row)<|.go 3<|.cg (i6 z) (vG 272) (vQ 272<|mD a len cap u row)<|.kt i0 u'<|.en<|.rt 1 .no)<|ai WL<|jK [jE,iL,F4] 29 272 (vR nK) (xr op n N L) (mD a len cap u row) (i6 v) hO hv hA bU<|jK [jE,iL,F4] 27 272 (vR ji) [(.agg [(u8<|aF),(i6 n2),(.U N2 0 L2)])] (mD a len cap u row) (i6 z) hO hz hB bU<|ai hp<|mL (st:=(⟨(⟨a.pre,len,cap,[.int .i64 a.steps]⟩:RS),u',row⟩:VS)) (s:=ah (ar++[(270,(some<|aC ng<|a.row (.ptr<|some (271,0)) (.slice (some (272,0)) (len) cap)<|i6 a.steps)),(271,(some<|.tok 3 u')),(272,(some<|bT row)),(273,some<|.cells 10 (Tr.fill [(u8<|kind),(i6 to),(u8<|op),(i6 n),(.U N 0 L),(u8<|aF),(i6 n2),(.U N2 0 L2),(.U N3 0 L3),(.U N4 0 L4)] 0 .nil) [])]) 274) (show((.tuple []):AV)= .tuple [] from rfl) (bU) bU bU
end iC
end
section
open Go Go.Rn Go.RowKit Go.Proofs
namespace iD
open ch eO cG dj cQ di fW fD gH gQ gW gk hU iC gj
variable {L:bO} {v:AV×VS} {st:VS} {rest:List AV}
noncomputable section
open Classical in
def dH(R:VS->List AV->AV×VS->Prop)(st:VS)(rest:List AV):Option<|AV×VS:=if h:∃v,R st rest v then some h.choose else none
theorem IK{R:VS->List AV->AV×VS->Prop}(h:dH R st rest=some v):R st rest v:=by
 unfold dH at h;split at h
 ·rename_i q;injection h with h;rw[←h];exact q.choose_spec
 ·cases h
theorem Jo{R:VS->List AV->AV×VS->Prop}(hd:∀st rest v v',R st rest v->R st rest v'->v=v')(h:R st rest v):dH R st rest=some v:=by unfold dH;have q:∃v,R st rest v:=⟨v,h⟩;rw[dif_pos q,hd _ _ _ _ q.choose_spec h]
def vB(st:VS)(i z:Int):VS:=⟨⟨st.R.pre.set (2+i.toNat)<|.int .i64 z,st.R.len,st.R.cap,st.R.post⟩,st.u,st.row⟩
def aiE(st:VS)(u:AV):VS:=⟨st.R,u,st.row⟩
def zx(st:VS)(rest:List AV)(p:AV×VS):Prop:=∃(a:MN) (kind to:Int) (ea eb:Ex) (body other:List St) (z:Int),bD 10 st=true/\sf st a/\rest=[.agg<|aM<|.mk kind to ea eb body other]/\0<=to/\to<8/\vR ji st [.agg<|aD ea]=some (.int .i64 z)/\p=(.tuple [],vB st to z)
def zj(st:VS)(rest:List AV)(p:AV×VS):Prop:=∃(a:MN) (kind to:Int) (ea eb:Ex) (body other:List St) (v z:Int) (fb:Bool),bD 10 st=true/\sf st a/\rest=[.agg<|aM<|.mk kind to ea eb body other]/\0<=to/\to<8/\vR nK st [.agg<|aD ea]=some (.int .i64 v)/\iK (gV bI Bh) st.u [.int .i64 v]=some (.tuple [.int .i64 z,.bool fb],st.u)/\p=(.tuple [],vB st to z)
def yU(st:VS)(rest:List AV)(p:AV×VS):Prop:=∃(a:MN) (kind to:Int) (ea eb:Ex) (body other:List St) (v z:Int) (u':AV),bD 10 st=true/\sf st a/\rest=[.agg<|aM<|.mk kind to ea eb body other]/\vR nK st [.agg<|aD ea]=some (.int .i64 v)/\vR ji st [.agg<|aD eb]=some (.int .i64 z)/\iK (gV bI F3) st.u [.int .i64 v,.int .i64 z]=some ((.int .i64 0:AV),u')/\p=(.tuple [],aiE st u')
theorem NX{k t k' t':Int}{a b a' b':Ex}{l m l' m':List St}(h:([.agg<|aM<|.mk k t a b l m]:List AV)=[.agg<|aM<|.mk k' t' a' b' l' m']):St.mk k t a b l m= .mk k' t' a' b' l' m':=by simp only[List.cons.injEq,AV.agg.injEq,_root_.and_true] at h;exact MA _ _ h
theorem zx.bM(st:VS)(rest:List AV)(v v':AV×VS)(h:zx st rest v)(h':zx st rest v'):v=v':=by
 obtain⟨a,k,t,ea,eb,l,m,z,_,_,rfl,_,_,h1,rfl⟩:=h;obtain⟨a',k',t',Yb,Yc,l',m',z',_,_,k0,_,_,k1,rfl⟩:=h';have e:=NX k0;injection e with e1 e2 e3 e4 e5 e6
 subst e2;subst e3;rw[h1] at k1;simp only[Option.some.injEq,AV.int.injEq,true_and] at k1;rw[k1]
theorem zj.bM(st:VS)(rest:List AV)(v v':AV×VS)(h:zj st rest v)(h':zj st rest v'):v=v':=by
 obtain⟨a,k,t,ea,eb,l,m,x,z,fb,_,_,rfl,_,_,h1,h2,rfl⟩:=h;obtain⟨a',k',t',Yb,Yc,l',m',x',z',fb',_,_,k0,_,_,k1,k2,rfl⟩:=h';have e:=NX k0;injection e with e1 e2 e3 e4 e5 e6
 subst e2;subst e3;rw[h1] at k1;simp only[Option.some.injEq,AV.int.injEq,true_and] at k1;subst k1;rw[h2] at k2;simp only[Option.some.injEq,Prod.mk.injEq,AV.tuple.injEq,List.cons.injEq,AV.int.injEq,true_and,_root_.and_true] at k2;rw[k2.1]
theorem yU.bM(st:VS)(rest:List AV)(v v':AV×VS)(h:yU st rest v)(h':yU st rest v'):v=v':=by
 obtain⟨a,k,t,ea,eb,l,m,x,z,u,_,_,rfl,h1,h2,h3,rfl⟩:=h;obtain⟨a',k',t',Yb,Yc,l',m',x',z',u',_,_,k0,k1,k2,k3,rfl⟩:=h';have e:=NX k0;injection e with e1 e2 e3 e4 e5 e6
 subst e3;subst e4;rw[h1] at k1;rw[h2] at k2;simp only[Option.some.injEq,AV.int.injEq,true_and] at k1 k2;subst k1;subst k2;rw[h3] at k3;simp only[Option.some.injEq,Prod.mk.injEq,true_and] at k3;rw[k3]
def PY:FuncId×KE:=(31,.raw<|mY 10 3<|dH zx)
def Pn:FuncId×KE:=(32,.raw<|mY 10 3<|dH zj)
def Ov:FuncId×KE:=(33,.raw<|mY 10 3<|dH yU)
theorem qd(e:Ex):([AV.agg<|aD e]:List AV).all AV.hi=true:=by rw[List.all_cons,Bf];rfl
theorem adZ(hP:bS pg)(h:aY L):aY<|PY::L:=by
 refine Io hP gU xY jR jj mh lU h (CS hP dc) Tryd.func31 (body:=aR pg 31 []) aW aW fun st rest y aV e=>?_;obtain⟨a,kind,to,⟨op,n,l⟩,⟨aF,n2,l2⟩,body,other,z,ho,⟨h1,h2,h3⟩,rfl,h0,h8,hz,hp⟩:=IK e;injection hp with iX eZ
 subst iX;subst eZ;refine⟨aL.1 aW,fun B mc=>?_⟩;have hA:=qd<|.mk op n l;obtain⟨⟨pre,len,cap,post⟩,u,row⟩:=st;simp only at h1 h2;subst h1;subst h2;rw[aD] at hz hA;rw[aM,aD,aD];exact ahe mc ho h0 h8 hA hz
theorem acm(hP:bS pg)(h:aY L):aY<|Pn::L:=by
 refine Io hP gU xY jR jj mh lU h (Fo hP<|Im hP dc) Tryd.func32 (body:=aR pg 32 []) aW aW fun st rest y aV e=>?_;obtain⟨a,kind,to,⟨op,n,l⟩,⟨aF,n2,l2⟩,body,other,v,z,fb,ho,⟨h1,h2,h3⟩,rfl,h0,h8,hv,hg,hp⟩:=IK e;injection hp with iX eZ
 subst iX;subst eZ;refine⟨aL.1 aW,fun B mc=>?_⟩;have hA:=qd<|.mk op n l;obtain⟨⟨pre,len,cap,post⟩,u,row⟩:=st;simp only at h1 h2;subst h1;subst h2;rw[aD] at hv hA;rw[aM,aD,aD];exact afz mc ho h0 h8 hA hv hg
theorem aa9(hP:bS pg)(h:aY L):aY<|Ov::L:=by
 refine Io hP gU xY jR jj mh lU h (Fo hP<|CS hP<|acf hP dc) Tryd.func33 (body:=aR pg 33 []) aW aW fun st rest y aV e=>?_;obtain⟨a,kind,to,⟨op,n,l⟩,⟨aF,n2,l2⟩,body,other,v,z,u',ho,⟨h1,h2,h3⟩,rfl,hv,hz,hq,hp⟩:=IK e;injection hp with iX eZ
 subst iX;subst eZ;refine⟨aL.1 aW,fun B mc=>?_⟩;have hA:=qd<|.mk op n l;have hB:=qd<|.mk aF n2 l2;obtain⟨⟨pre,len,cap,post⟩,u,row⟩:=st;simp only at h1 h2;subst h1;subst h2;rw[aD] at hv hA hz hB;rw[aM,aD,aD];exact adY mc ho hA hB hv hz hq
end
end iD
end
section
open Go Go.Rn Go.RowKit Go.Proofs
namespace iT
open ch eO cG dj cQ di fW fD gH gQ gW gk hU iC iD gj
variable {uu:VS} {u' u:AV} {fs:List Fr} {c:Nat} {a:MN} {B:aJ}
noncomputable section
def av(l:List Fr)(z:Int):Fr:=l.getD z.toNat default
theorem jc{l:List Fr}{z:Int}(h0:0<=z)(h:z<(l.length:Int)):l[z.toNat]? =some (av l z):=by
 have hz:z.toNat<l.length:=by omega
 unfold av;rw[List.getD_eq_getElem?_getD,List.getElem?_eq_getElem hz];rfl
theorem MJ:fI<=273:=aL.1 aW
theorem Po{st:VS}{y Y:AV}{s:AS}(h:uu=st)(e:Y=y)(h1:s.h.get 270=some (bT<|dO st.R 271 272))(h2:s.h.get 271=some (.tok 3 st.u))(h3:s.h.get 272=some (bT st.row)):Y=y/\∀m o,(m,o)∈dC 270 3 uu->s.h.get m=some o:=by subst h;exact mL e h1 h2 h3
noncomputable abbrev C4(a:MN)(n c:Nat)(u:AV)(fs:List Fr):List<|Nat×Option ae:=ar++[(270,some<|.cells 13 (Tr.fill (a.row (.ptr<|some (271,0)) (.slice (some (272,0)) (n)<|.aq c 13)<|i6 a.steps) 0 .nil) []),(271,(some<|.tok 3 u)),(272,(some<|aC aI<|fs.set ((n:Int) - 1).toNat ({(av fs<|(n:Int) - 1) with ak:=0,turns:=((av fs<|(n:Int) - 1).turns - 1)}:Fr)))]
noncomputable abbrev A8(a:MN)(n c:Nat)(u:AV)(fs:List Fr):VS:=(⟨⟨a.pre,n,(.aq c 13),[.int .i64 a.steps]⟩,u,((fs.set ((n:Int) - 1).toNat ({(av fs<|(n:Int) - 1) with ak:=0,turns:=((av fs<|(n:Int) - 1).turns - 1)}:Fr)).map aI).flatten⟩:VS)
noncomputable abbrev FH(a:MN)(n c:Nat)(u:AV)(fs:List Fr):List<|Nat×Option ae:=ar++[(270,some<|.cells 13 (Tr.fill (a.row (.ptr<|some (271,0)) (.slice (some (272,0)) ((((n:Int) - 1)).toNat)<|.aq c 13)<|i6 a.steps) 0 .nil) []),(271,(some<|.tok 3 u)),(272,(some<|aC aI fs))]
noncomputable abbrev FI(a:MN)(n c:Nat)(u':AV)(fs:List Fr):List<|Nat×Option ae:=ar++[(270,some<|.cells 13 (Tr.fill (a.row (.ptr<|some (271,0)) (.slice (some (272,0)) ((((n:Int) - 1)).toNat)<|.aq c 13)<|i6 a.steps) 0 .nil) []),(271,(some<|.tok 3 u')),(272,(some<|aC aI fs))]
noncomputable abbrev FJ(a:MN)(n c:Nat)(u:AV)(fs:List Fr):List<|Nat×Option ae:=ar++[(270,some<|.cells 13 (Tr.fill (a.row (.ptr<|some (271,0)) (.slice (some (272,0)) (n)<|.aq c 13)<|i6 a.steps) 0 .nil) []),(271,(some<|.tok 3 u)),(272,(some<|aC aI fs))]
noncomputable abbrev u6(a:MN)(n c:Nat)(u:AV)(fs:List Fr):VS:=(⟨⟨a.pre,n,(.aq c 13),[.int .i64 a.steps]⟩,u,(fs.map aI).flatten⟩:VS)
noncomputable abbrev FK(a:MN)(n c:Nat)(u:AV)(fs:List Fr):AS:=ah (ar++aX (dC 270 3 (⟨⟨a.pre,((n:Int) - 1).toNat,(.aq c 13),[.int .i64 a.steps]⟩,u,(fs.map aI).flatten⟩:VS))) 273
noncomputable abbrev FL(a:MN)(n c:Nat)(u':AV)(fs:List Fr):AS:=ah (ar++aX (dC 270 3 (⟨⟨a.pre,((n:Int) - 1).toNat,(.aq c 13),[.int .i64 a.steps]⟩,u',(fs.map aI).flatten⟩:VS))) 273
noncomputable abbrev Ow(fs:List Fr)(n:Nat):Fr:=({(av fs<|(n:Int) - 1) with ak:=(av fs<|(n:Int) - 1).ak,turns:=((av fs<|(n:Int) - 1).turns - 1)}:Fr)
theorem Dv{n:Nat}(mc:Mt [CR] B)(hn:n<=fs.length)(hc:n<=c)(hf:fs.length<=1000000)(hR:fs.length*13<=top)(ax:0<=(av fs<|(n:Int) - 1).turns/\(av fs<|(n:Int) - 1).turns<=1000000)(hm:(0<(n:Int)/\¬((av fs<|(n:Int) - 1).ak<(((av fs<|(n:Int) - 1).block.length:Nat):Int))/\¬(0<(av fs<|(n:Int) - 1).turns)/\(av fs<|(n:Int) - 1).bV=true)->iK (gV bI II) u []=some ((.int .i64 0:AV),u'))(E0:¬(0<(n:Int))->uu=(u6 a n c u fs))(E1:0<(n:Int)->(av fs<|(n:Int) - 1).ak<(((av fs<|(n:Int) - 1).block.length:Nat):Int)->uu=(u6 a n c u fs))(E2:0<(n:Int)->¬((av fs<|(n:Int) - 1).ak<(((av fs<|(n:Int) - 1).block.length:Nat):Int))->0<(av fs<|(n:Int) - 1).turns->0<(((av fs<|(n:Int) - 1).block.length:Nat):Int)->uu=(A8 a n c u fs))(H1:(0<(n:Int)/\¬((av fs<|(n:Int) - 1).ak<(((av fs<|(n:Int) - 1).block.length:Nat):Int))/\0<(av fs<|(n:Int) - 1).turns/\¬(0<(((av fs<|(n:Int) - 1).block.length:Nat):Int)))->au pg B 273 (gX 270 3 pg (az Tryd.f39) (.tuple []) uu) (⟨39,aE [(0,.ptr<|some (270,0))],(max Tryd.f39.ntmps 1),[.code<|aR pg 39 [0,0],.inLoop<|aR pg 39 [0,0],.inBlock 0],[],none⟩:AF) (ah (ar++aX (dC 270 3<|A8 a n c u fs)) 273))(H2:(0<(n:Int)/\¬((av fs<|(n:Int) - 1).ak<(((av fs<|(n:Int) - 1).block.length:Nat):Int))/\¬(0<(av fs<|(n:Int) - 1).turns)/\(av fs<|(n:Int) - 1).bV=true)->au pg B 273 (gX 270 3 pg (az Tryd.f39) (.tuple []) uu) (⟨39,aE [(0,.ptr<|some (270,0))],(max Tryd.f39.ntmps 1),[.code<|aR pg 39 [0,0],.inLoop<|aR pg 39 [0,0],.inBlock 0],[],none⟩:AF) (FL a n c u' fs))(H3:(0<(n:Int)/\¬((av fs<|(n:Int) - 1).ak<(((av fs<|(n:Int) - 1).block.length:Nat):Int))/\¬(0<(av fs<|(n:Int) - 1).turns)/\(av fs<|(n:Int) - 1).bV=false)->au pg B 273 (gX 270 3 pg (az Tryd.f39) (.tuple []) uu) (⟨39,aE [(0,.ptr<|some (270,0))],(max Tryd.f39.ntmps 1),[.code<|aR pg 39 [0,0],.inLoop<|aR pg 39 [0,0],.inBlock 0],[],none⟩:AF) (FK a n c u fs)):au pg B 273 (gX 270 3 pg (az Tryd.f39) (.tuple []) uu) (⟨39,aE [(0,.ptr<|some (270,0))],(max Tryd.f39.ntmps 1),[.code<|aR pg 39 [0,0],.inLoop<|aR pg 39 [0,0],.inBlock 0],[],none⟩:AF)<|ah (ar++aX (dC 270 3<|u6 a n c u fs)) 273:=by
 exact wp_cut (E:=qO [CR]) (C:=(fun fr s1 _=>fr=(⟨39,aE [(0,.ptr<|some (270,0))],(max Tryd.f39.ntmps 1),[.code<|aR pg 39 [0,0],.inLoop<|aR pg 39 [0,0],.inBlock 0],[],none⟩:AF)/\(((0<(n:Int)/\¬((av fs<|(n:Int) - 1).ak<(((av fs<|(n:Int) - 1).block.length:Nat):Int))/\0<(av fs<|(n:Int) - 1).turns/\¬(0<(((av fs<|(n:Int) - 1).block.length:Nat):Int)))/\s1=(ah (ar++aX (dC 270 3<|A8 a n c u fs)) 273))\/((0<(n:Int)/\¬((av fs<|(n:Int) - 1).ak<(((av fs<|(n:Int) - 1).block.length:Nat):Int))/\¬(0<(av fs<|(n:Int) - 1).turns)/\(av fs<|(n:Int) - 1).bV=true)/\s1=(FL a n c u' fs))\/((0<(n:Int)/\¬((av fs<|(n:Int) - 1).ak<(((av fs<|(n:Int) - 1).block.length:Nat):Int))/\¬(0<(av fs<|(n:Int) - 1).turns)/\(av fs<|(n:Int) - 1).bV=false)/\s1=(FK a n c u fs))))) eQ rfl bH mc.2.2.1 mc.2.2.2 MJ rfl mc.1 (fun fr s1 p hC=>by
  obtain⟨rfl,hC⟩:=hC;rcases hC with⟨h,rfl⟩|⟨h,rfl⟩|⟨h,rfl⟩
  ·exact H1 h
  ·exact H2 h
  ·exact H3 h) 900 (.st 2<|.rg<|.go 5<|.fk (.en<|.st 4<|.rg<|.go 9<|.vl (i6<|(n:Int) - 1)<|.ix<|.go 1<|.en<|.st 3<|.rg<|.go 3<|.ld [(i6<|(av fs<|(n:Int) - 1).ak)]<|.go 3<|.ld [(.U (nm ((av fs<|(n:Int) - 1).block.map aM).flatten) 0 (av fs<|(n:Int) - 1).block.length)]<|.go 1<|.fk (.go 1<|.en<|.rt 2 .no)<|.go 1<|.en<|.st 2<|.rg<|.go 3<|.ld [(i6<|(av fs<|(n:Int) - 1).turns)]<|.fk (.go 1<|.en<|.st 2<|.rg<|.go 5<|.ld [(i6<|(av fs<|(n:Int) - 1).turns)]<|.vl (i6<|(av fs<|(n:Int) - 1).turns - 1)<|.go 2<|.mr (aC aI<|fs.set ((n:Int) - 1).toNat<|Ow fs n)<|.go 2<|.mr (aC aI<|fs.set ((n:Int) - 1).toNat ({(av fs<|(n:Int) - 1) with ak:=0,turns:=((av fs<|(n:Int) - 1).turns - 1)}:Fr))<|.en<|.st 2<|.rg<|.go 3<|.ld [(.U (nm ((av fs<|(n:Int) - 1).block.map aM).flatten) 0 (av fs<|(n:Int) - 1).block.length)]<|.go 1<|.fk (.en<|.rt 2 .no)<|.en<|.st 4<|.ls [(0,.ptr<|some (270,0))] (C4 a n c u fs) 273 .no)<|.go 1<|.en<|.st 2<|.rg<|.go 3<|.Xy ((av fs<|(n:Int) - 1).bV) (.go 1<|.en<|.st 1<|.rg<|.go 4<|.kt i0 u'<|.en<|.st 1<|.rg<|.go 10<|.vl (i6<|(n:Int) - 1)<|.so<|.go 3<|.en<|.st 2<|.ls [(0,.ptr<|some (270,0))] (FI a n c u' fs) 273 .no)<|.go 1<|.en<|.st 3<|.rg<|.go 10<|.vl (i6<|(n:Int) - 1)<|.so<|.go 3<|.en<|.st 2<|.ls [(0,.ptr<|some (270,0))] (FH a n c u fs) 273 .no)<|.en<|.rt 3 .no)
  (aT ((n:Int)>0) (fun _=>(ai (wI<|(n:Int) - 1)
  (dS ((n:Int) - 1) (n:Int)
  (ai (mB fA hR (jc (l:=fs) (z:=((n:Int) - 1)) ab ab) 1 1 rfl)
  (ai (mB fA hR (jc (l:=fs) (z:=((n:Int) - 1)) ab ab) 0 1 rfl)
  (aT ((av fs<|(n:Int) - 1).ak<(((av fs<|(n:Int) - 1).block.length:Nat):Int)) (fun _=>(Po (st:=(u6 a n c u fs)) (s:=ah (FJ a n c u fs) 273) (E1 ab ab) (show((.tuple []):AV)= .tuple [] from rfl) bY bY bY))
  (fun _=>(ai (mB fA hR (jc (l:=fs) (z:=((n:Int) - 1)) ab ab) 2 1 rfl)
  (aT ((av fs<|(n:Int) - 1).turns>0) (fun _=>(ai (mB fA hR (jc (l:=fs) (z:=((n:Int) - 1)) ab ab) 2 1 rfl)
  (ai (wI<|(av fs<|(n:Int) - 1).turns - 1)
  (ai (pv fA hR (jc (l:=fs) (z:=((n:Int) - 1)) ab ab) (c':=(Ow fs n)) (r:=[(i6<|((av fs<|(n:Int) - 1).turns - 1))]) 2 rfl rfl rfl)
  (ai (ada fA hR (jc (l:=fs) (z:=((n:Int) - 1)) ab ab) (c:=(Ow fs n)) (c':=({(av fs<|(n:Int) - 1) with ak:=0,turns:=((av fs<|(n:Int) - 1).turns - 1)}:Fr)) (r:=[i0]) 1 rfl rfl rfl)
  (ai (ac9 fA hR (jc (l:=fs) (z:=((n:Int) - 1)) ab ab) (c:=({(av fs<|(n:Int) - 1) with ak:=0,turns:=((av fs<|(n:Int) - 1).turns - 1)}:Fr)) 0 1 rfl)
  (aT ((((av fs<|(n:Int) - 1).block.length:Nat):Int)>0) (fun _=>(Po (st:=(A8 a n c u fs)) (s:=ah (C4 a n c u fs) 273) (E2 ab ab ab ab) (show((.tuple []):AV)= .tuple [] from rfl) bY bY bY))
  (fun _=>(ai (mS [(0,.ptr<|some (270,0))])<|ai (mO<|C4 a n c u fs)<|ai (rX (⟨39,aE [(0,.ptr<|some (270,0))],(max Tryd.f39.ntmps 1),[.code<|aR pg 39 [0,0],.inLoop<|aR pg 39 [0,0],.inBlock 0],[],none⟩:AF)) (show((0<(n:Int)/\¬((av fs<|(n:Int) - 1).ak<(((av fs<|(n:Int) - 1).block.length:Nat):Int))/\0<(av fs<|(n:Int) - 1).turns/\¬(0<(((av fs<|(n:Int) - 1).block.length:Nat):Int)))/\(ah (C4 a n c u fs) 273)=(ah (ar++aX (dC 270 3<|A8 a n c u fs)) 273))\/((0<(n:Int)/\¬((av fs<|(n:Int) - 1).ak<(((av fs<|(n:Int) - 1).block.length:Nat):Int))/\¬(0<(av fs<|(n:Int) - 1).turns)/\(av fs<|(n:Int) - 1).bV=true)/\(ah (C4 a n c u fs) 273)=(FL a n c u' fs))\/((0<(n:Int)/\¬((av fs<|(n:Int) - 1).ak<(((av fs<|(n:Int) - 1).block.length:Nat):Int))/\¬(0<(av fs<|(n:Int) - 1).turns)/\(av fs<|(n:Int) - 1).bV=false)/\(ah (C4 a n c u fs) 273)=(FK a n c u fs)) from Or.inl<|ai (show(0<(n:Int)/\¬((av fs<|(n:Int) - 1).ak<(((av fs<|(n:Int) - 1).block.length:Nat):Int))/\0<(av fs<|(n:Int) - 1).turns/\¬(0<(((av fs<|(n:Int) - 1).block.length:Nat):Int))) from⟨by omega,by omega,by omega,by omega⟩) bY))))))))))
  (fun _=>(ai (mB fA hR (jc (l:=fs) (z:=((n:Int) - 1)) ab ab) 3 1 rfl) (tfb ((av fs<|(n:Int) - 1).bV) (fun h5=>(ai (hm ⟨by omega,by omega,by omega,h5⟩)
  (ai (wI<|(n:Int) - 1)
  (ai (show(0:Int)=0 from rfl)<|ai (show 0<=((n:Int) - 1) from ab) (ai (show((n:Int) - 1)<=Int.ofNat (iZ n<|.aq c 13) from(show((n:Int) - 1)<=(c:Int) from by omega))
  (ai (mS [(0,.ptr<|some (270,0))])<|ai (mO<|FI a n c u' fs)<|ai (rX (⟨39,aE [(0,.ptr<|some (270,0))],(max Tryd.f39.ntmps 1),[.code<|aR pg 39 [0,0],.inLoop<|aR pg 39 [0,0],.inBlock 0],[],none⟩:AF)) (show((0<(n:Int)/\¬((av fs<|(n:Int) - 1).ak<(((av fs<|(n:Int) - 1).block.length:Nat):Int))/\0<(av fs<|(n:Int) - 1).turns/\¬(0<(((av fs<|(n:Int) - 1).block.length:Nat):Int)))/\(ah (FI a n c u' fs) 273)=(ah (ar++aX (dC 270 3<|A8 a n c u fs)) 273))\/((0<(n:Int)/\¬((av fs<|(n:Int) - 1).ak<(((av fs<|(n:Int) - 1).block.length:Nat):Int))/\¬(0<(av fs<|(n:Int) - 1).turns)/\(av fs<|(n:Int) - 1).bV=true)/\(ah (FI a n c u' fs) 273)=(FL a n c u' fs))\/((0<(n:Int)/\¬((av fs<|(n:Int) - 1).ak<(((av fs<|(n:Int) - 1).block.length:Nat):Int))/\¬(0<(av fs<|(n:Int) - 1).turns)/\(av fs<|(n:Int) - 1).bV=false)/\(ah (FI a n c u' fs) 273)=(FK a n c u fs)) from Or.inr<|Or.inl<|ai (show(0<(n:Int)/\¬((av fs<|(n:Int) - 1).ak<(((av fs<|(n:Int) - 1).block.length:Nat):Int))/\¬(0<(av fs<|(n:Int) - 1).turns)/\(av fs<|(n:Int) - 1).bV=true) from⟨by omega,by omega,by omega,h5⟩) bY)))))))
  (fun h5=>(ai (wI<|(n:Int) - 1)
  (ai (show(0:Int)=0 from rfl)<|ai (show 0<=((n:Int) - 1) from ab) (ai (show((n:Int) - 1)<=Int.ofNat (iZ n<|.aq c 13) from(show((n:Int) - 1)<=(c:Int) from by omega))
  (ai (mS [(0,.ptr<|some (270,0))])<|ai (mO<|FH a n c u fs)<|ai (rX (⟨39,aE [(0,.ptr<|some (270,0))],(max Tryd.f39.ntmps 1),[.code<|aR pg 39 [0,0],.inLoop<|aR pg 39 [0,0],.inBlock 0],[],none⟩:AF)) (show((0<(n:Int)/\¬((av fs<|(n:Int) - 1).ak<(((av fs<|(n:Int) - 1).block.length:Nat):Int))/\0<(av fs<|(n:Int) - 1).turns/\¬(0<(((av fs<|(n:Int) - 1).block.length:Nat):Int)))/\(ah (FH a n c u fs) 273)=(ah (ar++aX (dC 270 3<|A8 a n c u fs)) 273))\/((0<(n:Int)/\¬((av fs<|(n:Int) - 1).ak<(((av fs<|(n:Int) - 1).block.length:Nat):Int))/\¬(0<(av fs<|(n:Int) - 1).turns)/\(av fs<|(n:Int) - 1).bV=true)/\(ah (FH a n c u fs) 273)=(FL a n c u' fs))\/((0<(n:Int)/\¬((av fs<|(n:Int) - 1).ak<(((av fs<|(n:Int) - 1).block.length:Nat):Int))/\¬(0<(av fs<|(n:Int) - 1).turns)/\(av fs<|(n:Int) - 1).bV=false)/\(ah (FH a n c u fs) 273)=(FK a n c u fs)) from Or.inr<|Or.inr<|ai (show(0<(n:Int)/\¬((av fs<|(n:Int) - 1).ak<(((av fs<|(n:Int) - 1).block.length:Nat):Int))/\¬(0<(av fs<|(n:Int) - 1).turns)/\(av fs<|(n:Int) - 1).bV=false) from⟨by omega,by omega,by omega,h5⟩) bY))))))))))))))))))
  (fun _=>(Po (st:=(u6 a n c u fs)) (s:=ah (FJ a n c u fs) 273) (E0 ab) (show((.tuple []):AV)= .tuple [] from rfl) bY bY bY)))
abbrev frS:AF:=(⟨39,aE [(0,.ptr<|some (270,0))],(max Tryd.f39.ntmps 1),[.code<|aR pg 39 [0,0],.inLoop<|aR pg 39 [0,0],.inBlock 0],[],none⟩:AF)
abbrev Yd(a:MN)(n c:Nat)(u:AV)(fs:List Fr):VS:=(u6 a n c u fs)
theorem afA{n:Nat}{u':AV}(mc:Mt [CR] B)(H:au pg B 273 (gX 270 3 pg (az Tryd.f39) (.tuple []) uu) (⟨39,aE [(0,.ptr<|some (270,0))],(max Tryd.f39.ntmps 1),[.code<|aR pg 39 [0,0],.inLoop<|aR pg 39 [0,0],.inBlock 0],[],none⟩:AF)<|ah (ar++aX (dC 270 3<|u6 a n c u fs)) 273):au pg B 273 (gX 270 3 pg (az Tryd.f39) (.tuple []) uu) (sF 39 Tryd.f39 [.ptr<|some (270,0)])<|ah (ar++aX (dC 270 3<|u6 a n c u fs)) 273:=by
 exact wp_cut (E:=qO [CR]) (C:=(fun fr s1 _=>fr=(⟨39,aE [(0,.ptr<|some (270,0))],(max Tryd.f39.ntmps 1),[.code<|aR pg 39 [0,0],.inLoop<|aR pg 39 [0,0],.inBlock 0],[],none⟩:AF)/\s1=(ah (ar++aX (dC 270 3<|u6 a n c u fs)) 273))) eQ rfl bH mc.2.2.1 mc.2.2.2 MJ rfl mc.1 (fun fr s1 p hC=>by
  obtain⟨rfl,rfl⟩:=hC;exact H) 900 (.st 2<|.ls [(0,.ptr<|some (270,0))] (FJ a n c u fs) 273 .no)
  (ai (mS [(0,.ptr<|some (270,0))])<|ai (mO<|FJ a n c u fs)<|ai (rX (⟨39,aE [(0,.ptr<|some (270,0))],(max Tryd.f39.ntmps 1),[.code<|aR pg 39 [0,0],.inLoop<|aR pg 39 [0,0],.inBlock 0],[],none⟩:AF)) (show(ah (FJ a n c u fs) 273)=(ah (ar++aX (dC 270 3<|u6 a n c u fs)) 273) from bY))
end
end iT
end
section
open Go Go.Rn Go.RowKit Go.Proofs
namespace jd
open ch eO cG dj cQ di fW fD gH gQ gW gk hU iC iD iT gj
variable {fs:List Fr}
def oj:Nat->Nat->List Fr->bf->Option (Nat×List Fr×bf)
  |0,_,_,_=>none
  | k +1,n,fs,b=>if n=0 then some (n,fs,b) else
    let f:=av fs<|(n:Int) - 1
    if f.ak<(f.block.length:Int) then some (n,fs,b)
    else if 0<f.turns then
      let cW:=fs.set ((n:Int) - 1).toNat {f with ak:=0,turns:=f.turns - 1}
      if 0<(f.block.length:Int) then some (n,cW,b) else oj k n cW b
    else if f.bV=true then(if 2<=b.length then oj k ((n:Int) - 1).toNat fs (ga b) else none)
    else oj k ((n:Int) - 1).toNat fs b
def ir(fs:List Fr):Prop:=∀f∈fs,(0<=f.turns/\f.turns<=1000000)/\f.kept.length=8
theorem ir.at(h:ir fs)(z:Int):0<=(av fs z).turns/\(av fs z).turns<=1000000:=by
 unfold av;by_cases q:z.toNat<fs.length
 ·rw[List.getD_eq_getElem?_getD,List.getElem?_eq_getElem q];exact(h _<|List.getElem_mem q).1
 ·rw[List.getD_eq_getElem?_getD,List.getElem?_eq_none ab];show(0:Int)<=0/\(0:Int)<=1000000;omega
theorem ir.kept(h:ir fs){z:Int}(h0:0<=z)(hz:z<(fs.length:Int)):(av fs z).kept.length=8:=(h _<|List.mem_of_getElem?<|jc h0 hz).2
theorem ir.set(h:ir fs){i:Nat}{f:Fr}(hf:(0<=f.turns/\f.turns<=1000000)/\f.kept.length=8):ir<|fs.set i f:=fun g hg=>by
 rcases List.mem_or_eq_of_mem_set hg with q|q
 ·exact h g q
 ·rw[q];exact hf
theorem L9{b:bf}(h:de b)(h2:2<=b.length):iK (gV bI II) (bI b) []=some ((.int .i64 0:AV),bI<|ga b):=by
 unfold iK;rw[AI sw];show(match ([]:List AV).all AV.hi with
  |true=>((if 2<=List.length b then some ((AV.int .i64 0:AV),ga b) else none).map (fun p:AV×bf=>((p.1,bI p.2):AV×AV))).bind fun p:AV×AV=>match p.1.hi with
   |true=>some p
   |false=>none
  |false=>none)=_
 rw[if_pos h2];rfl
theorem HI{B:aJ}(mc:Mt [CR] B){a:MN}{c:Nat}{n':Nat}{cW:List Fr}{b':bf}:∀(k n:Nat) (fs:List Fr) (b:bf),oj k n fs b=some (n',cW,b')->de b->ir fs->n<=fs.length->n<=c->fs.length<=1000000->
 au pg B 273 (gX 270 3 pg (az Tryd.f39) (.tuple [])<|Yd a n' c (bI b') cW) frS (ah (ar++aX (dC 270 3<|Yd a n c (bI b) fs)) 273)
 |0,n,fs,b,h,_,_,_,_,_=>by cases h
 |k+1,n,fs,b,h,hb,hf,hn,hc,hl=>by
  unfold oj at h;have ax:=hf.at<|(n:Int) - 1;have Ge:n≠0->∀f:Fr,f={av fs ((n:Int) - 1) with ak:=0,turns:=(av fs<|(n:Int) - 1).turns - 1}->0<(av fs<|(n:Int) - 1).turns->ir (fs.set ((n:Int) - 1).toNat f):=fun oZ f e h0=>hf.set (by subst e;refine⟨?_,hf.kept (z:=(n:Int) - 1) ab ab⟩;show 0<=(av fs<|(n:Int) - 1).turns - 1/\(av fs<|(n:Int) - 1).turns - 1<=1000000;omega);by_cases n0:n=0
  ·rw[if_pos n0] at h;injection h with h;injection h with e1 h;injection h with e2 e3
   subst e1;subst e2;subst e3;exact Dv (u':=.tuple []) mc hn hc hl (by have:top=549755813888:=rfl;omega) ax (fun q=>absurd q.1 ab) (fun _=>rfl) (fun _ _=>rfl) (fun q _ _ _=>absurd q ab) (fun q=>absurd q.1 ab) (fun q=>absurd q.1 ab) fun q=>absurd q.1 ab
  ·rw[if_neg n0] at h;simp only at h;have hz:((n:Int) - 1).toNat<=n:=by omega
   have hr:fs.length*13<=top:=by have:top=549755813888:=rfl;omega
   by_cases a1:(av fs<|(n:Int) - 1).ak<(((av fs<|(n:Int) - 1).block.length:Nat):Int)
   ·rw[if_pos a1] at h;injection h with h;injection h with e1 h;injection h with e2 e3
    subst e1;subst e2;subst e3;exact Dv (u':=.tuple []) mc hn hc hl hr ax (fun q=>absurd a1 q.2.1) (fun _=>rfl) (fun _ _=>rfl) (fun _ q _ _=>absurd a1 q) (fun q=>absurd a1 q.2.1) (fun q=>absurd a1 q.2.1) fun q=>absurd a1 q.2.1
   ·rw[if_neg a1] at h;by_cases a2:0<(av fs<|(n:Int) - 1).turns
    ·rw[if_pos a2] at h;by_cases a3:0<(((av fs<|(n:Int) - 1).block.length:Nat):Int)
     ·rw[if_pos a3] at h;injection h with h;injection h with e1 h;injection h with e2 e3
      subst e1;subst e2;subst e3;exact Dv (u':=.tuple []) mc hn hc hl hr ax (fun q=>absurd a2 q.2.2.1) (fun q=>absurd q ab) (fun _ q=>absurd q a1) (fun _ _ _ _=>rfl) (fun q=>absurd a3 q.2.2.2) (fun q=>absurd a2 q.2.2.1) fun q=>absurd a2 q.2.2.1
     ·rw[if_neg a3] at h;have ih:=HI (c:=c) (a:=a) mc k n _ b h hb (Ge n0 _ rfl a2) (by rw[List.length_set];exact hn) hc (by rw[List.length_set];exact hl);exact Dv (u':=.tuple []) mc hn hc hl hr ax (fun q=>absurd a2 q.2.2.1) (fun q=>absurd q ab) (fun _ q=>absurd q a1) (fun _ _ _ q=>absurd q a3) (fun _=>ih) (fun q=>absurd a2 q.2.2.1) fun q=>absurd a2 q.2.2.1
    ·rw[if_neg a2] at h;by_cases a4:(av fs<|(n:Int) - 1).bV=true
     ·rw[if_pos a4] at h;by_cases a5:2<=b.length
      ·rw[if_pos a5] at h;have ih:=HI (c:=c) (a:=a) mc k _ fs _ h (Il hb a5) hf ab ab hl;exact Dv (u':=bI<|ga b) mc hn hc hl hr ax (fun _=>L9 hb a5) (fun q=>absurd q ab) (fun _ q=>absurd q a1) (fun _ _ q _=>absurd q a2) (fun q=>absurd q.2.2.1 a2) (fun _=>ih) (fun q=>by rw[a4] at q;cases q.2.2.2)
      ·rw[if_neg a5] at h;cases h
     ·rw[if_neg a4] at h;have ih:=HI (c:=c) (a:=a) mc k _ fs b h hb hf ab ab hl;exact Dv (u':=.tuple []) mc hn hc hl hr ax (fun q=>absurd q.2.2.2 a4) (fun q=>absurd q ab) (fun _ q=>absurd q a1) (fun _ _ q _=>absurd q a2) (fun q=>absurd q.2.2.1 a2) (fun q=>absurd q.2.2.2 a4) fun _=>ih
theorem LF:∀(k m n:Nat) (fs:List Fr) (b:bf) (r:Nat×List Fr×bf),oj k n fs b=some r->k<=m->oj m n fs b=some r
 |0,_,_,_,_,_,h,_=>by cases h
 |k+1,0,_,_,_,_,_,hm=>by omega
 |k+1,m+1,n,fs,b,r,h,hm=>by
  have ih:=fun n fs b h=>LF k m n fs b r h ab;unfold oj at h ⊢;simp only at h ⊢;split at h
  ·rename_i q;rw[if_pos q];exact h
  ·rename_i q;rw[if_neg q];split at h
   ·rename_i q;rw[if_pos q];exact h
   ·rename_i q;rw[if_neg q];split at h
    ·rename_i q;rw[if_pos q];split at h
     ·rename_i q;rw[if_pos q];exact h
     ·rename_i q;rw[if_neg q];exact ih _ _ _ h
    ·rename_i q;rw[if_neg q];split at h
     ·rename_i q;rw[if_pos q];split at h
      ·rename_i q;rw[if_pos q];exact ih _ _ _ h
      ·cases h
     ·rename_i q;rw[if_neg q];exact ih _ _ _ h
theorem Jp:∀l:List Int,l.length=8->l=[l.getD 0 0,l.getD 1 0,l.getD 2 0,l.getD 3 0,l.getD 4 0,l.getD 5 0,l.getD 6 0,l.getD 7 0]
 |[a,b,c,d,e,f,g,h],_=>rfl
theorem aba(f g:Fr)(hf:f.kept.length=8)(hg:g.kept.length=8)(h:aI f=aI g):f=g:=by
 obtain⟨a1,a2,a3,a4,a5,a6⟩:=f;obtain⟨b1,b2,b3,b4,b5,b6⟩:=g;simp only[aI,eight,List.cons_append,List.nil_append,List.cons.injEq,AV.int.injEq,AV.bool.injEq,true_and,_root_.and_true] at h;obtain⟨h1,rfl,rfl,rfl,c0,c1,c2,c3,c4,c5,c6,c7,h6⟩:=h;rw[HW h1,UC h6];have e:a5=b5:=by rw[Jp a5 hf,Jp b5 hg,c0,c1,c2,c3,c4,c5,c6,c7]
 rw[e]
theorem Fb:∀(l m:List Fr),ir l->ir m->(l.map aI).flatten=(m.map aI).flatten->l=m
 |[],[],_,_,_=>rfl
 |[],y::m,_,_,h=>by have:=congrArg List.length h;simp only[List.map_nil,List.flatten_nil,List.length_nil,List.map_cons,List.flatten_cons,List.length_append,fA] at this;omega
 |x::l,[],_,_,h=>by have:=congrArg List.length h;simp only[List.map_nil,List.flatten_nil,List.length_nil,List.map_cons,List.flatten_cons,List.length_append,fA] at this;omega
 |x::l,y::m,hl,hm,h=>by rw[List.map_cons,List.map_cons,List.flatten_cons,List.flatten_cons] at h;obtain⟨e1,e2⟩:=List.append_inj h (by rw[fA,fA]);rw[aba x y (hl x List.mem_cons_self).2 (hm y List.mem_cons_self).2 e1,Fb l m (fun f hf=>hl f<|List.mem_cons_of_mem _ hf) (fun f hf=>hm f<|List.mem_cons_of_mem _ hf) e2]
def eG(st:VS)(rest:List AV)(p:AV×VS):Prop:=∃(a:MN) (n c k n':Nat) (fs cW:List Fr) (b b':bf),sf st a/\rest=[]/\st.R.len=n/\st.R.cap= .aq c 13/\st.u=bI b/\st.row=(fs.map aI).flatten/\de b/\ir fs/\n<=fs.length/\n<=c/\fs.length<=1000000/\oj k n fs b=some (n',cW,b')/\p=(.tuple [],⟨⟨st.R.pre,n',.aq c 13,st.R.post⟩,bI b',(cW.map aI).flatten⟩)
theorem eG.bM(st:VS)(rest:List AV)(v v':AV×VS)(h:eG st rest v)(h':eG st rest v'):v=v':=by
 obtain⟨a,n,c,k,n',fs,cW,b,b',_,_,e1,e2,e3,e4,_,f1,_,_,_,s1,rfl⟩:=h;obtain⟨a1,m,d,j,m',gs,gs',b1,XG,_,_,g1,g2,g3,g4,_,f2,_,_,_,s2,rfl⟩:=h';rw[e1] at g1;subst g1;rw[e2] at g2;injection g2 with g2
 subst g2;rw[e3] at g3;have e:=sw _ _ g3;subst e;rw[e4] at g4;have e:=Fb _ _ f1 f2 g4;subst e;have q1:=LF k (max k j) _ _ _ _ s1<|Nat.le_max_left _ _;have q2:=LF j (max k j) _ _ _ _ s2<|Nat.le_max_right _ _;rw[q1] at q2;injection q2 with q2;injection q2 with q2 q3;injection q3 with q3 q4
 rw[q2,q3,q4]
noncomputable def yL:FuncId×KE:=(39,.raw<|mY 10 3<|dH eG)
theorem Sq(hP:bS pg){L:bO}(h:aY L):aY<|yL::L:=by
 refine Io hP gU xY jR jj mh lU h (aah hP<|dc) Tryd.func39 (body:=aR pg 39 []) aW aW fun st rest y aV e=>?_;obtain⟨a,n,c,k,n',fs,cW,b,b',⟨h1,h2,h3⟩,rfl,e1,e2,e3,e4,hb,hf,hn,hc,hl,hs,hp⟩:=IK e;injection hp with iX eZ
 subst iX;subst eZ;refine⟨aL.1 aW,fun B mc=>?_⟩;obtain⟨⟨pre,len,cap,post⟩,u,row⟩:=st;simp only at h1 h2 e1 e2 e3 e4;subst h1;subst h2;subst e1;subst e2;subst e3;subst e4;exact afA (u':=.tuple []) mc<|HI mc k _ fs b hs hb hf hn hc hl
end jd
end
section
open Go Go.Rn Go.RowKit Go.Proofs
namespace jW
open ch eO cG dj cQ di fW fD gH gQ gW gk hU iC iD iT jd gj tO
variable {j nt:Nat} {s:AS} {t:Tr AV} {T:Prop} {K:List Item}
noncomputable section
def Lg:Code:=aR pg 28 [1,0,1,0,0]
def wq:Code:=aR pg 28 [1,0,1,0,1]
def pd:List<|Nat×AV:=[(2,(.ptr<|some (273,0))),(9,(.func (.func 73) [] [(.ptr<|some (274,0))]))]
def KI:List Item:=[.inBlock 0,.code<|aR pg 28 [1,1]]
def uv(st:LoopState)(p:Option Code):ae:=.loop st p 28 (aE pd) 15 [10,11] Lg wq 275
def oW(o0 o1 o2:ae)(r:Int)(sl:AV)(lo:ae)(js:List<|Nat×Option ae):List<|Nat×Option ae:=ar++([(270,some o0),(271,some o1),(272,some o2),(273,some<|.cells 1 (Tr.fill [.int .i64 r] 0 .nil) []),(274,some<|.cells 1 (Tr.fill [sl] 0 .nil) []),(275,some .defs),(276,some lo)]++js)
abbrev jM(L:bO):Env:=xX pg 270 dT dG L 270 false
def Pp(P:Program)(YG:aK)(rs:List ResultVar)(k l:Nat)(fr:AF)(s:AS):Option<|AV×Option ae×Option ae×Option ae:=match Gw P YG rs k l fr s with
 |some (v,s2)=>some (v,s2.h.get 270,s2.h.get 271,s2.h.get 272)
 |none=>none
theorem abb{P:Program}{YG:aK}{l:Nat}{B:aJ}{J k:Nat}{rs:List ResultVar}{fr:AF}{v:AV}{R:AV->AS->Prop}{o0 o1 o2:ae}(bH:P.follows .mixedOrders=true)(hc:fQ P B YG)(hl:∀t a,YF<|YG t a)(h1:fr.round=none)(h2:fr.defers=[])(h:Pp P YG rs k l fr s=some (v,some o0,some o1,some o2))(hR:∀s2:AS,s2.h.get 270=some o0->s2.h.get 271=some o1->s2.h.get 272=some o2->R v s2):GD P YG B J (Fin P rs R) l fr s:=by
 unfold Pp at h;split at h
 ·rename_i v2 s2 e;injection h with h;injection h with h3 h;injection h with h4 h;injection h with h5 h6
  subst h3;exact M8 bH hc hl h1 h2 e<|hR _ h4 h5 h6
 ·cases h
abbrev bX(cs:List AV):Option ae:=some<|.cells 13 (Tr.fill cs 0 .nil) []
def QR:List AV:=[.slice none 0<|.known 0,.int .i64 0,.int .i64 0,.bool false,.int .i64 0,.int .i64 0,.int .i64 0,.int .i64 0,.int .i64 0,.int .i64 0,.int .i64 0,.int .i64 0,.slice none 0<|.known 0]
theorem W0(f:Fr):xA (bX QR) 0 (aI f)=bX (aI f):=by have e:=MC f;show(match (Nat.ble (0+13) 13&&(Nat.ble 13 top&&(aI f).all AV.bR)) with|true=>some (ae.cells 13 (Tr.fill (aI f) 0<|Tr.fill QR 0 .nil) [])|false=>none)=_;rw[e];kernel_rfl
def iG(fs:List Fr):Nat->Int
 |0=> -1
 |n+1=>if(av fs (n:Int)).bV=true then(n:Int) else iG fs n
theorem ahf{l:List Fr}{z:Int}{b:Bool}(h:(av l z).bV=b)(h0:0<=z)(h1:z<(l.length:Int)):l[z.toNat]? =some ({av l z with bV:=b}:Fr):=by subst h;exact jc h0 h1
def RW(B:aJ)(R:AV->AS->Prop)(v:AV)(s:AS):Prop:=v= .tuple []/\∃p s4,lM 276 s= .ok p s4/\au pg B 273 (Fin pg (az Tryd.f28) R) ⟨28,aE pd,15,andThen p KI,[275],none⟩ s4
def jsL(b:Nat->Option ae)(j:Nat):List<|Nat×Option ae:=(List.range j).map fun k=>(277+k,b k)
def BC(b:Nat->Option ae)(j:Nat)(o:Option ae)(k:Nat):Option ae:=match Nat.beq k j with
 |true=>o
 |false=>b k
def rI(t:Bool)(i:Int):Int:=match t with
 |true=>i
 |false=>0
def QS(t:Bool):ae:=match t with
 |true=>uv .done<|some .ret
 |false=>uv .ready none
abbrev sJ(o0 o1 o2:ae)(r:Int)(sl:AV)(lo:ae)(b:Nat->Option ae)(j:Nat):AS:=ah (oW o0 o1 o2 r sl lo<|jsL b j)<|277+j
abbrev Es(i:Int)(cs:List AV)(m:Nat):Tr AV:=aE [(2,(.ptr<|some (273,0))),(3,(i6 i)),(4,(.ptr<|some (m,0))),(9,(.func (.func 73) [] [(.ptr<|some (274,0))])),(10,(i6 i)),(11,(.agg cs))]
section
variable {o0 o1 o2:ae} {sl:AV} {f:Fr} {i:Int} {b:Nat->Option ae} {B:aJ} {R:AV->AS->Prop} {fs:List Fr} {n c:Nat} {d:Nat->AV}
abbrev sA(o0 o1 o2:ae)(sl:AV)(b:Nat->Option ae)(j:Nat):AS:=sJ o0 o1 o2 0 sl (uv .ready none) b j
abbrev sE(o0 o1 o2:ae)(sl:AV)(f:Fr)(i:Int)(b:Nat->Option ae)(t:Bool)(j:Nat):AS:=sJ o0 o1 o2 (rI t i) sl (QS t) (BC b j<|bX<|aI {f with bV:=t})<|j+1
abbrev PZ(o0 o1 o2:ae)(sl:AV)(f:Fr)(i:Int)(b:Nat->Option ae)(t:Bool)(j:Nat):Prop:=bc pg (sp []) FU 5 (.round 276) [.int .i64 i,.agg<|aI {f with bV:=t}] (sA o0 o1 o2 sl b j)= .ok (.bool !t) (sE o0 o1 o2 sl f i b t j)
theorem P0(t:Bool)(j:Nat)(k1:getLoop 276 (sA o0 o1 o2 sl b j)= .ok (.loop .ready none 28 (aE pd) 15 [10,11] Lg wq 275) (sA o0 o1 o2 sl b j):=by as_aux_lemma=>kernel_rfl)(k2:((xA (bX QR) 0 (aI {f with bV:=t})=bX (aI {f with bV:=t}))/\((⟨28,Es i (aI {f with bV:=t})<|277+j,15,[.beginRound,.code wq],[],none⟩:AF)=⟨28,Es i (aI {f with bV:=t})<|277+j,15,[.beginRound,.code wq],[],none⟩/\sJ o0 o1 o2 0 sl (uv .ready none) (BC b j<|bX<|aI {f with bV:=t}) (j+1)=sJ o0 o1 o2 0 sl (uv .ready none) (BC b j<|bX<|aI {f with bV:=t}) (j+1)))=
 wp (jM []) 900 4 (.fr 28 15 [.code Lg,.beginRound,.code wq] (jw [10,11] [.int .i64 i,.agg<|aI {f with bV:=t}]<|aE pd)<|sA o0 o1 o2 sl b j) (.st 2<|.rg<|.go 1<|.mr (.cells 13 (Tr.fill (aI {f with bV:=t}) 0 .nil) [])<|.en<|.cut .no) [] (fun _ _ _=>False) (fun fr s1 _=>fr=⟨28,Es i (aI {f with bV:=t})<|277+j,15,[.beginRound,.code wq],[],none⟩/\s1=sJ o0 o1 o2 0 sl (uv .ready none) (BC b j<|bX<|aI {f with bV:=t}) (j+1)):=by as_aux_lemma=>kernel_rfl)(k3:dV pg (bc pg (sp []) FU 4) 1 ⟨28,Es i (aI {f with bV:=t})<|277+j,15,[.beginRound,.code wq],[],some 276⟩ (sJ o0 o1 o2 0 sl (uv .ready none) (BC b j<|bX<|aI {f with bV:=t})<|j+1)= .ok (.go ⟨28,Es i (aI {f with bV:=t})<|277+j,15,[.code wq],[],some 276⟩) (sJ o0 o1 o2 0 sl (uv .busy none) (BC b j<|bX<|aI {f with bV:=t})<|j+1):=by as_aux_lemma=>kernel_rfl)(k4:((none:Option Nat)=none/\([]:List Nat)=[]/\(some (.bool !t,sE o0 o1 o2 sl f i b t j):Option<|AV×AS)=some (.bool !t,sE o0 o1 o2 sl f i b t j))=
 wp (jM []) 900 4 (.fr 28 15 [.code wq] (Es i (aI {f with bV:=t})<|277+j)<|sJ o0 o1 o2 0 sl (uv .busy none) (BC b j<|bX<|aI {f with bV:=t})<|j+1) (.st 6<|.cut .no) [] (fun _ _ _=>False) (fun fr s1 _=>fr.round=none/\fr.defers=[]/\AK pg (bc pg (sp []) FU 4) 276 fr s1=some (.bool !t,sE o0 o1 o2 sl f i b t j)):=by as_aux_lemma=>kernel_rfl):PZ o0 o1 o2 sl f i b t j:=
 EC k1 rfl (CE (E:=jM []) eQ rfl (fun fr s p h=>by obtain⟨rfl,rfl⟩:=h;exact⟨rfl,rfl,Chunk.ev 1 _ _ _ _ k3<|CE (E:=jM []) eQ rfl (fun fr s p h=>EB h.1 h.2.1 h.2.2) 900 _ (G2 _ _) k4⟩) 900 _ ⟨W0 _,rfl,rfl⟩ k2)
theorem Nh(t:Bool)(hj:j<6):PZ o0 o1 o2 sl f i b t j:=by rcases(by omega:j=0\/j=1\/j=2\/j=3\/j=4\/j=5) with rfl|rfl|rfl|rfl|rfl|rfl<;>cases t<;>exact P0 _ _
def nD:Nat->Nat
 |0=>3
 |_=>15
abbrev fJ(j:Nat)(i:Int)(d:Nat->AV):AF:=⟨73,aE<|[(0,(.yield 276)),(1,(.ptr<|some (274,0))),(3,(.int .i64 i))]++(List.range<|nD j).map fun k=>(4+k,d k),19,[.code<|aR pg 73 [1,0,0],.inLoop<|aR pg 73 [1,0,0],.inBlock 0],[],none⟩
abbrev wt(B:aJ)(R:AV->AS->Prop)(fr:AF)(s:AS):Prop:=rT (jM []) 5 (az Tryd.f73) (RW B R) fr s
theorem Ye{B:aJ}{R:AV->AS->Prop}{f:Nat}{FR:AF}{S1:AS}(H:wt B R FR S1)(p:Pl)(x:T)(h:T=wp (jM []) 900 5 (.fr f nt K t s) p (az Tryd.f73) (fun v s _=>RW B R v s) (fun fr s1 _=>fr=FR/\s1=S1):=by as_aux_lemma=>kernel_rfl):wt B R ⟨f,t,nt,K,[],none⟩ s:=FX (C:=fun fr s1 _=>fr=FR/\s1=S1) eQ rfl (fun fr s1 p h=>by obtain⟨rfl,rfl⟩:=h;exact H) 900 p x h
theorem Yf{B:aJ}{R:AV->AS->Prop}{f:Nat}(p:Pl)(x:T)(h:T=wp (jM []) 900 5 (.fr f nt K t s) p (az Tryd.f73) (fun v s _=>RW B R v s) (fun _ _ _=>False):=by as_aux_lemma=>kernel_rfl):wt B R ⟨f,t,nt,K,[],none⟩ s:=FX (C:=fun _ _ _=>False) eQ rfl (fun _ _ _ h=>h.elim) 900 p x h
abbrev iN(n c:Nat):AV:=.slice (some (272,0)) n<|.aq c 13
theorem Yg(t:Bool)(mc:Mt [] B){v:Int}(hR:∀s2:AS,s2.h.get 270=some o0->s2.h.get 271=some o1->s2.h.get 272=some (aC aI fs)->R (.int .i64 v) s2)(p:Option Code)(k1:lM 276 (sJ o0 o1 (aC aI fs) (rI t i) (iN n c) (QS t) b j)= .ok p (sJ o0 o1 (aC aI fs) (rI t i) (iN n c) (uv .exhausted p) b j):=by as_aux_lemma=>kernel_rfl)(k2:Pp pg (bc pg (sp []) FU 6) (az Tryd.f28) 8 275 ⟨28,aE pd,15,andThen p KI,[],none⟩ (sJ o0 o1 (aC aI fs) (rI t i) (iN n c) (uv .exhausted p) b j)=some (.int .i64 v,some o0,some o1,some<|aC aI fs):=by as_aux_lemma=>kernel_rfl):RW B R (.tuple [])<|sJ o0 o1 (aC aI fs) (rI t i) (iN n c) (QS t) b j:=⟨rfl,p,_,k1,(abb (l:=275) (k:=8) (fr:=⟨28,aE pd,15,andThen p KI,[],none⟩) (v:=.int .i64 v) (o0:=o0) (o1:=o1) (o2:=aC aI fs) bH mc.2.2.1 mc.2.2.2 rfl rfl k2 hR).2.2 (by show 273<=277+j;omega)⟩
theorem bkE(hi:i<0)(hL:RW B R (.tuple [])<|sA o0 o1 (aC aI fs) (iN n c) b j)(k:((i>=0->False)/\(¬i>=0->RW B R (.tuple []) (sA o0 o1 (aC aI fs) (iN n c) b j)))=wp (jM []) 900 5 (.fr 73 19 (fJ j i d).todo (fJ j i d).tmps<|sA o0 o1 (aC aI fs) (iN n c) b j) (.st 2<|.rg<|.go 1<|.fk (.no)<|.en<|.rt 3 .no) (az Tryd.f73) (fun v s _=>RW B R v s) (fun _ _ _=>False):=by as_aux_lemma=>kernel_rfl):wt B R (fJ j i d)<|sA o0 o1 (aC aI fs) (iN n c) b j:=Yf _ ⟨fun h=>by omega,fun _=>hL⟩ k
abbrev QT(o0 o1:ae)(fs:List Fr)(n c:Nat)(i:Int)(b:Nat->Option ae)(t:Bool)(j:Nat)(P:Prop):Prop:=((i>=0->((0:Int)<=i/\i<(n:Int)/\(cellsOf (some<|aC aI fs) (i.toNat*13+0) 13=some (((aI {(av fs i) with bV:=t}).drop 0).take 13)/\(PZ o0 o1 (aC aI fs) (iN n c) (av fs i) i b t j/\P))))/\(¬i>=0->False))
theorem Yh{t:Bool}{P:Prop}(hj:j<6)(hi:0<=i/\i<n/\n<=fs.length)(hR:fs.length*13<=top)(cP:(av fs i).bV=t)(x:P):QT o0 o1 fs n c i b t j P:=⟨fun _=>⟨hi.1,hi.2.1,mB fA hR (ahf (l:=fs) (z:=i) cP hi.1 ab) 0 13 rfl,Nh t hj,x⟩,fun h=>h hi.1⟩
theorem bkT(hj:j<6)(hi:0<=i/\i<n/\n<=fs.length)(hR:fs.length*13<=top)(cP:(av fs i).bV=true)(hL:RW B R (.tuple [])<|sE o0 o1 (aC aI fs) (iN n c) (av fs i) i b true j)(k:QT o0 o1 fs n c i b true j (RW B R (.tuple [])<|sE o0 o1 (aC aI fs) (iN n c) (av fs i) i b true j)=wp (jM []) 900 5 (.fr 73 19 (fJ j i d).todo (fJ j i d).tmps<|sA o0 o1 (aC aI fs) (iN n c) b j) (.st 2<|.rg<|.go 1<|.fk (.en<|.st 5<|.rg<|.go 4<|.ix<|.ld (aI {(av fs i) with bV:=true})<|.cy (.bool false) (sE o0 o1 (aC aI fs) (iN n c) (av fs i) i b true j)<|.go 1<|.en<|.rt 2 .no)<|.no) (az Tryd.f73) (fun v s _=>RW B R v s) (fun _ _ _=>False):=by as_aux_lemma=>kernel_rfl):wt B R (fJ j i d)<|sA o0 o1 (aC aI fs) (iN n c) b j:=Yf _ (Yh hj hi hR cP hL) k
def dN(d:Nat->AV)(fs:List Fr)(n c:Nat)(i:Int)(k:Nat):AV:=[d 0,d 1,d 2,.int .i64 i,.bool true,.int .i64 i,.int .i64<|i - 1,.yield 276,.int .i64 i,iN n c,.int .i64 i,.ptr<|some (272,i.toNat*13+0),.agg<|aI {(av fs i) with bV:=false},.bool true,.bool false].getD k<|.bool false
theorem bkF(hj:j<6)(hi:0<=i/\i<n/\n<=fs.length)(hf:fs.length<=1000000)(hR:fs.length*13<=top)(cP:(av fs i).bV=false)(H:wt B R (fJ (j+1) (i - 1)<|dN d fs n c i)<|sE o0 o1 (aC aI fs) (iN n c) (av fs i) i b false j)(k:QT o0 o1 fs n c i b false j ((AV.int .i64 (IntKind.wrap .i64<|i - 1)= .int .i64 (i - 1))/\(fJ (j+1) (i - 1) (dN d fs n c i)=fJ (j+1) (i - 1) (dN d fs n c i)/\sE o0 o1 (aC aI fs) (iN n c) (av fs i) i b false j=sE o0 o1 (aC aI fs) (iN n c) (av fs i) i b false j))=wp (jM []) 900 5 (.fr 73 19 (fJ j i d).todo (fJ j i d).tmps<|sA o0 o1 (aC aI fs) (iN n c) b j) (.st 2<|.rg<|.go 1<|.fk (.en<|.st 5<|.rg<|.go 4<|.ix<|.ld (aI {(av fs i) with bV:=false})<|.cy (.bool true) (sE o0 o1 (aC aI fs) (iN n c) (av fs i) i b false j)<|.go 1<|.en<|.st 3<|.rg<|.go 1<|.vl (i6<|i - 1)<|.go 1<|.en<|.st 1<|.cut .no)<|.no) (az Tryd.f73) (fun v s _=>RW B R v s) (fun fr s1 _=>fr=fJ (j+1) (i - 1) (dN d fs n c i)/\s1=sE o0 o1 (aC aI fs) (iN n c) (av fs i) i b false j):=by as_aux_lemma=>kernel_rfl):wt B R (fJ j i d)<|sA o0 o1 (aC aI fs) (iN n c) b j:=Ye H _ (Yh hj hi hR cP ⟨wI _,rfl,rfl⟩) k
theorem UQ(mc:Mt [] B)(hl:n<=fs.length)(hf:fs.length<=1000000):∀(m j:Nat) (b:Nat->Option ae) (d:Nat->AV),j+m<=6->m<=n->(∀s2:AS,s2.h.get 270=some o0->s2.h.get 271=some o1->s2.h.get 272=some (aC aI fs)->R (i6<|iG fs m) s2)->wt B R (fJ j ((m:Int) - 1) d) (sA o0 o1 (aC aI fs) (iN n c) b j)
 |0,j,b,d,h6,_,hQ=>by rcases(by omega:j=0\/j=1\/j=2\/j=3\/j=4\/j=5\/j=6) with rfl|rfl|rfl|rfl|rfl|rfl|rfl<;>exact bkE ab<|Yg (i:=0) false mc hQ none
 |m+1,j,b,d,h6,hn,hQ=>by
  have hR:fs.length*13<=top:=by have:top=549755813888:=rfl;omega
  have e:(((m+1:Nat):Int) - 1)=(m:Int):=by omega
  rw[e];cases cP:(av fs (m:Int)).bV with
  |true=>rw[show iG fs (m+1)=(m:Int) from if_pos cP] at hQ;rcases(by omega:j=0\/j=1\/j=2\/j=3\/j=4\/j=5) with rfl|rfl|rfl|rfl|rfl|rfl<;>exact bkT ab ⟨by omega,by omega,hl⟩ hR cP<|Yg true mc hQ<|some .ret
  |false=>rw[show iG fs (m+1)=iG fs m from if_neg (by rw[cP];intro q;cases q)] at hQ;have ih:=fun b d=>UQ mc hl hf m (j+1) b d ab ab hQ;rcases(by omega:j=0\/j=1\/j=2\/j=3\/j=4\/j=5) with rfl|rfl|rfl|rfl|rfl|rfl<;>exact bkF ab ⟨by omega,by omega,hl⟩ hf hR cP<|ih _ _
def d0(n c k:Nat):AV:=[iN n c,.int .i64 (n:Int),.int .i64<|(n:Int) - 1].getD k<|.bool false
theorem aiF(hn:n<=1000000)(H:wt B R (fJ 0 ((n:Int) - 1)<|d0 n c)<|sA o0 o1 (aC aI fs) (iN n c) b 0):wt B R (sF 73 Tryd.f73 [.yield 276,.ptr<|some (274,0)])<|sA o0 o1 (aC aI fs) (iN n c) b 0:=Ye H (.st 1<|.rg<|.go 2<|.vl (i6<|(n:Int) - 1)<|.go 1<|.en<|.st 2<|.cut .no)<|ai (wI<|(n:Int) - 1)<|ai (rX<|fJ 0 ((n:Int) - 1)<|d0 n c)<|rX<|sA o0 o1 (aC aI fs) (iN n c) b 0
end
theorem Be:aR pg 28 [1,0,1,0]= .rangeFunc (.tmp 9) #[10,11] Lg wq:=by kernel_rfl
abbrev Yi(a:MN)(n c:Nat):ae:=.cells 13 (Tr.fill (a.row (.ptr<|some (271,0)) (iN n c)<|i6 a.steps) 0 .nil) []
abbrev Hc(a:MN)(n c:Nat)(u:AV)(fs:List Fr):List<|Nat×Option ae:=ar++[(270,some<|Yi a n c),(271,some<|.tok 3 u),(272,some<|aC aI fs),(273,some<|.cells 1 (Tr.fill [.int .i64 0] 0 .nil) []),(274,some<|.cells 1 (Tr.fill [iN n c] 0 .nil) [])]
abbrev pe:AF:=⟨28,aE pd,15,.code (aR pg 28 [1,0,1,0])::KI,[],none⟩
abbrev ju(a:MN)(n c:Nat)(u:AV)(fs:List Fr):VS:=⟨⟨a.pre,n,.aq c 13,[.int .i64 a.steps]⟩,u,(fs.map aI).flatten⟩
theorem afB{B:aJ}{a:MN}{n c:Nat}{u:AV}{fs:List Fr}(mc:Mt [] B)(Yj:n<=6)(hl:n<=fs.length)(hf:fs.length<=1000000):au pg B 273 (gX 270 3 pg (az Tryd.f28) (i6<|iG fs n)<|ju a n c u fs) (sF 28 Tryd.f28 [.ptr<|some (270,0)])<|ah (ar++aX (dC 270 3<|ju a n c u fs)) 273:=by refine wp_cut (E:=qO []) (C:=fun fr s1 _=>fr=pe/\s1=ah (Hc a n c u fs) 275) eQ rfl bH mc.2.2.1 mc.2.2.2 MJ rfl mc.1 (fun fr s1 p hC=>?_) 900 (.st 4<|.rg<|.go 4<|.il<|.rt 5<|.en<|.st 1<|.ls pd (Hc a n c u fs) 275 .no)<|ai (mS pd)<|ai (mO<|Hc a n c u fs)<|ai (rX pe)<|rX<|ah (Hc a n c u fs) 275;obtain⟨rfl,rfl⟩:=hC;unfold pe;rw[Be];obtain⟨v,s2,h1,rfl,p,s4,h5,H⟩:=rT.call (E:=(jM [])) (n:=5) Tryd.func73 (E4 Tryd.func73 bY)<|aiF (b:=fun _=>none) (c:=c) ab<|UQ (o0:=Yi a n c) (o1:=.tok 3 u) (R:=fun(y1:AV) (s':AS)=>y1= .int .i64 (iG fs n)/\∀m o,(m,o)∈dC 270 3 (ju a n c u fs)->s'.h.get m=some o) mc hl hf n 0 _ _ ab (Nat.le_refl n) fun s2 a b d=>mL rfl a b d;exact au.chunk bH mc.2.2.1 mc.2.2.2 (Ih (gv:=.func (.func 73) [] [.ptr<|some (274,0)]) (s1:=ah (Hc a n c u fs++[(275,some .defs)]) 276) bY bY bY h1 h5) (by show 273<=275;omega) H
def qX(st:VS)(rest:List AV)(v:AV):Prop:=∃(a:MN) (n c:Nat) (fs:List Fr),sf st a/\rest=[]/\st.R.len=n/\st.R.cap= .aq c 13/\st.row=(fs.map aI).flatten/\ir fs/\n<=6/\n<=fs.length/\fs.length<=1000000/\v= .int .i64 (iG fs n)
theorem qX.bM(st:VS)(rest:List AV)(v v':AV)(h:qX st rest v)(h':qX st rest v'):v=v':=by obtain⟨a,n,c,fs,_,_,rfl,_,e4,f1,_,_,_,rfl⟩:=h;obtain⟨a1,m,d,gs,_,_,rfl,_,g4,f2,_,_,_,rfl⟩:=h';rw[e4] at g4;rw[Fb _ _ f1 f2 g4]
def lY:FuncId×KE:=(28,.raw<|mZ 10 3<|vR qX)
theorem Ma(hP:bS pg){L:bO}(h:aY L):aY<|lY::L:=by refine ES hP gU xY jR jj mh lU h dc Tryd.func28 (body:=aR pg 28 []) aW aW fun st rest y e _=>?_;obtain⟨a,n,c,fs,⟨h1,h2,h3⟩,rfl,e1,e2,e4,_,Yj,hl,hf,rfl⟩:=FG e;refine⟨aL.1 aW,fun B mc=>?_⟩;obtain⟨⟨pre,len,cap,post⟩,u,row⟩:=st;simp only at h1 h2 e1 e2 e4;subst h1;subst h2;subst e1;subst e2;subst e4;exact afB mc Yj hl hf
end
end jW
end
section
open Go Go.Rn Go.RowKit Go.Proofs
namespace kj
open ch eO cG dj cQ di fW fD gH gQ gW gk hU iC iD iT jd jW gj
variable {fs:List Fr} {u:AV} {to aF nn n2 kind:Int} {c N4 N3 N2 N L4 L3 L2 L:Nat} {a:MN} {B:aJ}
noncomputable section
def ql(o:Option St):AV:=match o with
 |none=>.tuple [.agg [.int .u8 0,.int .i64 0,.int .u8 0,.int .i64 0,.slice none 0<|.known 0,.int .u8 0,.int .i64 0,.slice none 0<|.known 0,.slice none 0<|.known 0,.slice none 0<|.known 0],.bool false]
 |some s=>.tuple [.agg<|aM s,.bool true]
def zy(fs:List Fr)(n:Nat):Fr:=av fs<|(n:Int) - 1
def mH(fs:List Fr)(n:Nat)(o:Option St):Prop:=(n=0/\o=none)\/(1<=n/\0<=(zy fs n).ak/\∃s,(zy fs n).block[(zy fs n).ak.toNat]? =some s/\o=some s)
theorem mH.bM{n:Nat}{o o':Option St}(h:mH fs n o)(h':mH fs n o'):o=o':=by
 rcases h with⟨a,b⟩|⟨a,_,s,b,e⟩<;>rcases h' with⟨a',b'⟩|⟨a',_,s',b',e'⟩
 ·rw[b,b']
 ·omega
 ·omega
 ·rw[b] at b';injection b' with b';rw[e,e',b']
noncomputable abbrev C5(a:MN)(n c:Nat)(u:AV)(fs:List Fr):VS:=(⟨⟨a.pre,n,(.aq c 13),[.int .i64 a.steps]⟩,u,(fs.map aI).flatten⟩:VS)
noncomputable abbrev C6(kind to op nn:Int)(N L:Nat)(aF n2:Int)(N2 L2 N3 L3 N4 L4:Nat):List AV:=[(u8<|kind),(i6 to),(u8<|op),(i6 nn),(.U N 0 L),(u8<|aF),(i6 n2),(.U N2 0 L2),(.U N3 0 L3),(.U N4 0 L4)]
theorem aiG{n:Nat}{op:Int}(mc:Mt [] B)(h1:1<=n)(hn:n<=fs.length)(hf:fs.length<=1000000)(hR:fs.length*13<=top)(ax:0<=(av fs<|(n:Int) - 1).ak/\(av fs<|(n:Int) - 1).ak<(((av fs<|(n:Int) - 1).block.length:Nat):Int))(hx:cv FU (nm ((av fs<|(n:Int) - 1).block.map aM).flatten) (0+(av fs<|(n:Int) - 1).ak.toNat*10+0) 10=some (C6 kind to op nn N L aF n2 N2 L2 N3 L3 N4 L4)):au pg B 273 (gX 270 3 pg (az Tryd.f26) (.tuple [.agg<|C6 kind to op nn N L aF n2 N2 L2 N3 L3 N4 L4,.bool true])<|C5 a n c u fs) (sF 26 Tryd.f26 [.ptr<|some (270,0)])<|ah (ar++aX (dC 270 3<|C5 a n c u fs)) 273:=by exact lZ (E:=qO []) eQ rfl bH mc.2.2.1 mc.2.2.2 900 (.st 4<|.rg<|.go 5<|.fk (.no)<|.en<|.st 3<|.rg<|.go 9<|.vl (i6<|(n:Int) - 1)<|.ix<|.ld (aI<|av fs<|(n:Int) - 1)<|.go 1<|.mr (.cells 13 (Tr.fill (aI<|av fs<|(n:Int) - 1) 0 .nil) [])<|.en<|.st 1<|.rg<|.go 4<|.eB<|.eC (C6 kind to op nn N L aF n2 N2 L2 N3 L3 N4 L4)<|.go 2<|.en<|.rt 1 .no)<|aT ((n:Int)=0) fZ fun _=>(ai (wI<|(n:Int) - 1)<|dS ((n:Int) - 1) (n:Int)<|ai (mB fA hR (jc (l:=fs) (z:=((n:Int) - 1)) ab ab) 0 13 rfl)<|ai (W0<|av fs<|(n:Int) - 1)<|dS ((av fs<|(n:Int) - 1).ak) (((av fs<|(n:Int) - 1).block.length:Nat):Int)<|ai (show top<=nm ((av fs<|(n:Int) - 1).block.map aM).flatten from cF _)<|ai hx<|mL (st:=(C5 a n c u fs)) (s:=ah (ar++[(270,some<|.cells 13 (Tr.fill (a.row (.ptr<|some (271,0)) (.slice (some (272,0)) (n)<|.aq c 13)<|i6 a.steps) 0 .nil) []),(271,(some<|.tok 3 u)),(272,(some<|aC aI fs)),(273,some<|.cells 10 (Tr.fill (C6 kind to op nn N L aF n2 N2 L2 N3 L3 N4 L4) 0 .nil) []),(274,some<|.cells 13 (Tr.fill (aI<|av fs<|(n:Int) - 1) 0 .nil) [])]) 275) (show((.tuple [(.agg<|C6 kind to op nn N L aF n2 N2 L2 N3 L3 N4 L4),(.bool true)]):AV)=(.tuple [.agg<|C6 kind to op nn N L aF n2 N2 L2 N3 L3 N4 L4,.bool true]) from rfl) bU bU bU)
noncomputable abbrev VB:AV:=.tuple [.agg [.int .u8 0,.int .i64 0,.int .u8 0,.int .i64 0,.slice none 0<|.known 0,.int .u8 0,.int .i64 0,.slice none 0<|.known 0,.slice none 0<|.known 0,.slice none 0<|.known 0],.bool false]
theorem aiH{n:Nat}{N L N2 L2 N3 L3 N4 L4:Nat}{kind to op nn aF n2:Int}(mc:Mt [] B)(h1:n=0):au pg B 273 (gX 270 3 pg (az Tryd.f26) VB<|C5 a n c u fs) (sF 26 Tryd.f26 [.ptr<|some (270,0)])<|ah (ar++aX (dC 270 3<|C5 a n c u fs)) 273:=by exact lZ (E:=qO []) eQ rfl bH mc.2.2.1 mc.2.2.2 900 (.st 4<|.rg<|.go 5<|.fk (.en<|.rt 4 .no)<|.no)<|aT ((n:Int)=0) (fun _=>(mL (st:=(C5 a n c u fs)) (s:=ah (ar++[(270,some<|.cells 13 (Tr.fill (a.row (.ptr<|some (271,0)) (.slice (some (272,0)) (n)<|.aq c 13)<|i6 a.steps) 0 .nil) []),(271,(some<|.tok 3 u)),(272,(some<|aC aI fs)),(273,some<|.cells 10 (Tr.fill [(u8<|.ofNat 0),i0,(u8<|.ofNat 0),i0,(.slice none 0<|.known 0),(u8<|.ofNat 0),i0,(.slice none 0<|.known 0),(.slice none 0<|.known 0),(.slice none 0<|.known 0)] 0 .nil) [])]) 274) (show((.tuple [(.agg [(u8<|.ofNat 0),i0,(u8<|.ofNat 0),i0,(.slice none 0<|.known 0),(u8<|.ofNat 0),i0,(.slice none 0<|.known 0),(.slice none 0<|.known 0),(.slice none 0<|.known 0)]),(.bool false)]):AV)=VB from rfl) bU bU bU)) fZ
def iQ(st:VS)(rest:List AV)(v:AV):Prop:=∃(a:MN) (n c:Nat) (fs:List Fr) (o:Option St),sf st a/\rest=[]/\st.R.len=n/\st.R.cap= .aq c 13/\st.row=(fs.map aI).flatten/\ir fs/\n<=fs.length/\fs.length<=1000000/\mH fs n o/\v=ql o
theorem iQ.bM(st:VS)(rest:List AV)(v v':AV)(h:iQ st rest v)(h':iQ st rest v'):v=v':=by obtain⟨a,n,c,fs,o,_,_,rfl,_,e4,f1,_,_,s1,rfl⟩:=h;obtain⟨a1,m,d,gs,o',_,_,rfl,_,g4,f2,_,_,s2,rfl⟩:=h';rw[e4] at g4;have e:=Fb _ _ f1 f2 g4;subst e;rw[s1.bM s2]
def l7:FuncId×KE:=(26,.raw<|mZ 10 3<|vR iQ)
theorem Ni(hP:bS pg){L:bO}(h:aY L):aY<|l7::L:=by
 refine ES hP gU xY jR jj mh lU h dc Tryd.func26 (body:=aR pg 26 []) aW aW fun st rest y e _=>?_;obtain⟨a,n,c,fs,o,⟨h1,h2,h3⟩,rfl,e1,e2,e4,_,hl,hf,hS,rfl⟩:=FG e;refine⟨aL.1 aW,fun B mc=>?_⟩;obtain⟨⟨pre,len,cap,post⟩,u,row⟩:=st;simp only at h1 h2 e1 e2 e4;subst h1;subst h2;subst e1;subst e2;subst e4;rcases hS with⟨q,rfl⟩|⟨q,q0,s,q1,rfl⟩
 ·exact aiH (N:=0) (L:=0) (N2:=0) (L2:=0) (N3:=0) (L3:=0) (N4:=0) (L4:=0) (kind:=0) (to:=0) (op:=0) (nn:=0) (aF:=0) (n2:=0) mc q
 ·obtain⟨kind,to,⟨oa,na,la⟩,⟨ob,nb,lb⟩,bd,el⟩:=s;have bZ:=(List.getElem?_eq_some_iff.1 q1).1;have hx:=sS mu q1 0 10<|Nat.le_refl _;rw[show(zy fs len).ak.toNat*10+0=0+(zy fs len).ak.toNat*10+0 by omega,show((aM<|.mk kind to (.mk oa na la) (.mk ob nb lb) bd el).drop 0).take 10=aM (.mk kind to (.mk oa na la) (.mk ob nb lb) bd el) by rw[List.drop_zero];exact List.take_of_length_le (by rw[mu.len];omega)] at hx;rw[show ql (some<|.mk kind to (.mk oa na la) (.mk ob nb lb) bd el)= .tuple [.agg<|aM<|.mk kind to (.mk oa na la) (.mk ob nb lb) bd el,.bool true] from rfl];rw[aM,aD,aD] at hx ⊢;exact aiG mc q hl hf (by have:top=549755813888:=rfl;omega) ⟨q0,by unfold zy at bZ q0;omega⟩ hx
end
end kj
end
