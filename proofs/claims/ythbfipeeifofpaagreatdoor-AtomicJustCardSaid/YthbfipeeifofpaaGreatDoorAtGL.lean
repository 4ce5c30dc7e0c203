import Derived.Test.YthbfipeeifofpaaGreatDoorAtGK
import Derived.Test.YthbfipeeifofpaaGreatDoorAtGJ
import Derived.Test.YthbfipeeifofpaaGreatDoorRnGH
set_option maxRecDepth 100000
set_option maxHeartbeats 8000000
set_option linter.unusedSimpArgs false
set_option linter.unusedVariables false
section
open Go Go.Rn Go.RowKit Go.Proofs
namespace lR
open ch fT ij eO
variable {r:Nat->Nat} {o0:List<|Nat×Option ae} {lo bw:Nat} {ps:List<|Nat×Nat} {b a:List<|Int×Int}
def lT(ps:List<|Nat×Nat)(lo bw k:Nat):Nat:=match ps.find? fun p=>Nat.beq p.1 k with
 |some p=>p.2
 |none=>if k<lo\/top<=k then k else max k bw
def zV(ps:List<|Nat×Nat)(lo bw nx:Nat)(names:List Nat):Bool:=ps.all (fun p=>Nat.ble lo p.1&&(Nat.blt p.1 nx&&(Nat.ble lo p.2&&Nat.blt p.2 top)))&&(Nat.ble lo nx&&(Nat.ble nx top&&(Nat.blt bw top&&(names.all fun m=>Nat.blt m lo||ps.any fun p=>Nat.beq p.1 m))))
def Kd(ps:List<|Nat×Nat):Bool:=ps.all fun p=>ps.all fun q=> !(Nat.beq p.2 q.2)||Nat.beq p.1 q.1
def GX(r:Nat->Nat)(l0:List<|Nat×AV):List (Nat×AV)->Prop
 |[]=>True
 |p::l=>(p.1<top/\∃x,(p.1,x)∈l0/\jz [] r x p.2)/\GX r l0 l
def zW(r:Nat->Nat)(o0:List<|Nat×Option ae):List (Nat×Option ae)->Prop
 |[]=>True
 |p::l=>(∀y,p.2=some y->y.jO=true/\∃x,(r p.1,some x)∈o0/\fK x y/\eZ [] r x y)/\zW r o0 l
theorem GX.mem{l0:List<|Nat×AV}:∀{l:List<|Nat×AV},GX r l0 l->∀p∈l,p.1<top/\∃x,(p.1,x)∈l0/\jz [] r x p.2
 |[],_,p,hp=>by cases hp
 |a::l,h,p,hp=>by
  rcases List.mem_cons.1 hp with rfl|hp
  ·exact h.1
  ·exact GX.mem h.2 p hp
theorem zW.mem:∀{l:List<|Nat×Option ae},zW r o0 l->∀p∈l,∀y,p.2=some y->y.jO=true/\∃x,(r p.1,some x)∈o0/\fK x y/\eZ [] r x y
 |[],_,p,hp=>by cases hp
 |a::l,h,p,hp=>by
  rcases List.mem_cons.1 hp with rfl|hp
  ·exact h.1
  ·exact zW.mem h.2 p hp
theorem JL{nx:Nat}{l0 l:List<|Nat×AV}{o:List<|Nat×Option ae}(eW:270<=lo)(hb:zV ps lo bw nx (o.map (·.1))=true)(hi:Kd ps=true)(hl:∀r,r=lT ps lo bw->(∀k,top<=k->r k=k)->GX r l0 l)(ho:∀r,r=lT ps lo bw->(∀k,top<=k->r k=k)->zW r o0 o):
 hI FU lo bw l0 (ar++o0) l (ar++o) nx:=by
 unfold zV at hb;obtain⟨b1,hb⟩:=and_true.1 hb;obtain⟨b2,hb⟩:=and_true.1 hb;obtain⟨b3,hb⟩:=and_true.1 hb;obtain⟨b4,b5⟩:=and_true.1 hb;have b2:=aM.1 b2;have b3:=aM.1 b3;have b4:=(blt_eq _ _).mp b4;have tZ:∀p∈ps,lo<=p.1/\p.1<nx/\lo<=p.2/\p.2<top:=fun p hp=>by have:=List.all_eq_true.1 b1 p hp;obtain⟨c1,c2⟩:=and_true.1 this;obtain⟨c2,c3⟩:=and_true.1 c2;obtain⟨c3,c4⟩:=and_true.1 c3;exact⟨aM.1 c1,(blt_eq _ _).mp c2,aM.1 c3,(blt_eq _ _).mp c4⟩
 have none_:∀k,(k<lo\/nx<=k)->(ps.find? fun p=>Nat.beq p.1 k)=none:=fun k hk=>by refine List.find?_eq_none.2 fun p hp=>?_;obtain⟨c1,c2,_⟩:=tZ p hp;rw[ey];omega
 let r:=lT ps lo bw;have rl:∀k,k<lo->r k=k:=fun k hk=>by show lT ps lo bw k=k;unfold lT;rw[none_ k<|.inl hk];exact if_pos<|.inl hk
 have rt:∀k,top<=k->r k=k:=fun k hk=>by show lT ps lo bw k=k;unfold lT;rw[none_ k<|.inr ab];exact if_pos<|.inr hk
 have rn:∀k,nx<=k->k<top->bw<=r k/\r k<top:=fun k h1 h2=>by show bw<=lT ps lo bw k/\lT ps lo bw k<top;unfold lT;rw[none_ k<|.inr h1];show bw<=(if _ then _ else _)/\(if _ then _ else _)<top;rw[if_neg ab];omega
 have XP:∀k∈o.map (·.1),(k<lo/\r k=k)\/∃p∈ps,p.1=k/\r k=p.2:=fun k hk=>by
  have:=List.all_eq_true.1 b5 k hk;rcases Bool.or_eq_true_iff.1 this with this|this
  ·have:=(blt_eq _ _).mp this;exact .inl ⟨this,rl k this⟩
  right;obtain⟨p,hp,e⟩:=List.any_eq_true.1 this;cases q:ps.find? fun p=>Nat.beq p.1 k with
  |none=>exact absurd e (by simpa using List.find?_eq_none.1 q p hp)
  |some p'=>have h1:=List.find?_some q;refine⟨p',List.mem_of_find?_eq_some q,ey.1 h1,?_⟩;show lT ps lo bw k=_;unfold lT;rw[q]
 have Ej:∀p∈ar,p.1<270:=fun p hp=>by obtain⟨k,hk,e⟩:=List.mem_map.1 hp;rw[←e];exact ji k hk
 have t0:270<top:=by unfold top;omega
 refine⟨[],r,rl,rn,rt,b3,(hl r rfl rt).mem,fun p hp=>?_,fun p hp q hq _ _ e=>?_,fun p hp=>nH,fun p hp=>nH⟩
 ·rcases List.mem_append.1 hp with hp|hp
  ·have bZ:=Ej p hp;refine⟨by omega,fun y hy=>?_⟩;rw[rl _ ab];refine⟨by omega,TK p hp y hy,y,?_,fK.refl _,(EX (nx:=270) (fun k hk=>rl k ab) bY p hp y hy).z⟩;refine List.mem_append_left _ ?_;rw[←hy];exact hp
  ·have bZ:p.1<top/\r p.1<top:=by
    rcases XP p.1 (List.mem_map.2 ⟨p,hp,rfl⟩) with⟨c1,c2⟩|⟨p',h1,h2,h3⟩
    ·rw[c2];omega
    ·obtain⟨c1,c2,c3,c4⟩:=tZ p' h1;rw[h3];omega
   refine⟨bZ.1,fun y hy=>?_⟩;obtain⟨d1,x,d2,d3,d4⟩:=(ho r rfl rt).mem p hp y hy;exact⟨bZ.2,d1,x,List.mem_append_right _ d2,d3,d4⟩
 ·have key:∀p∈ar++o,(p.1<lo/\r p.1=p.1)\/∃q∈ps,q.1=p.1/\r p.1=q.2:=fun p hp=>by
   rcases List.mem_append.1 hp with hp|hp
   ·exact .inl ⟨by have:=Ej p hp;omega,rl _ (by have:=Ej p hp;omega)⟩
   ·exact XP p.1<|List.mem_map.2 ⟨p,hp,rfl⟩
  rcases key p hp with⟨a1,a2⟩|⟨a,a1,a2,a3⟩<;>rcases key q hq with⟨c1,c2⟩|⟨c,c1,c2,c3⟩
  ·rw[a2,c2] at e;exact e
  ·have:=(tZ c c1).2.2.1;rw[a2,c3] at e;omega
  ·have:=(tZ a a1).2.2.1;rw[a3,c2] at e;omega
  ·rw[a3,c3] at e;have h1:=List.all_eq_true.1 (List.all_eq_true.1 hi a a1) c c1;rw[Bool.or_eq_true] at h1;rcases h1 with h1|h1
   ·rw[e,show Nat.beq c.2 c.2=true from Nat.beq_refl _] at h1;cases h1
   ·rw[←a2, ←c2];exact Nat.eq_of_beq_eq_true h1
theorem S6{l m:List AV}{rest:List AV}(hl:(l++rest).length<=top)(h:kG [] r l m)(h1:m.all AV.bQ=true):eZ [] r (.cells (l++rest).length (Tr.fill (l++rest) 0 .nil) [])<|.cells m.length (Tr.fill m 0 .nil) []:=by
 have hlen:=h.length;have xY:l.length<=(l++rest).length:=by rw[List.length_append];omega
 intro ρ fE N o yf k;refine eZ.cells ab h h1 ρ fE N o yf ?_;obtain⟨c,e,rfl,k1,k2,k3⟩:=k;refine⟨c,e,rfl,k1,by omega,fun i hi=>?_⟩;obtain⟨x,v,a1,a2,a3,a4⟩:=k3 i ab;refine⟨x,v,?_,a2,a3,a4⟩;unfold cellAt at a1 ⊢;rw[Tr.sg _ _ _ _ ab,if_pos ab,Nat.sub_zero] at a1;rw[Tr.sg _ _ _ _ ab,if_pos ab,Nat.sub_zero];rw[List.getElem?_append_left hi] at a1;exact a1
theorem adB{n m o len nQ e:Nat}(h:r m=n)(h1:nQ<=lo)(h2:len<=nQ):ba r (.slice (some (n,o)) len<|.aq lo e)<|.slice (some (m,o)) len<|.aq nQ e:=by intro ρ v hv;simp only[VR] at hv ⊢;obtain⟨b,N,c,q1,q2,q3,q4,q5⟩:=hv;exact⟨b,N,c,by rw[h];exact q1,q2,by omega,q4,q5⟩
theorem aii{m:List<|Int×Int}:eZ [] r (bz m)<|bz m:=fun _ _ _ _ _ h=>uF h
theorem Pb{m:List<|Int×Int}(hk:dU m):eZ [] r (xL m)<|bz m:=fun _ _ _ _ _ h=>abU hk h
theorem agQ:fK (bz a)<|bz b:=⟨fun _=>rfl,(fun e=>by cases e),fun e=>by cases e⟩
theorem Od:fK (xL a)<|bz b:=⟨fun _=>rfl,(fun e=>by cases e),fun e=>by cases e⟩
theorem wQ{a b:Nat}{s t:Tr AV}{z w:List AV}:fK (.cells a s z)<|.cells b t w:=⟨fun _=>rfl,(fun e=>by cases e),fun e=>by cases e⟩
theorem mi{α:Type}{l:List α}{a:α}(j:Nat)(h:l[j]? =some a:=by rfl):a∈l:=List.mem_of_getElem? h
theorem rq{m n:Nat}(hr:r=lT ps lo bw)(h:lT ps lo bw m=n:=by as_aux_lemma=>kernel_rfl):r m=n:=by rw[hr];exact h
theorem vi{k:IntKind}{n:Int}:jz [] r (.int k n)<|.int k n:=(ba.int _ _).z
theorem rY{m n:Nat}{x y:ae}(hm:(n,some x)∈o0)(hr:r m=n)(kp:fK x y)(ent:eZ [] r x y)(pl:y.jO=true:=by rfl):∀z,some y=some z->z.jO=true/\∃x,(r m,some x)∈o0/\fK x z/\eZ [] r x z:=fun z e=>by cases e;exact⟨pl,x,by rw[hr];exact hm,kp,ent⟩
theorem afe{N M:Nat}{l m:List AV}(h:kG [] r l m)(hN:l.length=N:=by rfl)(hM:m.length=M:=by rfl)(hl:Nat.ble N top=true:=by as_aux_lemma=>kernel_rfl)(h1:m.all AV.bQ=true:=by rfl):eZ [] r (.cells N (Tr.fill l 0 .nil) [])<|.cells M (Tr.fill m 0 .nil) []:=by subst hN;subst hM;exact eZ.cells (aM.1 hl) h h1
abbrev XQ(lo bw nx:Nat)(l0:List<|Nat×AV)(o0:List<|Nat×Option ae)(l1:List<|Nat×AV)(o1:List<|Nat×Option ae)(fr:AF)(s:AS):Prop:=(l0.map (fun q=>some q.2)=l0.map (fun q=>some q.2))/\((ar++o0).map (fun q=>q.2)=(ar++o0).map (fun q=>q.2))/\hI FU lo bw l0 (ar++o0) l1 (ar++o1) nx/\(fr=fr/\s=s)
end lR
end
section
open Go Go.Rn Go.RowKit Go.Proofs
namespace gi
open ch eO fT ij PQ lR tJ
variable {v x:Int} {r:Nat->Nat} {g nt i:Nat} {w2 w1:AV} {p:Option Code} {o0:List<|Nat×Option ae} {j9:bg} {nJ:bW}
noncomputable section
section
variable {B:aJ} {ms:bg} {cap:bW}
theorem fP{l:bg}(h:1<=l.length/\l.length<=6):(∃m0,l=[m0])\/(∃m0 m1,l=[m0,m1])\/(∃m0 m1 m2,l=[m0,m1,m2])\/(∃m0 m1 m2 m3,l=[m0,m1,m2,m3])\/(∃m0 m1 m2 m3 m4,l=[m0,m1,m2,m3,m4])\/∃m0 m1 m2 m3 m4 m5,l=[m0,m1,m2,m3,m4,m5]:=by
 match l,h with
 |[a],_=>exact .inl ⟨_,rfl⟩
 |[a,b],_=>exact .inr<|.inl ⟨_,_,rfl⟩
 |[a,b,c],_=>exact .inr<|.inr<|.inl ⟨_,_,_,rfl⟩
 |[a,b,c,d],_=>exact .inr<|.inr<|.inr<|.inl ⟨_,_,_,_,rfl⟩
 |[a,b,c,d,e],_=>exact .inr<|.inr<|.inr<|.inr<|.inl ⟨_,_,_,_,_,rfl⟩
 |[a,b,c,d,e,f],_=>exact .inr<|.inr<|.inr<|.inr<|.inr ⟨_,_,_,_,_,_,rfl⟩
 |[],h=>simp at h
 |_::_::_::_::_::_::_::_,h=>simp at h
theorem FQ{l:bg}(h:1<=l.length/\l.length<=7):l.length<=6\/∃m0 m1 m2 m3 m4 m5 m6,l=[m0,m1,m2,m3,m4,m5,m6]:=by
 match l,h with
 |[a,b,c,d,e,f,g],_=>exact .inr ⟨_,_,_,_,_,_,_,rfl⟩
 |[],_|[_],_|[_,_],_|[_,_,_],_|[_,_,_,_],_|[_,_,_,_,_],_|[_,_,_,_,_,_],_=>exact .inl (by simp)
 |_::_::_::_::_::_::_::_::l,h=>simp only[List.length_cons] at h;omega
theorem adC(h:de ms){nx:Nat}:∀m p,(m,p)∈dL ms cap->(ah (ar++aW (dL ms cap)) nx).h.get m=some p:=fun m p hm=>by
 rcases(FQ h.1).imp (fun q=>fP ⟨h.1.1,q⟩) id with(⟨m0,rfl⟩|⟨m0,m1,rfl⟩|⟨m0,m1,m2,rfl⟩|⟨m0,m1,m2,m3,rfl⟩|⟨m0,m1,m2,m3,m4,rfl⟩|⟨m0,m1,m2,m3,m4,m5,rfl⟩)|⟨m0,m1,m2,m3,m4,m5,m6,rfl⟩
 all_goals
  simp only[dL,qg,List.mem_cons,List.not_mem_nil,or_false] at hm
  repeat' (rcases hm with hm|hm)
  all_goals kernel_rfl
theorem Ke(nx:Nat)(h:de ms)(hc:oC ms.length cap)(y:AV):oH 3 y (bI ms) (ah (ar++aW (dL ms cap)) nx) y:=⟨rfl,_,.buf _ h cap hc,adC h⟩
def kH:bg->Int->Int->bg
 |[],_,_=>[]
 |[m],v,x=>[fM m v x]
 |m::m'::l,v,x=>m::kH (m'::l) v x
def ga:bg->bg
 |[]=>[]
 |[m]=>[m]
 |[m,m']=>[fj m m']
 |m::m'::zX::l=>m::ga (m'::zX::l)
def xE:bg->List (Int×Int)
 |[]=>[]
 |[m]=>m
 |_::l=>xE l
def gB(ms:bg)(v:Int):Nat->Option Int
 |0=>none
 |n+1=>if lv (ms.getD n []) v=true then some (getM (ms.getD n []) v) else gB ms v n
def ku(ms:bg)(v:Int):Int×Bool:=((gB ms v ms.length).getD 0,(gB ms v ms.length).isSome)
theorem adD{l:bg}{m:List<|Int×Int}(h:de<|l++[m]):de<|l++[fM m v x]:=by
 obtain⟨h1,h2⟩:=h;rw[List.length_append] at h1;refine⟨by rw[List.length_append];exact h1,fun q hq=>?_⟩;rcases List.mem_append.1 hq with hq|hq
 ·exact h2 q<|List.mem_append_left _ hq
 ·rw[List.mem_singleton] at hq;subst hq;exact dU.set (h2 m<|List.mem_append_right _<|List.mem_singleton.2 rfl) v x
theorem Sd{l:bg}{m:List<|Int×Int}:kH (l++[m]) v x=l++[fM m v x]:=by
 induction l with
 |nil=>rfl
 |cons y l ih=>
  cases l with
  |nil=>rfl
  |cons z l=>show y::kH (z::(l++[m])) v x=_;rw[show(z::(l++[m]):bg)=(z::l)++[m] from rfl,ih];rfl
theorem Mx{b:bg}(h:de b)(v x:Int):de<|kH b v x:=by
 have cf:b≠[]:=fun e=>by have:=h.1.1;rw[e] at this;simp only[List.length_nil] at this;omega
 rw[←List.dropLast_concat_getLast cf] at h ⊢;rw[Sd];exact adD h
theorem Hv:∀(b:bg) (v x:Int),(kH b v x).length=b.length
 |[],_,_|[_],_,_=>rfl
 |m::m'::l,v,x=>congrArg (· +1)<|Hv (m'::l) v x
theorem NL(h:de ms)(h6:ms.length<7):de<|ms++[[]]:=by
 refine⟨by rw[List.length_append];show 1<=ms.length+1/\ms.length+1<=7;omega,fun m hm=>?_⟩;rcases List.mem_append.1 hm with hm|hm
 ·exact h.2 m hm
 ·rw[List.mem_singleton] at hm;subst hm;exact List.nodup_nil
theorem NM(h:de ms)(h2:2<=ms.length):de ms.dropLast:=by refine⟨by rw[List.length_dropLast];have:=h.1.2;omega,fun m hm=>h.2 m<|List.dropLast_subset _ hm⟩
theorem Hi:∀ms:bg,2<=ms.length->(ga ms).length+1=ms.length
 |[],h=>by simp at h
 |[_],h=>by simp at h
 |[_,_],_=>rfl
 |m::m'::zX::l,_=>by have:=Hi (m'::zX::l) (by simp);show(ga<|m'::zX::l).length+1+1=(m'::zX::l).length+1;rw[this]
theorem Rb:∀ms:bg,(∀m∈ms,dU m)->∀m∈ga ms,dU m
 |[],h,m,hm=>by cases hm
 |[a],h,m,hm=>h m hm
 |[a,b],h,m,hm=>by rw[show ga [a,b]=[fj a b] from rfl,List.mem_singleton] at hm;subst hm;exact dU.merge (h a<|by simp)
 |a::b::c::l,h,m,hm=>by
  have hm:m∈a::ga (b::c::l):=hm;rcases List.mem_cons.1 hm with rfl|hm
  ·exact h _ (by simp)
  ·exact Rb (b::c::l) (fun q hq=>h q<|List.mem_cons_of_mem _ hq) m hm
theorem H8(h:de ms)(h2:2<=ms.length):de<|ga ms:=⟨by have:=Hi ms h2;have:=h.1.2;omega,Rb ms h.2⟩
theorem MZ(h:de ms):∀p∈dL ms cap,p.1<279:=fun p hp=>by
 have h6:=h.1.2;rcases List.mem_cons.1 hp with rfl|hp
 ·show 270<279;omega
 rcases List.mem_cons.1 hp with rfl|hp
 ·show 271<279;omega
 ·have:=(HI hp).2.1;omega
abbrev SB(B:aJ)(g nt:Nat)(rs:List ResultVar)(args:List AV)(ms:bg)(cap:bW)(y:AV)(j9:bg):Prop:=au pg B 271 (iQ XT pg rs 3 y<|bI j9) ⟨g,dt<|.ptr (some (270,0))::args,nt,[.code<|aS pg g []],[],none⟩<|ah (ar++aW (dL ms cap)) 279
theorem aij(mc:Mt [] B)(h:de ms)(hc:oC ms.length cap)(k:((some (bz<|xE ms)=some (bz<|xE ms))/\oH 3 (.int .i64 0) (bI<|kH ms v x) (ah (ar++aW (dL (kH ms v x) cap)) 279) (.int .i64 0))=wp (oV []) 900 6 (.fr 56 (max Tryz.f56.ntmps 3) (cO 56 []) (dt [.ptr<|some (270,0),.int .i64 v,.int .i64 x])<|ah (ar++aW (dL ms cap)) 279) (.st 8<|.rg<|.go 14<|.KH (xE ms)<|.en<|.rt 3 .no) (az Tryz.f56) (fun y s _=>oH 3 (.int .i64 0) (bI<|kH ms v x) s y) (fun _ _ _=>False):=by as_aux_lemma=>kernel_rfl):
 SB B 56 (max Tryz.f56.ntmps 3) (az Tryz.f56) [.int .i64 v,.int .i64 x] ms cap (.int .i64 0) (kH ms v x):=
 Ed mc _ ⟨rfl,Ke 279 (Mx h v x) (by rw[Hv];exact hc)<|.int .i64 0⟩ k bY
theorem ab2(mc:Mt [] B)(h:de ms)(hc:oC ms.length cap)(h6:ms.length<=6):SB B 56 (max Tryz.f56.ntmps 3) (az Tryz.f56) [.int .i64 v,.int .i64 x] ms cap (.int .i64 0)<|kH ms v x:=by rcases fP ⟨h.1.1,h6⟩ with⟨m0,rfl⟩|⟨m0,m1,rfl⟩|⟨m0,m1,m2,rfl⟩|⟨m0,m1,m2,m3,rfl⟩|⟨m0,m1,m2,m3,m4,rfl⟩|⟨m0,m1,m2,m3,m4,m5,rfl⟩<;>exact aij mc h hc
abbrev KA(L:bO)(g:Nat)(f:Func)(ms:bg)(cap:bW)(path:List Nat)(j9:bg)(nJ:bW)(p:Pl):Prop:=wp (oV L) 900 6 (.fr g (max f.ntmps 1) [.code<|aS pg g []] (dt [.ptr<|some (270,0)])<|ah (ar++aW (dL ms cap)) 279) p f.results.toList (fun y s _=>oH 3 (.int .i64 0) (bI j9) s y) fun fr s1 _=>fr=⟨g,aE [(2,i0)],max f.ntmps 1,[.code<|aS pg g path],[],none⟩/\s1=ah (ar++aW (dL j9 nJ)) 279
abbrev KZ(j9:bg)(nJ:bW):Prop:=oH 3 (.int .i64 0) (bI j9) (ah (ar++aW (dL j9 nJ)) 279)<|.int .i64 0
abbrev KB(L:bO)(g:Nat)(f:Func)(path:List Nat)(j9:bg)(nJ:bW):Prop:=wp (oV L) 900 6 (.fr g (max f.ntmps 1) [.code<|aS pg g path] (aE [(2,i0)])<|ah (ar++aW (dL j9 nJ)) 279) (.rt 1 .no) f.results.toList (fun y s _=>oH 3 (.int .i64 0) (bI j9) s y) fun _ _ _=>False
theorem Oe{L:bO}{f:Func}(path:List Nat)(mc:Mt L B)(h':de j9)(Qx:oC j9.length nJ)(p:Pl){T:Prop}(x:T)(k:T=KA L g f ms cap path j9 nJ p:=by as_aux_lemma=>kernel_rfl)(k2:KZ j9 nJ=KB L g f path j9 nJ:=by as_aux_lemma=>kernel_rfl):
 SB B g (max f.ntmps 1) f.results.toList [] ms cap (.int .i64 0) j9:=
 B4 mc (fun fr s1 _ hC=>by obtain⟨rfl,rfl⟩:=hC;exact Ed mc _ (Ke 279 h' Qx _) k2 bY) p x k bY
abbrev GY(bw:Nat)(o0:List<|Nat×Option ae)(j9:bg)(nJ:bW)(g nt:Nat)(path:List Nat):Prop:=XQ 271 bw 279 [(2,i0)] o0 [(2,i0)] (aW<|dL j9 nJ) ⟨g,aE [(2,i0)],nt,[.code<|aS pg g path],[],none⟩<|ah (ar++aW (dL j9 nJ)) 279
theorem WM{ps:List<|Nat×Nat}{bw:Nat}{path:List Nat}(h:∀r,r=lT ps 271 bw->zW r o0 (aW<|dL j9 nJ))(h1:zV ps 271 bw 279 ((aW<|dL j9 nJ).map (·.1))=true:=by as_aux_lemma=>kernel_rfl)(h2:Kd ps=true:=by as_aux_lemma=>kernel_rfl):GY bw o0 j9 nJ g nt path:=⟨rfl,rfl,JL (ps:=ps) ab h1 h2 (fun r hr ht=>⟨⟨by unfold top;omega,_,mi 0,vi⟩,trivial⟩) fun r hr _=>h r hr,rfl,rfl⟩
def El(n:Nat):List<|Nat×Nat:=(271,281)::(272+n,279)::(List.range n).map fun i=>(272+i,272+i)
def Qy(ms:bg):List<|Nat×Option ae:=(270,some<|aA gZ [.slice (some (281,0)) (ms.length+1)<|.aq (ms.length+1) 1])::(281,some<|aA gZ<|jP ms.length++[.map<|some 279])::(279,some<|xL [])::aW (qg 272 ms)
theorem Fw(l:List AV):(l.map gZ).flatten=l:=Dl l
theorem Gn{l m:List AV}(h:kG [] r l m)(hl:l.length<=8)(h1:m.all AV.bQ=true):eZ [] r (aA gZ l)<|aA gZ m:=by show eZ [] r (.cells (l.map gZ).flatten.length (Tr.fill (l.map gZ).flatten 0 .nil) [])<|.cells (m.map gZ).flatten.length (Tr.fill (m.map gZ).flatten 0 .nil) [];rw[Fw,Fw];exact eZ.cells dZ h h1
theorem M3(n:Nat):(jP n).all AV.bQ=true:=by rw[jP,List.all_map,List.all_eq_true];exact fun _ _=>rfl
theorem M4(n:Nat):(jP n).length=n:=by rw[jP,List.length_map,List.length_range]
theorem XR{m:Nat}{l:List<|Int×Int}(q:r m=m)(hm:(m,some<|bz l)∈o0:=by repeat first|exact List.mem_cons_self|apply List.mem_cons_of_mem):∀z,some (bz l)=some z->z.jO=true/\∃x,(r m,some x)∈o0/\fK x z/\eZ [] r x z:=rY hm q agQ aii
theorem agR(mc:Mt [] B)(h:de<|ms++[[]])(w1:∀r,r=lT (El ms.length) 271 282->kG [] r (jP ms.length++[.map<|some 279]) (jP (ms++[[]]).length))(w2:∀r,r=lT (El ms.length) 271 282->zW r (Qy ms) (aW<|qg 272<|ms++[[]]))(k:GY 282 (Qy ms) (ms++[[]]) (.aq (ms.length+1) 1) 58 (max Tryz.f58.ntmps 1) [1,1,1,1]=KA [] 58 Tryz.f58 ms cap [1,1,1,1] (ms++[[]]) (.aq (ms.length+1) 1) (.st 11<|.rn [(2,i0)] (ar++Qy ms) [(2,i0)] (ar++aW (dL (ms++[[]])<|.aq (ms.length+1) 1)) 282 279 .no):=by as_aux_lemma=>kernel_rfl)(h1:zV (El ms.length) 271 282 279 ((aW<|dL (ms++[[]])<|.aq (ms.length+1) 1).map (·.1))=true:=by as_aux_lemma=>kernel_rfl)(h2:Kd (El ms.length)=true:=by as_aux_lemma=>kernel_rfl)(q0:lT (El ms.length) 271 282 270=270:=by as_aux_lemma=>kernel_rfl)(q1:lT (El ms.length) 271 282 271=281:=by as_aux_lemma=>kernel_rfl)(k2:KZ (ms++[[]]) (.aq (ms.length+1) 1)=KB [] 58 Tryz.f58 [1,1,1,1] (ms++[[]]) (.aq (ms.length+1) 1):=by as_aux_lemma=>kernel_rfl):
 SB B 58 (max Tryz.f58.ntmps 1) (az Tryz.f58) [] ms cap (.int .i64 0) (ms++[[]]):=by
 have hl:(ms++[[]]).length=ms.length+1:=by rw[List.length_append];rfl
 have h7:=h.1.2;refine Oe [1,1,1,1] mc h (.inl<|by rw[hl]) _ (WM (fun r hr=>⟨rY (mi 0) (rq hr q0) wQ<|Gn (l:=[.slice (some (281,0)) (ms.length+1)<|.aq (ms.length+1) 1]) ⟨?_,trivial⟩ (by simp) rfl,rY (mi 1) (rq hr q1) wQ<|Gn (w1 r hr) ?_<|M3 _,w2 r hr⟩) h1 h2) k k2
 ·rw[hl];exact(ba.slice<|rq hr q1).z
 ·rw[List.length_append,M4];show ms.length+1<=8;omega
theorem aaS(mc:Mt [] B)(h:de ms)(hc:oC ms.length cap)(h6:ms.length<=6):SB B 58 (max Tryz.f58.ntmps 1) (az Tryz.f58) [] ms cap (.int .i64 0)<|ms++[[]]:=by
  have h2:=NL h ab
  rcases fP ⟨h.1.1,h6⟩ with⟨m0,rfl⟩|⟨m0,m1,rfl⟩|⟨m0,m1,m2,rfl⟩|⟨m0,m1,m2,m3,rfl⟩|⟨m0,m1,m2,m3,m4,rfl⟩|⟨m0,m1,m2,m3,m4,m5,rfl⟩
  all_goals rcases hc with rfl|⟨e,rfl⟩
  all_goals first
    |(cases e;done)
    | (refine agR mc h2 (fun r hr=>?_) fun r hr=>?_
       · repeat' first|exact trivial|refine⟨(ba.map<|rq hr).z,?_⟩
       · repeat' first|exact trivial|refine⟨rY (n:=279) (mi 2) (rq hr) Od<|Pb List.nodup_nil,?_⟩|refine⟨XR<|rq hr,?_⟩)
theorem TL{α:Type}{f g:α->AV}:∀{l:List α},(∀i∈l,jz [] r (f i)<|g i)->kG [] r (l.map f) (l.map g)
 |[],_=>trivial
 |_::_,h=>⟨h _ List.mem_cons_self,TL fun i hi=>h i<|List.mem_cons_of_mem _ hi⟩
theorem WN{r:Nat->Nat}{o0:List<|Nat×Option ae}:∀{ms:bg} {k:Nat},(∀p∈qg k ms,(p.1,some p.2)∈o0)->(∀i,i<ms.length->r (k+i)=k+i)->zW r o0 (aW<|qg k ms)
 |[],_,_,_=>trivial
 |m::ms,k,h,q=>⟨XR (m:=k) (q 0<|Nat.succ_pos _)<|h _ List.mem_cons_self,WN (fun p hp=>h p<|List.mem_cons_of_mem _ hp) fun i hi=>by have:=q (i+1)<|Nat.succ_lt_succ hi;rwa[show k+1+i=k+(i+1) by omega]⟩
theorem TM:∀{l:List<|Nat×ae} {p:Nat×ae},p∈l->(p.1,some p.2)∈aW l
 |_::l,p,h=>by
  rcases List.mem_cons.1 h with rfl|h
  ·exact List.mem_cons_self
  ·exact List.mem_cons_of_mem _<|TM h
def K0:List<|Nat×Nat:=[(271,271),(272,272),(273,273),(274,274),(275,275),(276,276),(277,277)]
theorem VZ(hr:r=lT K0 271 279)(i:Nat)(h:i<6):r (272+i)=272+i:=by rcases(by omega:i=0\/i=1\/i=2\/i=3\/i=4\/i=5) with rfl|rfl|rfl|rfl|rfl|rfl<;>exact rq hr
def GZ(ms:bg):List<|Nat×Option ae:=(270,some<|aA gZ [.slice (some (271,0)) ms.length<|.aq (ms.length+1) 1])::(271,some<|aA gZ<|jP<|ms.length+1)::aW (qg 272 ms)
theorem UC{path:List Nat}(h:de ms)(h6:ms.length<=6)(h1:zV K0 271 279 279 ((aW<|dL ms<|.aq ms.length 1).map (·.1))=true:=by as_aux_lemma=>kernel_rfl):GY 279 (GZ ms) ms (.aq ms.length 1) g nt path:=by refine WM (fun r hr=>⟨rY (mi 0) (rq hr) wQ<|Gn (l:=[.slice (some (271,0)) ms.length<|.aq (ms.length+1) 1]) ⟨(adB (rq hr) ab ab).z,trivial⟩ (by simp) rfl,rY (mi 1) (rq hr) wQ ?_,WN (fun p hp=>List.mem_cons_of_mem _<|List.mem_cons_of_mem _<|TM hp) fun i hi=>VZ hr i ab⟩) h1;show eZ [] r (.cells ((jP<|ms.length+1).map gZ).flatten.length (Tr.fill ((jP<|ms.length+1).map gZ).flatten 0 .nil) [])<|.cells ((jP ms.length).map gZ).flatten.length (Tr.fill ((jP ms.length).map gZ).flatten 0 .nil) [];rw[Fw,Fw,show jP (ms.length+1)=jP ms.length++[.map<|some<|272+ms.length] by rw[jP,List.range_succ,List.map_append];rfl];exact S6 (by rw[List.length_append,M4];show ms.length+1<=top;unfold top;omega) (TL fun i hi=>(ba.map<|VZ hr i (by have:=List.mem_range.1 hi;omega)).z)<|M3 _
theorem agS(mc:Mt [] B)(h:de ms.dropLast)(h6:ms.dropLast.length<=6)(h1:zV K0 271 279 279 ((aW<|dL ms.dropLast<|.aq ms.dropLast.length 1).map (·.1))=true:=by as_aux_lemma=>kernel_rfl)(k:GY 279 (GZ ms.dropLast) ms.dropLast (.aq ms.dropLast.length 1) 57 (max Tryz.f57.ntmps 1) [1,1,1]=KA [] 57 Tryz.f57 ms cap [1,1,1] ms.dropLast (.aq ms.dropLast.length 1) (.st 3<|.rg<|.go 1<|.il<|.rt 19<|.go 5<|.en<|.st 2<|.rn [(2,i0)] (ar++GZ ms.dropLast) [(2,i0)] (ar++aW (dL ms.dropLast<|.aq ms.dropLast.length 1)) 279 279 .no):=by as_aux_lemma=>kernel_rfl)(k2:KZ ms.dropLast (.aq ms.dropLast.length 1)=KB [] 57 Tryz.f57 [1,1,1] ms.dropLast (.aq ms.dropLast.length 1):=by as_aux_lemma=>kernel_rfl):
 SB B 57 (max Tryz.f57.ntmps 1) (az Tryz.f57) [] ms cap (.int .i64 0) ms.dropLast:=
 Oe [1,1,1] mc h (.inl rfl) _ (UC h h6 h1) k k2
theorem aaT(mc:Mt [] B)(h:de ms)(hc:oC ms.length cap)(h2:2<=ms.length)(h6:ms.length<=6):SB B 57 (max Tryz.f57.ntmps 1) (az Tryz.f57) [] ms cap (.int .i64 0) ms.dropLast:=by
 have q:=NM h h2;have q6:ms.dropLast.length<=6:=by rw[List.length_dropLast];omega
 rcases hc with rfl|⟨e,_⟩
 rotate_left
 ·omega
 rcases fP ⟨h.1.1,h6⟩ with⟨m0,rfl⟩|⟨m0,m1,rfl⟩|⟨m0,m1,m2,rfl⟩|⟨m0,m1,m2,m3,rfl⟩|⟨m0,m1,m2,m3,m4,rfl⟩|⟨m0,m1,m2,m3,m4,m5,rfl⟩
 ·simp at h2
 all_goals exact agS mc q q6
def Qz(a b:Nat)(m1 m2:List<|Int×Int)(s:AS):AS:=fm b (some<|bz m2)<|fm a (some<|bz<|fj m1 m2)<|aT b<|aT a<|dA 270 dF dT s
def B8(ms:bg):AS:=⟨fR<|ar++(270,some<|aA gZ [.slice (some (271,0)) (ms.length - 1)<|.aq ms.length 1])::(271,some<|aA gZ<|jP ms.length)::aW (qg 272 ms),279,279,[],[]⟩
abbrev XS(ms:bg):AS:=Qz (272+(ms.length - 2)) (272+(ms.length - 1)) (xE ms.dropLast) (xE ms)<|B8 ms
theorem My:∀{ms:bg},(∀m∈ms,dU m)->dU (xE ms)
 |[],_=>List.nodup_nil
 |[m],h=>h m List.mem_cons_self
 |_::m::l,h=>My (ms:=m::l) fun q hq=>h q<|List.mem_cons_of_mem _ hq
theorem aff(mc:Mt [yo] B)(h0:de ms)(hn:2<=ms.length)(h:de<|ga ms)(h6:(ga ms).length<=6)(h1:zV K0 271 279 279 ((aW<|dL (ga ms)<|.aq (ga ms).length 1).map (·.1))=true:=by as_aux_lemma=>kernel_rfl)(hk:pC 270 dF dT (B8 ms)=true:=by as_aux_lemma=>kernel_rfl)(ha:Nat.blt (272+(ms.length - 2)) (dA 270 dF dT<|B8 ms).nx=true:=by as_aux_lemma=>kernel_rfl)(hb:Nat.blt (272+(ms.length - 1)) (dA 270 dF dT<|B8 ms).nx=true:=by as_aux_lemma=>kernel_rfl)(g1:(dA 270 dF dT<|B8 ms).h.get (272+(ms.length - 2))=some (bz<|xE ms.dropLast):=by as_aux_lemma=>kernel_rfl)(g2:(dA 270 dF dT<|B8 ms).h.get (272+(ms.length - 1))=some (bz<|xE ms):=by as_aux_lemma=>kernel_rfl)(k:(aZ pg (sp [yo]) FU 6 (.fn 61) [.map<|some<|272+(ms.length - 2),.map<|some<|272+(ms.length - 1)] (B8 ms)= .ok (.tuple []) (XS ms)/\GY 279 (GZ<|ga ms) (ga ms) (.aq (ga ms).length 1) 60 (max Tryz.f60.ntmps 1) [1,1,1,1])=KA [yo] 60 Tryz.f60 ms cap [1,1,1,1] (ga ms) (.aq (ga ms).length 1) (.st 3<|.rg<|.go 1<|.il<|.rt 19<|.go 5<|.en<|.st 4<|.rg<|.go 13<|.cu (.tuple []) (XS ms)<|.en<|.st 2<|.rn [(2,i0)] (ar++GZ (ga ms)) [(2,i0)] (ar++aW (dL (ga ms)<|.aq (ga ms).length 1)) 279 279 .no):=by as_aux_lemma=>kernel_rfl)(k2:KZ (ga ms) (.aq (ga ms).length 1)=KB [yo] 60 Tryz.f60 [1,1,1,1] (ga ms) (.aq (ga ms).length 1):=by as_aux_lemma=>kernel_rfl):
 SB B 60 (max Tryz.f60.ntmps 1) (az Tryz.f60) [] ms cap (.int .i64 0) (ga ms):=
 have h7:=h0.1.2
 Oe [1,1,1,1] mc h (.inl rfl) _ ⟨Ur (P:=pg) (sp:=sp [yo]) aV hk ab ha hb Gh Gh g1 g2 (My fun m hm=>h0.2 m<|List.dropLast_subset _ hm)<|My h0.2,UC h h6 h1⟩ k k2
theorem LW(mc:Mt [yo] B)(h:de ms)(hc:oC ms.length cap)(h2:2<=ms.length):SB B 60 (max Tryz.f60.ntmps 1) (az Tryz.f60) [] ms cap (.int .i64 0)<|ga ms:=by
 have q:=H8 h h2;have q6:(ga ms).length<=6:=by have:=Hi ms h2;have:=h.1.2;omega
 rcases hc with rfl|⟨e,_⟩
 rotate_left
 ·omega
 rcases(FQ h.1).imp (fun q=>fP ⟨h.1.1,q⟩) id with(⟨m0,rfl⟩|⟨m0,m1,rfl⟩|⟨m0,m1,m2,rfl⟩|⟨m0,m1,m2,m3,rfl⟩|⟨m0,m1,m2,m3,m4,rfl⟩|⟨m0,m1,m2,m3,m4,m5,rfl⟩)|⟨m0,m1,m2,m3,m4,m5,m6,rfl⟩
 ·simp at h2
 all_goals exact aff mc h h2 q q6
def G0:Code:=aS pg 32 [1,1,0,1,0,0]
def B9:Code:=aS pg 32 [1,1,0,1,0,1]
def rZ:List<|Nat×AV:=[(3,(.ptr<|some (279,0))),(4,(.ptr<|some (280,0))),(5,(.ptr<|some (281,0))),(12,(.func (.func 76) [] [(.ptr<|some (282,0))]))]
def oG(n:Nat)(cap:bW)(x:Nat->Option ae)(v:Int)(w1 w2:AV):List<|Nat×Option ae:=ar++[(270,some<|WE n cap),(271,some<|aA gZ<|jP n),(272,x 0),(273,x 1),(274,x 2),(275,x 3),(276,x 4),(277,x 5),(279,some<|eH<|.int .i64 v),(280,some<|eH w1),(281,some<|eH w2),(282,some<|.cells 1 (Tr.fill [.ptr<|some (270,0)] 0 .nil) [])]
def sG(n:Nat)(cap:bW)(x:Nat->Option ae)(v:Int)(w1 w2:AV)(st:LoopState)(p:Option Code):AS:=ah (oG n cap x v w1 w2++[(283,some .defs),(284,some<|.loop st p 32 (aE rZ) 22 [13] G0 B9 283)]) 285
abbrev qL(n:Nat)(cap:bW)(x:Nat->Option ae)(v:Int):AS:=sG n cap x v (.int .i64 0) (.bool false) .ready none
def oZ(n:Nat)(cap:bW)(x:Nat->Option ae)(v:Int):Option Int->AS
 |none=>qL n cap x v
 |some z=>sG n cap x v (.int .i64 z) (.bool true) .done<|some .ret
def oI(b:Bool)(z:Int):Option Int:=match b with
 |true=>some z
 |false=>none
def bP(b:Bool)(p q:Prop):Prop:=match b with
 |true=>p
 |false=>q
theorem rgT{A L:Prop}{m:List<|Int×Int}(b:Bool)(a:A)(hh:lv m v=b)(l:L):A/\((lv m v=true->bP b L False)/\(lv m v=false->bP b False L)):=by subst hh;refine⟨a,fun h=>?_,fun h=>?_⟩<;>(rw[h];exact l)
abbrev yk(n:Nat)(cap:bW)(x:Nat->Option ae)(v:Int)(i:Nat)(s:AS)(y:AV):Prop:=aZ pg (sp []) FU 5 (.round 284) [.map<|some<|272+i] (qL n cap x v)= .ok y s
theorem rgW{n:Nat}{cap:bW}{x:Nat->Option ae}{m:List<|Int×Int}(b:Bool)(hx:x i=some (bz m))(hh:lv m v=b)(k1:getLoop 284 (qL n cap x v)= .ok (.loop .ready none 32 (aE rZ) 22 [13] G0 B9 283) (qL n cap x v):=by as_aux_lemma=>kernel_rfl)(k2:dV pg (aZ pg (sp []) FU 4) 2 ⟨32,ju [13] [.map<|some<|272+i]<|aE rZ,22,[.code G0,.beginRound,.code B9],[],some 284⟩ (qL n cap x v)= .ok (.go ⟨32,((ju [13] [.map<|some<|272+i]<|aE rZ).put 6<|some<|.map<|some<|272+i),22,[.code B9],[],some 284⟩) (sG n cap x v (.int .i64 0) (.bool false) .busy none):=by as_aux_lemma=>kernel_rfl)(k:((x i=some (bz m))/\((lv m v=true->bP b ((none:Option Nat)=none/\([]:List Nat)=[]/\(some (.bool !b,oZ n cap x v<|oI b<|getM m v):Option<|AV×AS)=some (.bool !b,oZ n cap x v<|oI b<|getM m v)) False)/\(lv m v=false->bP b False ((none:Option Nat)=none/\([]:List Nat)=[]/\(some (.bool !b,oZ n cap x v<|oI b<|getM m v):Option<|AV×AS)=some (.bool !b,oZ n cap x v<|oI b<|getM m v)))))=wp (jK []) 900 4 (.fr 32 22 [.code B9] ((ju [13] [.map<|some<|272+i]<|aE rZ).put 6<|some<|.map<|some<|272+i)<|sG n cap x v (.int .i64 0) (.bool false) .busy none) (.st 2<|.rg<|.go 2<|.Xq m (@Bool.rec (fun _=>Pl) .no (.go 5<|.en<|.st 5<|.cut .no) b)<|@Bool.rec (fun _=>Pl) (.go 5<|.en<|.st 5<|.cut .no) .no b) [] (fun _ _ _=>False)
 (fun fr s1 _=>fr.round=none/\fr.defers=[]/\AE pg (aZ pg (sp []) FU 4) 284 fr s1=some (.bool !b,oZ n cap x v<|oI b<|getM m v)):=by as_aux_lemma=>kernel_rfl):yk n cap x v i (oZ n cap x v<|oI b<|getM m v)<|.bool !b:=
 Eu k1 rfl (Chunk.ev 2 _ _ _ _ k2<|Cz (E:=jK []) eQ rfl (fun fr s p h=>Et h.1 h.2.1 h.2.2) 900 _ (rgT b hx hh<|GS _ _) k)
theorem UD{n:Nat}{cap:bW}{x:Nat->Option ae}{m:List<|Int×Int}(b:Bool)(hi:i<6)(hx:x i=some (bz m))(hh:lv m v=b):yk n cap x v i (oZ n cap x v<|oI b<|getM m v)<|.bool !b:=by rcases(by omega:i=0\/i=1\/i=2\/i=3\/i=4\/i=5) with rfl|rfl|rfl|rfl|rfl|rfl<;>cases b<;>exact rgW _ hx hh
def pD(s0 sE:AS)(b:Bool):Nat->Nat->Pl
 |j,0=> @Bool.rec (fun _=>Pl) (.rt 11 .no) (.st j<|.rg<|.go 8<|.cy (.bool false) sE<|.go 1<|.en<|.rt 2 .no) b
 |j,k+1=>.st j<|.rg<|.go 8<|.cy (.bool true) s0<|.go 1<|.en<|pD s0 sE b 13 k
def TD(n:Nat)(cap:bW)(x:Nat->Option ae)(v z:Int)(b:Bool):Nat->Nat->Prop
 |i,0=>bP b (yk n cap x v (i - 1) (oZ n cap x v<|some z) (.bool false)/\(AV.tuple []= .tuple []/\oZ n cap x v (some z)=oZ n cap x v (some z)))<|AV.tuple []= .tuple []/\qL n cap x v=qL n cap x v
 |i,k+1=>yk n cap x v (i - 1) (qL n cap x v) (.bool true)/\TD n cap x v z b (i - 1) k
def xB(ms:bg)(i:Nat):Option ae:=(ms[i]?).map bz
theorem UE{n:Nat}{v:Int}(h6:ms.length<=6):∀i,i<=ms.length->∃k b z,((b=true/\k<i)\/(b=false/\k=i))/\gB ms v i=oI b z/\TD n cap (xB ms) v z b i k
 |0,_=>⟨0,false,0,.inr ⟨rfl,rfl⟩,rfl,rfl,rfl⟩
 |i+1,hi=>by
  have hx:xB ms i=some (bz<|ms.getD i []):=by unfold xB;rw[List.getD_eq_getElem?_getD,List.getElem?_eq_getElem ab];rfl
  cases hh:lv (ms.getD i []) v with
  |true=>exact⟨0,true,getM (ms.getD i []) v,.inl ⟨rfl,by omega⟩,by unfold gB;rw[hh];rfl,UD true ab hx hh,rfl,rfl⟩
  |false=>obtain⟨k,b,z,h1,h2,h3⟩:=UE (n:=n) h6 i ab;exact⟨k+1,b,z,h1.imp (fun h=>⟨h.1,by omega⟩) fun h=>⟨h.1,by omega⟩,by rw[←h2,gB,hh];rfl,UD false ab hx hh,h3⟩
abbrev QA(s0 sE:AS):Prop:=aZ pg (sp []) FU 6 (.fn 76) [.yield 284,.ptr<|some (282,0)] s0= .ok (.tuple []) sE
theorem XU{n:Nat}{x:Nat->Option ae}{z:Int}{b:Bool}{k:Nat}(h:TD n cap x v z b n k)(q:TD n cap x v z b n k=wp (jK []) 900 5 (.fr 76 (max Tryz.f76.ntmps 2) (cO 76 []) (dt [.yield 284,.ptr<|some (282,0)])<|qL n cap x v) (pD (qL n cap x v) (oZ n cap x v<|some z) b 12 k) (az Tryz.f76) (fun y s _=>y= .tuple []/\s=oZ n cap x v (oI b z)) (fun _ _ _=>False):=by as_aux_lemma=>kernel_rfl):QA (qL n cap x v)<|oZ n cap x v<|oI b z:=by obtain⟨y,s2,q1,rfl,rfl⟩:=rP.call (E:=jK []) (n:=5) (args:=[.yield 284,.ptr<|some (282,0)]) Tryz.func76 (EV Tryz.func76 bY)<|FK (R:=fun y s=>y= .tuple []/\s=oZ n cap x v (oI b z)) (C:=fun _ _ _=>False) eQ rfl (fun _ _ _ h=>h.elim) 900 _ h q;exact q1
theorem adE(h:1<=ms.length/\ms.length<=6):QA (qL ms.length cap (xB ms) v)<|oZ ms.length cap (xB ms) v<|gB ms v ms.length:=by
 obtain⟨k,b,z,h1,h2,h3⟩:=UE (n:=ms.length) (cap:=cap) (v:=v) h.2 ms.length<|Nat.le_refl _;rw[h2];revert h1 h3;generalize xB ms=x;generalize ms.length=n at h;intro h1 h3;rcases(by omega:n=1\/n=2\/n=3\/n=4\/n=5\/n=6) with rfl|rfl|rfl|rfl|rfl|rfl<;>rcases h1 with⟨rfl,h1⟩|⟨rfl,rfl⟩
 all_goals first
  |(rcases(by omega:k=0\/k=1\/k=2\/k=3\/k=4\/k=5) with rfl|rfl|rfl|rfl|rfl|rfl<;>first|(exfalso;omega)|exact XU h3)
  |exact XU h3
def QB:List Item:=[.inBlock 0,.code<|aS pg 32 [1,1,1]]
def Ca:AF:=⟨32,aE rZ,max Tryz.f32.ntmps 2,.code (aS pg 32 [1,1,0,1,0])::QB,[],none⟩
theorem agT:aS pg 32 [1,1,0,1,0]= .rangeFunc (.tmp 12) #[13] G0 B9:=by kernel_rfl
def sZ(n:Nat)(cap:bW)(x:Nat->Option ae)(v:Int)(w1 w2:AV)(o:Option ae)(p:Option Code):AS:=ah (oG n cap x v w1 w2++[(283,o),(284,some<|.loop .exhausted p 32 (aE rZ) 22 [13] G0 B9 283)]) 285
theorem adF{o:Option ae}(h:1<=ms.length/\ms.length<=6):∀m q,(m,q)∈dL ms cap->(sZ ms.length cap (xB ms) v w1 w2 o p).h.get m=some q:=fun m q hm=>by
 rcases fP h with⟨m0,rfl⟩|⟨m0,m1,rfl⟩|⟨m0,m1,m2,rfl⟩|⟨m0,m1,m2,m3,rfl⟩|⟨m0,m1,m2,m3,m4,rfl⟩|⟨m0,m1,m2,m3,m4,m5,rfl⟩
 all_goals
  simp only[dL,qg,List.mem_cons,List.not_mem_nil,or_false] at hm
  repeat' (rcases hm with hm|hm)
  all_goals kernel_rfl
theorem XV{Y:AV}(mc:Mt [] B)(hb:de ms)(h6:ms.length<=6)(hc:oC ms.length cap){sE:AS}(dn:QA (qL ms.length cap (xB ms) v) sE)(h5:lI 284 sE= .ok p (sZ ms.length cap (xB ms) v w1 w2 (some .defs) p))(hd:Gl pg (aZ pg (sp []) FU 6) (az Tryz.f32) 8 283 ⟨32,aE rZ,max Tryz.f32.ntmps 2,andThen p QB,[],none⟩ (sZ ms.length cap (xB ms) v w1 w2 (some .defs) p)=some (Y,sZ ms.length cap (xB ms) v w1 w2 none p)):
 au pg B 271 (iQ XT pg (az Tryz.f32) 3 Y<|bI ms) Ca (ah (oG ms.length cap (xB ms) v (.int .i64 0)<|.bool false) 283):=by
 unfold Ca;rw[agT];exact au.chunk bH mc.2.2.1 mc.2.2.2 (H4 (gv:=.func (.func 76) [] [.ptr<|some (282,0)]) (s1:=ah (oG ms.length cap (xB ms) v (.int .i64 0) (.bool false)++[(283,some .defs)]) 284) bY bY bY dn h5) (by show 271<=283;omega)<|(MW (l:=283) (k:=8) (fr:=⟨32,aE rZ,max Tryz.f32.ntmps 2,andThen p QB,[],none⟩) bH mc.2.2.1 mc.2.2.2 rfl rfl hd ⟨rfl,_,.buf _ hb cap hc,adF ⟨hb.1.1,h6⟩⟩).2.2 (by show 271<=285;omega)
theorem goG{y v':AV}(mc:Mt [] B)(H:au pg B 271 (iQ XT pg (az Tryz.f32) 3 y v') Ca<|ah (oG ms.length cap (xB ms) v (.int .i64 0)<|.bool false) 283)(k:((rZ.map (fun q=>some q.2)=rZ.map (fun q=>some q.2))/\((oG ms.length cap (xB ms) v (.int .i64 0)<|.bool false).map (fun q=>q.2)=(oG ms.length cap (xB ms) v (.int .i64 0)<|.bool false).map (fun q=>q.2))/\(Ca=Ca/\ah (oG ms.length cap (xB ms) v (.int .i64 0)<|.bool false) 283=ah (oG ms.length cap (xB ms) v (.int .i64 0)<|.bool false) 283))=wp (oV []) 900 6 (.fr 32 (max Tryz.f32.ntmps 2) (cO 32 []) (dt [.ptr<|some (270,0),.int .i64 v])<|ah (ar++aW (dL ms cap)) 279)
 (.st 9<|.rg<|.go 1<|.il<|.rt 5<|.en<|.st 1<|.ls rZ (oG ms.length cap (xB ms) v (.int .i64 0)<|.bool false) 283 .no) (az Tryz.f32) (fun Y s _=>oH 3 y v' s Y) (fun fr s1 _=>fr=Ca/\s1=ah (oG ms.length cap (xB ms) v (.int .i64 0)<|.bool false) 283):=by as_aux_lemma=>kernel_rfl):
 au pg B 271 (iQ XT pg (az Tryz.f32) 3 y v') (sF 32 Tryz.f32 [.ptr<|some (270,0),.int .i64 v]) (ah (ar++aW (dL ms cap)) 279):=
 B4 mc (fun fr s1 _ hC=>by obtain⟨rfl,rfl⟩:=hC;exact H) _ ⟨rfl,rfl,rfl,rfl⟩ k bY
theorem ab3(mc:Mt [] B)(hb:de ms)(hc:oC ms.length cap)(h6:ms.length<=6):SB B 32 (max Tryz.f32.ntmps 2) (az Tryz.f32) [.int .i64 v] ms cap (.tuple [.int .i64 (ku ms v).1,.bool (ku ms v).2]) ms:=by
 have dn:=adE (cap:=cap) (v:=v) ⟨hb.1.1,h6⟩;have H:au pg B 271 (iQ XT pg (az Tryz.f32) 3 (.tuple [.int .i64 (ku ms v).1,.bool (ku ms v).2])<|bI ms) Ca<|ah (oG ms.length cap (xB ms) v (.int .i64 0)<|.bool false) 283:=by
  unfold ku;revert dn;cases gB ms v ms.length with
  |none=>exact fun dn=>XV mc hb h6 hc dn (w1:=.int .i64 0) (w2:=.bool false) (p:=none) bY bY
  |some z=>exact fun dn=>XV mc hb h6 hc dn (w1:=.int .i64 z) (w2:=.bool true) (p:=some .ret) bY bY
 rcases fP ⟨hb.1.1,h6⟩ with⟨m0,rfl⟩|⟨m0,m1,rfl⟩|⟨m0,m1,m2,rfl⟩|⟨m0,m1,m2,m3,rfl⟩|⟨m0,m1,m2,m3,m4,rfl⟩|⟨m0,m1,m2,m3,m4,m5,rfl⟩<;>exact goG mc H
end
section
variable {L:bO}
theorem Ff{L0:bO}{fn:Func}{F:bg->List AV->Option (AV×bg)}(hP:bR pg)(h:aY L)(h0:aY L0)(cj:Tryz.prog.funcs[g]? =some fn)(H:∀a rest y a',F a rest=some (y,a')->max fn.ntmps (rest.length+1)<=top/\∀B cap,Mt L0 B->de a->oC a.length cap->SB B g (max fn.ntmps<|rest.length+1) fn.results.toList rest a cap y a')(cw:fn.body=some (aS pg g []):=by kernel_rfl)(hn:(fn.name == "runtime.NumGoroutine")=false:=by kernel_rfl):aY<|(g,.tok 3<|gU bI F)::L:=by
 refine NB yj hP gS qZ jQ ji me lQ h h0 cj cw hn fun v rest y v' e=>?_;obtain⟨a,a',rfl,e1,rfl⟩:=HZ e;obtain⟨q1,q2⟩:=H a rest y a' e1;refine⟨q1,fun L hx=>?_⟩;generalize hv:bI a=v at hx;cases hx with
 |buf b hb cap hc=>have:=sq _ _ hv;subst this;exact⟨279,by omega,aM.1 aV,MZ hb,fun B mc=>q2 B cap mc hb hc⟩
def FT:bg->List AV->Option (AV×bg)
 |a,[.int .i64 v,.int .i64 x]=>if a.length<=6 then some (.int .i64 0,kH a v x) else none
 |_,_=>none
def Bd:bg->List AV->Option (AV×bg)
 |a,[.int .i64 v]=>if a.length<=6 then some (.tuple [.int .i64 (ku a v).1,.bool (ku a v).2],a) else none
 |_,_=>none
def Jd:bg->List AV->Option (AV×bg)
 |a,[]=>if a.length<7 then some (.int .i64 0,a++[[]]) else none
 |_,_=>none
def Je:bg->List AV->Option (AV×bg)
 |a,[]=>if 2<=a.length/\a.length<=6 then some (.int .i64 0,a.dropLast) else none
 |_,_=>none
def Iy:bg->List AV->Option (AV×bg)
 |a,[]=>if 2<=a.length then some (.int .i64 0,ga a) else none
 |_,_=>none
def FV:FuncId×KE:=(56,.tok 3<|gU bI FT)
def Of:FuncId×KE:=(58,.tok 3<|gU bI Jd)
def Og:FuncId×KE:=(57,.tok 3<|gU bI Je)
def CL:FuncId×KE:=(60,.tok 3<|gU bI Iy)
def kK:FuncId×KE:=(32,.tok 3<|gU bI Bd)
theorem ab4(hP:bR pg)(h:aY L):aY<|FV::L:=Ff hP h dc Tryz.func56 fun a rest y a' e=>by unfold FT at e;split at e<;>(try split at e)<;>cases e;exact⟨aM.1 aV,fun B cap mc hb hc=>ab2 mc hb hc ‹_›⟩
theorem aaU(hP:bR pg)(h:aY L):aY<|Of::L:=Ff hP h dc Tryz.func58 fun a rest y a' e=>by unfold Jd at e;split at e<;>(try split at e)<;>cases e;exact⟨aM.1 aV,fun B cap mc hb hc=>aaS mc hb hc<|Nat.le_of_lt_succ ‹_›⟩
theorem aaV(hP:bR pg)(h:aY L):aY<|Og::L:=Ff hP h dc Tryz.func57 fun a rest y a' e=>by unfold Je at e;split at e<;>(try split at e)<;>cases e;rename_i q;exact⟨aM.1 aV,fun B cap mc hb hc=>aaT mc hb hc q.1 q.2⟩
theorem Z6(hP:bR pg)(h:aY L):aY<|CL::L:=Ff hP h (Vo hP dc) Tryz.func60 fun a rest y a' e=>by unfold Iy at e;split at e<;>(try split at e)<;>cases e;exact⟨aM.1 aV,fun B cap mc hb hc=>LW mc hb hc ‹_›⟩
theorem H9(hP:bR pg)(h:aY L):aY<|kK::L:=Ff hP h dc Tryz.func32 fun a rest y a' e=>by unfold Bd at e;split at e<;>(try split at e)<;>cases e;exact⟨aM.1 aV,fun B cap mc hb hc=>ab3 mc hb hc ‹_›⟩
def Pc:List AV->Option (Option AV×(AV->AV))
 |[]=>some (some<|bI [[]],fun p=>p)
 |_=>none
def Dn:FuncId×KE:=(25,.new 3 Pc)
def oN:List<|Nat×Option ae:=[(270,some<|xL []),(271,some<|aA gZ [.map<|some 270]),(272,some<|aA gZ [.slice (some (271,0)) 1<|.known 1])]
theorem Oh:de [[]]:=⟨by show 1<=1/\1<=7;omega,fun m hm=>by rw[List.mem_singleton] at hm;subst hm;exact List.nodup_nil⟩
theorem afg:XQ 270 273 279 [(0,.ptr<|some (272,0))] oN [(0,.ptr<|some (270,0))] (aW<|dL [[]]<|.known 1) ⟨25,aE [(0,.ptr<|some (270,0))],max Tryz.f25.ntmps 0,(cO 25 [1,1]),[],none⟩<|ah (ar++aW (dL [[]]<|.known 1)) 279:=⟨rfl,rfl,JL (ps:=[(270,272),(271,271),(272,270)]) ab bY bY (fun r hr _=>⟨⟨by unfold top;omega,_,mi 0,(ba.ptr<|rq hr).z⟩,trivial⟩) fun r hr _=>⟨rY (mi 2) (rq hr) wQ<|Gn (l:=[.slice (some (271,0)) 1<|.known 1]) ⟨(ba.slice<|rq hr).z,trivial⟩ (by simp) rfl,rY (mi 1) (rq hr) wQ<|Gn (l:=[.map<|some 270]) ⟨(ba.map<|rq hr).z,trivial⟩ (by simp) rfl,rY (mi 0) (rq hr) Od<|Pb List.nodup_nil,trivial⟩,rfl,rfl⟩
theorem ab5(hP:bR pg)(h:aY L):aY<|Dn::L:=by
 refine Ul yj hP gS (aM.1 aV) jQ ji h dc Tryz.func25 (body:=aS pg 25 []) aV aV fun args p e=>?_;unfold Pc at e;split at e<;>cases e;refine⟨aM.1 aV,fun e0=>(by cases e0),fun v e0=>?_⟩;injection e0 with e0;subst e0
 refine⟨yZ.ptr,fun B mc=>?_⟩;rw[←ib];exact wC mc (C:=fun fr s1 _=>fr=⟨25,aE [(0,.ptr<|some (270,0))],max Tryz.f25.ntmps 0,(cO 25 [1,1]),[],none⟩/\s1=ah (ar++aW (dL [[]]<|.known 1)) 279) (fun fr s1 _ hC=>by obtain⟨rfl,rfl⟩:=hC;exact wS mc (.rt 1 .no)<|Ke (ms:=[[]]) (cap:=.known 1) 279 Oh (.inr ⟨rfl,rfl⟩)<|.ptr<|some (270,0)) (.st 4<|.rn [(0,.ptr<|some (272,0))] (ar++oN) [(0,.ptr<|some (270,0))] (ar++aW (dL [[]]<|.known 1)) 273 279 .no) afg
end
end
end gi
end
section
open Go Go.Rn Go.RowKit Go.Proofs
namespace gj
open ch eO cG cQ di fW fD gH gP gV
variable {st:VS} {T:Prop} {v:AV} {x7 x6 x5 x4 x3 x2 x0:Int} {s:AS} {rest:List AV} {q lg G:Nat} {cap:bW} {L:bO}
noncomputable section
abbrev qM(L:bO):Env:=xS pg 270 dT dF L 273 true
def Gr:FuncId×KE:=(52,.raw fun a b c=>vE a b c<|aP zd)
def l8(x0 x1 x2 x3 x4 x5 x6 x7:Int):List Int:=[x0,x1,x2,x3,x4,x5,x6,x7]
theorem evU{n m off len:Nat}{cs:List AV}{a b:AV}(h1:(a.hi&&(b.hi&&FW len cap))=true)(hk:pC 270 dF dT s=true)(hm:Nat.blt m (dA 270 dF dT s).nx=true)(ht:Nat.blt m top=true)(h2:cellsOf ((dA 270 dF dT s).h.get m) off len=some cs)(h3:cs.all AV.gf=true)(h4:aP zd [a,.U (nm cs) 0 len,b]=some v)(h5:v.xF=true):
 aZ pg (sp [Gr]) FU (n+1) (.fn 52) [a,.slice (some (m,off)) len cap,b] s= .ok v (aT m<|dA 270 dF dT s):=
 ab7 (P:=pg) (sp:=sp [Gr]) aV h1 hk hm ht h2 h3 h4 h5
theorem mG{y Y:AV}(e:Y=y)(h1:s.h.get 270=some (bS<|dO st.R 271 272))(h2:s.h.get 271=some (.tok 3 st.u))(h3:s.h.get 272=some (bS st.row)):Y=y/\∀m o,(m,o)∈dB 270 3 st->s.h.get m=some o:=by
 refine⟨e,fun m o hm=>?_⟩;simp only[dB,List.mem_cons,List.not_mem_nil,or_false] at hm;rcases hm with hm|hm|hm<;>(injection hm with a b;subst a;subst b)
 ·exact h1
 ·exact h2
 ·exact h3
theorem afj{e:Ex}{aD:List Int}{x1:Int}(hg:dm encI 1 (.U G q lg) aD):aP zd [.agg<|aC e,.U (nm [.int .i64 x0,.int .i64 x1,.int .i64 x2,.int .i64 x3,.int .i64 x4,.int .i64 x5,.int .i64 x6,.int .i64 x7]) 0 8,.U G q lg]=some (DI<|zc e (l8 x0 x1 x2 x3 x4 x5 x6 x7) aD):=eK zd.bM ⟨e,_,0,8,G,q,lg,l8 x0 x1 x2 x3 x4 x5 x6 x7,aD,rfl,dm.ax eI<|l8 x0 x1 x2 x3 x4 x5 x6 x7,hg,rfl⟩
noncomputable abbrev Oi(vars:Int)(G q lg:Nat)(x0 x1 x2 x3 x4 x5 x6 x7:Int)(len:Nat)(cap:bW)(steps:Int)(u:AV)(row:List AV)(op n:Int)(N L:Nat):List<|Nat×Option ae:=ar++[(270,some<|.cells 13 (Tr.fill [(i6 vars),(.U G q lg),(i6 x0),(i6 x1),(i6 x2),(i6 x3),(i6 x4),(i6 x5),(i6 x6),(i6 x7),(.ptr<|some (271,0)),(.slice (some (272,0)) (len) cap),(i6 steps)] 0 .nil) []),(271,(some<|.tok 3 u)),(272,(some<|bS row)),(273,some<|.cells 3 (Tr.fill [(u8<|op),(i6 n),(.U N 0 L)] 0 .nil) [])]
theorem agV{B:aJ}{vars steps x1:Int}{len:Nat}{u:AV}{row:List AV}{N L:Nat}{op n z f:Int}(mc:Mt [Gr] B)(hG:(((.agg [(u8<|op),(i6 n),(.U N 0 L)]):AV).hi&&((.U G q lg:AV).hi&&FW 8 (.known 8)))=true)(he:aP zd [(.agg [(u8<|op),(i6 n),(.U N 0 L)]),.U (nm [.int .i64 x0,.int .i64 x1,.int .i64 x2,.int .i64 x3,.int .i64 x4,.int .i64 x5,.int .i64 x6,.int .i64 x7]) 0 8,.U G q lg]=some (.tuple [.int .i64 z,.int .i64 f])):au pg B 273 (gW 270 3 pg (az Tryz.f29) (.int .i64 z) (⟨(⟨[.int .i64 vars,.U G q lg,.int .i64 x0,.int .i64 x1,.int .i64 x2,.int .i64 x3,.int .i64 x4,.int .i64 x5,.int .i64 x6,.int .i64 x7],len,cap,[.int .i64 steps]⟩:RS),u,row⟩:VS)) (sF 29 Tryz.f29 [(.ptr<|some (270,0)),(.agg [(u8<|op),(i6 n),(.U N 0 L)])])<|ah (ar++aW (dB 270 3 (⟨(⟨[.int .i64 vars,.U G q lg,.int .i64 x0,.int .i64 x1,.int .i64 x2,.int .i64 x3,.int .i64 x4,.int .i64 x5,.int .i64 x6,.int .i64 x7],len,cap,[.int .i64 steps]⟩:RS),u,row⟩:VS))) 273:=by exact lW (E:=qM [Gr]) eQ rfl bH mc.2.2.1 mc.2.2.2 900 (.st 3<|.rg<|.go 9<|.cu (.tuple [(i6 z),(i6 f)]) (aT 270<|dA 270 dF dT (⟨fR<|Oi vars G q lg x0 x1 x2 x3 x4 x5 x6 x7 len cap steps u row op n N L,274,274,[],[]⟩:AS))<|.go 5<|.en<|.rt 3 .no)<|ai (evU (n:=5) (m:=270) (off:=2) (len:=8) (cap:=.known 8) (cs:=[.int .i64 x0,.int .i64 x1,.int .i64 x2,.int .i64 x3,.int .i64 x4,.int .i64 x5,.int .i64 x6,.int .i64 x7]) (s:=(⟨fR<|Oi vars G q lg x0 x1 x2 x3 x4 x5 x6 x7 len cap steps u row op n N L,274,274,[],[]⟩:AS)) hG bU bU bU bU bU he bU)<|mG (st:=(⟨(⟨[.int .i64 vars,.U G q lg,.int .i64 x0,.int .i64 x1,.int .i64 x2,.int .i64 x3,.int .i64 x4,.int .i64 x5,.int .i64 x6,.int .i64 x7],len,cap,[.int .i64 steps]⟩:RS),u,row⟩:VS)) (s:=ah (Oi vars G q lg x0 x1 x2 x3 x4 x5 x6 x7 len cap steps u row op n N L) 274) (show((i6 z):AV)=(.int .i64 z) from rfl) bU bU bU
open Classical in
def vR(R:VS->List AV->AV->Prop)(st:VS)(rest:List AV):Option AV:=if h:∃v,R st rest v then some h.choose else none
theorem Fx{R:VS->List AV->AV->Prop}(h:vR R st rest=some v):R st rest v:=by
 unfold vR at h;split at h
 ·rename_i q;injection h with h;rw[←h];exact q.choose_spec
 ·cases h
theorem Dp{R:VS->List AV->AV->Prop}(hd:∀st rest v v',R st rest v->R st rest v'->v=v')(h:R st rest v):vR R st rest=some v:=by unfold vR;have q:∃v,R st rest v:=⟨v,h⟩;rw[dif_pos q,hd _ _ _ _ q.choose_spec h]
structure MN where
 vars:Int
 G:Nat
 q:Nat
 lg:Nat
 aD:List Int
 x0:Int
 x1:Int
 x2:Int
 x3:Int
 x4:Int
 x5:Int
 x6:Int
 x7:Int
 steps:Int
def MN.l(a:MN):List Int:=l8 a.x0 a.x1 a.x2 a.x3 a.x4 a.x5 a.x6 a.x7
def MN.pre(a:MN):List AV:=[.int .i64 a.vars,.U a.G a.q a.lg,.int .i64 a.x0,.int .i64 a.x1,.int .i64 a.x2,.int .i64 a.x3,.int .i64 a.x4,.int .i64 a.x5,.int .i64 a.x6,.int .i64 a.x7]
def MN.row(a:MN)(x y z:AV):List AV:=a.pre++[x,y,z]
abbrev vG(r:Nat):AS->AS:=V4 270 dF dT 270 271 r
abbrev vF(r:Nat)(st:VS):AS->AS:=JM 270 dF dT 3 270 271 r st
abbrev vQ(r:Nat)(st:VS):AS->Prop:=F0 270 dF dT 3 270 271 r st
abbrev K2(st:VS)(r:Nat)(T:Prop):Prop:=(true=true/\true=true/\some (bS<|dO st.R 271 r)=some (bS<|dO st.R 271 r)/\some (ae.tok 3 st.u)=some (.tok 3 st.u)/\some (bS st.row)=some (bS st.row))/\T
abbrev K3(r:Nat):Bool:= !Nat.beq 270 271&&(!Nat.beq 270 r&& !Nat.beq 271 r)
abbrev K4(r:Nat):Bool:=Nat.blt 270 top&&(Nat.blt 271 top&&Nat.blt r top)
theorem jI(L:bO)(g r:Nat)(val:VS->List AV->Option AV)(rest:List AV)(st:VS)(y:AV)(ho:bD 10 st=true)(hv:val st rest=some y)(hr:rest.all AV.hi=true)(hy:y.hi=true)(t:T)(h1:sp L g=some (mV 10 3 val 270 dT dF):=by as_aux_lemma=>kernel_rfl)(h2:K3 r=true:=by as_aux_lemma=>kernel_rfl)(h3:K4 r=true:=by as_aux_lemma=>kernel_rfl)(h4:st.R.pre.length=10:=by rfl):(∀s,vQ r st s->aZ pg (sp L) FU 6 (.fn g) (.ptr (some (270,0))::rest) s= .ok y (vG r s))/\K2 st r T:=⟨ab9 (P:=pg) (F:=FU) (n:=5) h1 hr h2 h3 h4 ho hv hy,⟨rfl,rfl,rfl,rfl,rfl⟩,t⟩
theorem yp(L:bO)(g r:Nat)(val:VS->List AV->Option AV)(rest:List AV)(st:VS)(y:AV)(ho:bD 10 st=true)(hv:val st rest=some y)(t:T)(hr:rest.all AV.hi=true:=by as_aux_lemma=>kernel_rfl)(hy:y.hi=true:=by as_aux_lemma=>kernel_rfl)(h1:sp L g=some (mV 10 3 val 270 dT dF):=by as_aux_lemma=>kernel_rfl)(h2:K3 r=true:=by as_aux_lemma=>kernel_rfl)(h3:K4 r=true:=by as_aux_lemma=>kernel_rfl)(h4:st.R.pre.length=10:=by rfl):(∀s,vQ r st s->aZ pg (sp L) FU 6 (.fn g) (.ptr (some (270,0))::rest) s= .ok y (vG r s))/\K2 st r T:=jI L g r val rest st y ho hv hr hy t h1 h2 h3 h4
theorem X1(L:bO)(g r:Nat)(val:VS->List AV->Option (AV×VS))(rest:List AV)(st aU:VS)(ho:bD 10 st=true)(hv:val st rest=some (.tuple [],aU))(kx:bD 10 aU=true)(hr:rest.all AV.hi=true)(t:T)(h1:sp L g=some (mU 10 3 val 270 dT dF):=by as_aux_lemma=>kernel_rfl)(h2:K3 r=true:=by as_aux_lemma=>kernel_rfl)(h3:K4 r=true:=by as_aux_lemma=>kernel_rfl)(h4:st.R.pre.length=10:=by rfl):(∀s,vQ r st s->aZ pg (sp L) FU 6 (.fn g) (.ptr (some (270,0))::rest) s= .ok (.tuple []) (vF r aU s))/\K2 st r T:=⟨NN (P:=pg) (F:=FU) (n:=5) h1 hr h2 h3 h4 ho hv rfl kx,⟨rfl,rfl,rfl,rfl,rfl⟩,t⟩
theorem vU(L:bO)(g r:Nat)(val:VS->List AV->Option (AV×VS))(rest:List AV)(st aU:VS)(ho:bD 10 st=true)(hv:val st rest=some (.tuple [],aU))(kx:bD 10 aU=true)(t:T)(hr:rest.all AV.hi=true:=by as_aux_lemma=>kernel_rfl)(h1:sp L g=some (mU 10 3 val 270 dT dF):=by as_aux_lemma=>kernel_rfl)(h2:K3 r=true:=by as_aux_lemma=>kernel_rfl)(h3:K4 r=true:=by as_aux_lemma=>kernel_rfl)(h4:st.R.pre.length=10:=by rfl):(∀s,vQ r st s->aZ pg (sp L) FU 6 (.fn g) (.ptr (some (270,0))::rest) s= .ok (.tuple []) (vF r aU s))/\K2 st r T:=X1 L g r val rest st aU ho hv kx hr t h1 h2 h3 h4
def sb(st:VS)(a:MN):Prop:=st.R.pre=a.pre/\st.R.post=[.int .i64 a.steps]/\dm encI 1 (.U a.G a.q a.lg) a.aD
theorem sb.inj{a b:MN}(h:sb st a)(k:sb st b):a=b:=by obtain⟨h1,h2,h3⟩:=h;obtain⟨k1,k2,k3⟩:=k;rw[h1] at k1;rw[h2] at k2;obtain⟨a1,a2,a3,a4,a5,c0,c1,c2,c3,c4,c5,c6,c7,a6⟩:=a;obtain⟨b1,b2,b3,b4,b5,d0,d1,d2,d3,d4,d5,d6,d7,b6⟩:=b;simp only[MN.pre,List.cons.injEq,AV.int.injEq,AV.U.injEq,true_and,_root_.and_true] at k1 k2;obtain⟨rfl,⟨rfl,rfl,rfl⟩,rfl,rfl,rfl,rfl,rfl,rfl,rfl,rfl⟩:=k1;subst k2;have e5:a5=b5:=dm.inj qT h3 k3;subst e5;rfl
def jh(st:VS)(rest:List AV)(v:AV):Prop:=∃(a:MN) (e:Ex),sb st a/\rest=[.agg<|aC e]/\v= .int .i64 (zc e a.l a.aD).1
theorem jh.bM(st:VS)(rest:List AV)(v v':AV)(h:jh st rest v)(h':jh st rest v'):v=v':=by obtain⟨a,e,h1,rfl,rfl⟩:=h;obtain⟨a',e',k1,h2,rfl⟩:=h';simp only[List.cons.injEq,AV.agg.injEq,_root_.and_true] at h2;rw[nk _ _ h2,h1.inj k1]
def iJ:FuncId×KE:=(29,.raw<|mV 10 3<|vR jh)
theorem xT:270+3<=top:=aM.1 aV
theorem adI(hP:bR pg)(h:aY L):aY<|Gr::L:=by
 refine adH hP gS qZ jQ ji h (Ut hP<|TF hP 6 dc) Tryz.func52 (body:=aS pg 52 []) aV aV fun args v e=>?_;obtain⟨⟨op,n,l⟩,M,p,lm,G,q,lg,lo,aD,rfl,i1,i2,rfl⟩:=fV e;refine⟨aM.1 aV,fun B mc=>?_⟩;rw[←ib];have c:=N8 (e:=.mk op n l);have d:bit (eL 6<|.mk op n l)=1->_:=fun h=>NH (k:=6) (e:=.mk op n l) i1 i2 (by rw[←wP (eL 6<|.mk op n l)];exact decide_eq_true h);have key:=aeU (x:=bit<|eL 6<|.mk op n l) (u:=(lq 6 (.mk op n l) lo aD).1) (f:=(lq 6 (.mk op n l) lo aD).2) (N:=nm<|cH l) (L:=l.length) (op:=op) (n:=n) mc (by rw[wP];rw[aC] at c;exact c) (fun h=>by have:=d h;rw[aC] at this;exact this);unfold zc;rw[aC];cases q:eL 6 (.mk op n l) with
 |true=>rw[q,if_pos (show bit true=1 from rfl)] at key;rw[if_pos rfl];exact key
 |false=>rw[q,if_neg (show ¬(bit false=1) by decide)] at key;rw[if_neg (by intro h;cases h)];exact key
theorem CN(hP:bR pg)(h:aY L):aY<|iJ::L:=by refine EL hP gS xT jQ ji me lQ h (adI hP dc) Tryz.func29 (body:=aS pg 29 []) aV aV fun st rest y e _=>?_;obtain⟨a,⟨op,n,l⟩,⟨h1,h2,h3⟩,rfl,rfl⟩:=Fx e;refine⟨aM.1 aV,fun B mc=>?_⟩;obtain⟨⟨pre,len,cap,post⟩,u,row⟩:=st;simp only at h1 h2;subst h1;subst h2;have q:=afj (e:=.mk op n l) (x0:=a.x0) (x1:=a.x1) (x2:=a.x2) (x3:=a.x3) (x4:=a.x4) (x5:=a.x5) (x6:=a.x6) (x7:=a.x7) h3;rw[aC] at q ⊢;exact agV mc (and_true.2 ⟨by rw[←aC];exact Bb _,and_true.2 ⟨h3.hi,rfl⟩⟩) q
end
end gj
end
section
open Go Go.Rn Go.RowKit Go.Proofs
namespace hJ
open ch eO cG cQ di fW fD gH gP gV gj
noncomputable abbrev A3(a:MN)(len:Nat)(cap:bW)(u:AV)(row:List AV):VS:=(⟨(⟨a.pre,len,cap,[.int .i64 a.steps]⟩:RS),u,row⟩:VS)
theorem agW{B:aJ}{a:MN}{len:Nat}{cap:bW}{u:AV}{row:List AV}{N L:Nat}{op n z v f:Int}(mc:Mt [iJ,J9] B)(hO:bD 10 (A3 a len cap u row)=true)(hA:([(.agg [(u8<|op),(i6 n),(.U N 0 L)])]:List AV).all AV.hi=true)(hz:vR jh (A3 a len cap u row) [(.agg [(u8<|op),(i6 n),(.U N 0 L)])]=some (.int .i64 z))(hv:bf (aP Bu) [.int .i64 z,.int .i64 a.vars]=some (.tuple [.int .i64 v,.int .i64 f])):au pg B 273 (gW 270 3 pg (az Tryz.f31) (.int .i64 v)<|A3 a len cap u row) (sF 31 Tryz.f31 [(.ptr<|some (270,0)),(.agg [(u8<|op),(i6 n),(.U N 0 L)])])<|ah (ar++aW (dB 270 3<|A3 a len cap u row)) 273:=by exact lW (E:=qM [iJ,J9]) eQ rfl bH mc.2.2.1 mc.2.2.2 900 (.st 3<|.rg<|.go 2<|.cg (i6 z) (vG 272) (vQ 272<|A3 a len cap u row)<|.go 4<|.kn (.tuple [(i6 v),(i6 f)])<|.go 5<|.en<|.rt 3 .no)<|jI [iJ,J9] 29 272 (vR jh) [(.agg [(u8<|op),(i6 n),(.U N 0 L)])] (A3 a len cap u row) (i6 z) hO hz hA bU<|ai hv<|mG (st:=(A3 a len cap u row)) (s:=ah (ar++[(270,some<|.cells 13 (Tr.fill (a.row (.ptr<|some (271,0)) (.slice (some (272,0)) (len) cap)<|i6 a.steps) 0 .nil) []),(271,(some<|.tok 3 u)),(272,(some<|bS row)),(273,some<|.cells 3 (Tr.fill [(u8<|op),(i6 n),(.U N 0 L)] 0 .nil) [])]) 274) (show((i6 v):AV)=(.int .i64 v) from rfl) bU bU bU
def nF(st:VS)(rest:List AV)(v:AV):Prop:=∃(a:MN) (e:Ex) (x f:Int),sb st a/\rest=[.agg<|aC e]/\a.vars<=1099511627776/\tH (zc e a.l a.aD).1 a.vars= .tuple [.int .i64 x,.int .i64 f]/\v= .int .i64 x
theorem nF.bM(st:VS)(rest:List AV)(v v':AV)(h:nF st rest v)(h':nF st rest v'):v=v':=by obtain⟨a,e,x,f,h1,rfl,_,h2,rfl⟩:=h;obtain⟨a',e',x',f',k1,k0,_,k2,rfl⟩:=h';simp only[List.cons.injEq,AV.agg.injEq,_root_.and_true] at k0;have e1:=h1.inj k1;subst e1;rw[←nk _ _ k0,h2] at k2;simp only[AV.tuple.injEq,List.cons.injEq,AV.int.injEq,true_and] at k2;rw[k2.1]
noncomputable def jC:FuncId×KE:=(31,.raw<|mV 10 3<|vR nF)
theorem Fg(hP:bR pg){L:bO}(h:aY L):aY<|jC::L:=by
 refine EL hP gS xT jQ ji me lQ h (CN hP<|adf hP dc) Tryz.func31 (body:=aS pg 31 []) aV aV fun st rest y e eo=>?_;obtain⟨a,⟨op,n,l⟩,x,f,hM,rfl,hm,hx,rfl⟩:=Fx e;refine⟨aM.1 aV,fun B mc=>?_⟩;have hz:vR jh st [.agg<|aC<|.mk op n l]=some _:=Dp jh.bM ⟨a,_,hM,rfl,rfl⟩;obtain⟨h1,h2,h3⟩:=hM;obtain⟨⟨pre,len,cap,post⟩,u,row⟩:=st;simp only at h1 h2;subst h1;subst h2;have hA:([AV.agg<|aC<|.mk op n l]:List AV).all AV.hi=true:=by rw[List.all_cons,Bb];rfl
 have hv:bf (aP Bu) [.int .i64 (zc (.mk op n l) a.l a.aD).1,.int .i64 a.vars]=some (.tuple [.int .i64 x,.int .i64 f]):=eP (eK Bu.bM ⟨_,_,rfl,hm,hx.symm⟩) rfl rfl;rw[aC] at hz hA ⊢;exact agW mc eo hA hz hv
end hJ
end
section
open Go Go.Rn Go.RowKit Go.Proofs
namespace iA
open ch eO cG dj cQ di fW fD gH gP gV gj hJ gi
variable {cap:bW} {u:AV} {to aF n2 kind v:Int} {a:MN} {N4 N3 N2 N L4 L3 L2 L:Nat} {B:aJ}
theorem Un(l:List AV){k:Nat}(h:k<13)(hl:l.length=13:=by rfl):l[k]? =some (l.getD k<|.tuple []):=by rw[List.getD_eq_getElem?_getD,List.getElem?_eq_getElem ab];rfl
theorem Uo{pre post:List AV}{len i r1 r2:Nat}{c:AV}(h:i<pre.length):aA mX ((dO ⟨pre,len,cap,post⟩ r1 r2).set i c)=bS (dO ⟨pre.set i c,len,cap,post⟩ r1 r2):=by
 have e:(dO ⟨pre,len,cap,post⟩ r1 r2).set i c=dO ⟨pre.set i c,len,cap,post⟩ r1 r2:=by unfold dO;exact List.set_append_left _ _ h
 rw[e];unfold aA bS;rw[Dl]
noncomputable abbrev Vh(a:MN)(len:Nat)(cap:bW)(to z:Int)(u:AV)(row:List AV)(kind op n:Int)(N L:Nat)(aF n2:Int)(N2 L2 N3 L3 N4 L4:Nat):List<|Nat×Option ae:=ar++[(270,(some<|aA mX<|((a.row (.ptr<|some (271,0)) (.slice (some (272,0)) (len) cap)<|i6 a.steps):List AV).set (2+to.toNat)<|i6 z)),(271,(some<|.tok 3 u)),(272,(some<|bS row)),(273,some<|.cells 10 (Tr.fill [(u8<|kind),(i6 to),(u8<|op),(i6 n),(.U N 0 L),(u8<|aF),(i6 n2),(.U N2 0 L2),(.U N3 0 L3),(.U N4 0 L4)] 0 .nil) [])]
noncomputable abbrev my(a:MN)(len:Nat)(cap:bW)(u:AV)(row:List AV):VS:=(⟨(⟨a.pre,len,cap,[.int .i64 a.steps]⟩:RS),u,row⟩:VS)
noncomputable abbrev xj(op n:Int)(N L:Nat):List AV:=[(.agg [(u8<|op),(i6 n),(.U N 0 L)])]
theorem agX{len:Nat}{row:List AV}{op n:Int}{z:Int}(mc:Mt [iJ] B)(hO:bD 10 (my a len cap u row)=true)(h0:0<=to)(h8:to<8)(hA:((xj op n N L):List AV).all AV.hi=true)(hz:vR jh (my a len cap u row) (xj op n N L)=some (.int .i64 z)):au pg B 273 (gW 270 3 pg (az Tryz.f33) (.tuple []) (⟨⟨(a.pre:List AV).set (2+to.toNat)<|.int .i64 z,len,cap,[.int .i64 a.steps]⟩,u,row⟩:VS)) (sF 33 Tryz.f33 [(.ptr<|some (270,0)),(.agg [(u8<|kind),(i6 to),(u8<|op),(i6 n),(.U N 0 L),(u8<|aF),(i6 n2),(.U N2 0 L2),(.U N3 0 L3),(.U N4 0 L4)])])<|ah (ar++aW (dB 270 3<|my a len cap u row)) 273:=by exact lW (E:=qM [iJ]) eQ rfl bH mc.2.2.1 mc.2.2.2 900 (.st 2<|.rg<|.go 6<|.cg (i6 z) (vG 272) (vQ 272<|my a len cap u row)<|.go 2<|.KG<|.mj (aA mX<|((a.row (.ptr<|some (271,0)) (.slice (some (272,0)) (len) cap)<|i6 a.steps):List AV).set (2+to.toNat)<|i6 z)<|.en<|.rt 1 .no)<|jI [iJ] 29 272 (vR jh) (xj op n N L) (my a len cap u row) (i6 z) hO hz hA bU XB
theorem afk{len:Nat}{row:List AV}{op n:Int}{z:Int}{fb:Bool}(mc:Mt [jC,kK] B)(hO:bD 10 (my a len cap u row)=true)(h0:0<=to)(h8:to<8)(hA:((xj op n N L):List AV).all AV.hi=true)(hv:vR nF (my a len cap u row) (xj op n N L)=some (.int .i64 v))(hg:iI (gU bI Bd) u [.int .i64 v]=some (.tuple [.int .i64 z,.bool fb],u)):au pg B 273 (gW 270 3 pg (az Tryz.f34) (.tuple []) (⟨⟨(a.pre:List AV).set (2+to.toNat)<|.int .i64 z,len,cap,[.int .i64 a.steps]⟩,u,row⟩:VS)) (sF 34 Tryz.f34 [(.ptr<|some (270,0)),(.agg [(u8<|kind),(i6 to),(u8<|op),(i6 n),(.U N 0 L),(u8<|aF),(i6 n2),(.U N2 0 L2),(.U N3 0 L3),(.U N4 0 L4)])])<|ah (ar++aW (dB 270 3<|my a len cap u row)) 273:=by exact lW (E:=qM [jC,kK]) eQ rfl bH mc.2.2.1 mc.2.2.2 900 (.st 2<|.rg<|.go 6<|.ld [(.ptr<|some (271,0))]<|.go 3<|.cg (i6 v) (vG 272) (vQ 272<|my a len cap u row)<|.kt (.tuple [(i6 z),(.bool fb)]) u<|.go 5<|.KG<|.mj (aA mX<|((a.row (.ptr<|some (271,0)) (.slice (some (272,0)) (len) cap)<|i6 a.steps):List AV).set (2+to.toNat)<|i6 z)<|.en<|.rt 1 .no)<|ai Wz<|jI [jC,kK] 31 272 (vR nF) (xj op n N L) (my a len cap u row) (i6 v) hO hv hA bU<|ai hg XB
theorem adJ{len:Nat}{row:List AV}{op n:Int}{z:Int}{u':AV}(mc:Mt [jC,iJ,FV] B)(hO:bD 10 (my a len cap u row)=true)(hA:((xj op n N L):List AV).all AV.hi=true)(hB:([(.agg [(u8<|aF),(i6 n2),(.U N2 0 L2)])]:List AV).all AV.hi=true)(hv:vR nF (my a len cap u row) (xj op n N L)=some (.int .i64 v))(hz:vR jh (my a len cap u row) [(.agg [(u8<|aF),(i6 n2),(.U N2 0 L2)])]=some (.int .i64 z))(hp:iI (gU bI FT) u [.int .i64 v,.int .i64 z]=some ((.int .i64 0:AV),u')):au pg B 273 (gW 270 3 pg (az Tryz.f35) (.tuple []) (⟨(⟨a.pre,len,cap,[.int .i64 a.steps]⟩:RS),u',row⟩:VS)) (sF 35 Tryz.f35 [(.ptr<|some (270,0)),(.agg [(u8<|kind),(i6 to),(u8<|op),(i6 n),(.U N 0 L),(u8<|aF),(i6 n2),(.U N2 0 L2),(.U N3 0 L3),(.U N4 0 L4)])])<|ah (ar++aW (dB 270 3<|my a len cap u row)) 273:=by exact lW (E:=qM [jC,iJ,FV]) eQ rfl bH mc.2.2.1 mc.2.2.2 900 (.st 2<|.rg<|.go 3<|.ld [(.ptr<|some (271,0))]<|.go 3<|.cg (i6 v) (vG 272) (vQ 272<|my a len cap u row)<|.go 3<|.cg (i6 z) (vG 272) (vQ 272<|my a len cap u row)<|.kt i0 u'<|.en<|.rt 1 .no)<|ai Wz<|jI [jC,iJ,FV] 31 272 (vR nF) (xj op n N L) (my a len cap u row) (i6 v) hO hv hA bU<|jI [jC,iJ,FV] 29 272 (vR jh) [(.agg [(u8<|aF),(i6 n2),(.U N2 0 L2)])] (my a len cap u row) (i6 z) hO hz hB bU<|ai hp<|mG (st:=(⟨(⟨a.pre,len,cap,[.int .i64 a.steps]⟩:RS),u',row⟩:VS)) (s:=ah (ar++[(270,(some<|aA mX<|a.row (.ptr<|some (271,0)) (.slice (some (272,0)) (len) cap)<|i6 a.steps)),(271,(some<|.tok 3 u')),(272,(some<|bS row)),(273,some<|.cells 10 (Tr.fill [(u8<|kind),(i6 to),(u8<|op),(i6 n),(.U N 0 L),(u8<|aF),(i6 n2),(.U N2 0 L2),(.U N3 0 L3),(.U N4 0 L4)] 0 .nil) [])]) 274) (show((.tuple []):AV)= .tuple [] from rfl) (bU) bU bU
end iA
end
section
open Go Go.Rn Go.RowKit Go.Proofs
namespace iB
open ch eO cG dj cQ di fW fD gH gP gV gj hJ iA gi
variable {L:bO} {v:AV×VS} {st:VS} {rest:List AV}
noncomputable section
open Classical in
def dH(R:VS->List AV->AV×VS->Prop)(st:VS)(rest:List AV):Option<|AV×VS:=if h:∃v,R st rest v then some h.choose else none
theorem IA{R:VS->List AV->AV×VS->Prop}(h:dH R st rest=some v):R st rest v:=by
 unfold dH at h;split at h
 ·rename_i q;injection h with h;rw[←h];exact q.choose_spec
 ·cases h
theorem Jf{R:VS->List AV->AV×VS->Prop}(hd:∀st rest v v',R st rest v->R st rest v'->v=v')(h:R st rest v):dH R st rest=some v:=by unfold dH;have q:∃v,R st rest v:=⟨v,h⟩;rw[dif_pos q,hd _ _ _ _ q.choose_spec h]
def vt(st:VS)(i z:Int):VS:=⟨⟨st.R.pre.set (2+i.toNat)<|.int .i64 z,st.R.len,st.R.cap,st.R.post⟩,st.u,st.row⟩
def ail(st:VS)(u:AV):VS:=⟨st.R,u,st.row⟩
def zu(st:VS)(rest:List AV)(p:AV×VS):Prop:=∃(a:MN) (kind to:Int) (ea eb:Ex) (body other:List St) (z:Int),bD 10 st=true/\sb st a/\rest=[.agg<|aL<|.mk kind to ea eb body other]/\0<=to/\to<8/\vR jh st [.agg<|aC ea]=some (.int .i64 z)/\p=(.tuple [],vt st to z)
def zg(st:VS)(rest:List AV)(p:AV×VS):Prop:=∃(a:MN) (kind to:Int) (ea eb:Ex) (body other:List St) (v z:Int) (fb:Bool),bD 10 st=true/\sb st a/\rest=[.agg<|aL<|.mk kind to ea eb body other]/\0<=to/\to<8/\vR nF st [.agg<|aC ea]=some (.int .i64 v)/\iI (gU bI Bd) st.u [.int .i64 v]=some (.tuple [.int .i64 z,.bool fb],st.u)/\p=(.tuple [],vt st to z)
def yR(st:VS)(rest:List AV)(p:AV×VS):Prop:=∃(a:MN) (kind to:Int) (ea eb:Ex) (body other:List St) (v z:Int) (u':AV),bD 10 st=true/\sb st a/\rest=[.agg<|aL<|.mk kind to ea eb body other]/\vR nF st [.agg<|aC ea]=some (.int .i64 v)/\vR jh st [.agg<|aC eb]=some (.int .i64 z)/\iI (gU bI FT) st.u [.int .i64 v,.int .i64 z]=some ((.int .i64 0:AV),u')/\p=(.tuple [],ail st u')
theorem NO{k t k' t':Int}{a b a' b':Ex}{l m l' m':List St}(h:([.agg<|aL<|.mk k t a b l m]:List AV)=[.agg<|aL<|.mk k' t' a' b' l' m']):St.mk k t a b l m= .mk k' t' a' b' l' m':=by simp only[List.cons.injEq,AV.agg.injEq,_root_.and_true] at h;exact Mr _ _ h
theorem zu.bM(st:VS)(rest:List AV)(v v':AV×VS)(h:zu st rest v)(h':zu st rest v'):v=v':=by
 obtain⟨a,k,t,ea,eb,l,m,z,_,_,rfl,_,_,h1,rfl⟩:=h;obtain⟨a',k',t',X2,X3,l',m',z',_,_,k0,_,_,k1,rfl⟩:=h';have e:=NO k0;injection e with e1 e2 e3 e4 e5 e6
 subst e2;subst e3;rw[h1] at k1;simp only[Option.some.injEq,AV.int.injEq,true_and] at k1;rw[k1]
theorem zg.bM(st:VS)(rest:List AV)(v v':AV×VS)(h:zg st rest v)(h':zg st rest v'):v=v':=by
 obtain⟨a,k,t,ea,eb,l,m,x,z,fb,_,_,rfl,_,_,h1,h2,rfl⟩:=h;obtain⟨a',k',t',X2,X3,l',m',x',z',fb',_,_,k0,_,_,k1,k2,rfl⟩:=h';have e:=NO k0;injection e with e1 e2 e3 e4 e5 e6
 subst e2;subst e3;rw[h1] at k1;simp only[Option.some.injEq,AV.int.injEq,true_and] at k1;subst k1;rw[h2] at k2;simp only[Option.some.injEq,Prod.mk.injEq,AV.tuple.injEq,List.cons.injEq,AV.int.injEq,true_and,_root_.and_true] at k2;rw[k2.1]
theorem yR.bM(st:VS)(rest:List AV)(v v':AV×VS)(h:yR st rest v)(h':yR st rest v'):v=v':=by
 obtain⟨a,k,t,ea,eb,l,m,x,z,u,_,_,rfl,h1,h2,h3,rfl⟩:=h;obtain⟨a',k',t',X2,X3,l',m',x',z',u',_,_,k0,k1,k2,k3,rfl⟩:=h';have e:=NO k0;injection e with e1 e2 e3 e4 e5 e6
 subst e3;subst e4;rw[h1] at k1;rw[h2] at k2;simp only[Option.some.injEq,AV.int.injEq,true_and] at k1 k2;subst k1;subst k2;rw[h3] at k3;simp only[Option.some.injEq,Prod.mk.injEq,true_and] at k3;rw[k3]
def PR:FuncId×KE:=(33,.raw<|mU 10 3<|dH zu)
def Pd:FuncId×KE:=(34,.raw<|mU 10 3<|dH zg)
def Oj:FuncId×KE:=(35,.raw<|mU 10 3<|dH yR)
theorem p8(e:Ex):([AV.agg<|aC e]:List AV).all AV.hi=true:=by rw[List.all_cons,Bb];rfl
theorem adK(hP:bR pg)(h:aY L):aY<|PR::L:=by
 refine Ia hP gS xT jQ ji me lQ h (CN hP dc) Tryz.func33 (body:=aS pg 33 []) aV aV fun st rest y aU e=>?_;obtain⟨a,kind,to,⟨op,n,l⟩,⟨aF,n2,l2⟩,body,other,z,ho,⟨h1,h2,h3⟩,rfl,h0,h8,hz,hp⟩:=IA e;injection hp with iW fe
 subst iW;subst fe;refine⟨aM.1 aV,fun B mc=>?_⟩;have hA:=p8<|.mk op n l;obtain⟨⟨pre,len,cap,post⟩,u,row⟩:=st;simp only at h1 h2;subst h1;subst h2;rw[aC] at hz hA;rw[aL,aC,aC];exact agX mc ho h0 h8 hA hz
theorem aca(hP:bR pg)(h:aY L):aY<|Pd::L:=by
 refine Ia hP gS xT jQ ji me lQ h (Fg hP<|H9 hP dc) Tryz.func34 (body:=aS pg 34 []) aV aV fun st rest y aU e=>?_;obtain⟨a,kind,to,⟨op,n,l⟩,⟨aF,n2,l2⟩,body,other,v,z,fb,ho,⟨h1,h2,h3⟩,rfl,h0,h8,hv,hg,hp⟩:=IA e;injection hp with iW fe
 subst iW;subst fe;refine⟨aM.1 aV,fun B mc=>?_⟩;have hA:=p8<|.mk op n l;obtain⟨⟨pre,len,cap,post⟩,u,row⟩:=st;simp only at h1 h2;subst h1;subst h2;rw[aC] at hv hA;rw[aL,aC,aC];exact afk mc ho h0 h8 hA hv hg
theorem aaZ(hP:bR pg)(h:aY L):aY<|Oj::L:=by
 refine Ia hP gS xT jQ ji me lQ h (Fg hP<|CN hP<|ab4 hP dc) Tryz.func35 (body:=aS pg 35 []) aV aV fun st rest y aU e=>?_;obtain⟨a,kind,to,⟨op,n,l⟩,⟨aF,n2,l2⟩,body,other,v,z,u',ho,⟨h1,h2,h3⟩,rfl,hv,hz,hq,hp⟩:=IA e;injection hp with iW fe
 subst iW;subst fe;refine⟨aM.1 aV,fun B mc=>?_⟩;have hA:=p8<|.mk op n l;have hB:=p8<|.mk aF n2 l2;obtain⟨⟨pre,len,cap,post⟩,u,row⟩:=st;simp only at h1 h2;subst h1;subst h2;rw[aC] at hv hA hz hB;rw[aL,aC,aC];exact adJ mc ho hA hB hv hz hq
end
end iB
end
section
open Go Go.Rn Go.RowKit Go.Proofs
namespace iR
open ch eO cG dj cQ di fW fD gH gP gV gj hJ iA iB gi
variable {ui:VS} {u' u:AV} {fs:List Fr} {c:Nat} {a:MN} {B:aJ}
noncomputable section
def av(l:List Fr)(z:Int):Fr:=l.getD z.toNat default
theorem jb{l:List Fr}{z:Int}(h0:0<=z)(h:z<(l.length:Int)):l[z.toNat]? =some (av l z):=by
 have hz:z.toNat<l.length:=by omega
 unfold av;rw[List.getD_eq_getElem?_getD,List.getElem?_eq_getElem hz];rfl
theorem MB:fI<=273:=aM.1 aV
theorem Pe{st:VS}{y Y:AV}{s:AS}(h:ui=st)(e:Y=y)(h1:s.h.get 270=some (bS<|dO st.R 271 272))(h2:s.h.get 271=some (.tok 3 st.u))(h3:s.h.get 272=some (bS st.row)):Y=y/\∀m o,(m,o)∈dB 270 3 ui->s.h.get m=some o:=by subst h;exact mG e h1 h2 h3
noncomputable abbrev CZ(a:MN)(n c:Nat)(u:AV)(fs:List Fr):List<|Nat×Option ae:=ar++[(270,some<|.cells 13 (Tr.fill (a.row (.ptr<|some (271,0)) (.slice (some (272,0)) (n)<|.aq c 13)<|i6 a.steps) 0 .nil) []),(271,(some<|.tok 3 u)),(272,(some<|aA aI<|fs.set ((n:Int) - 1).toNat ({(av fs<|(n:Int) - 1) with ak:=0,turns:=((av fs<|(n:Int) - 1).turns - 1)}:Fr)))]
noncomputable abbrev A4(a:MN)(n c:Nat)(u:AV)(fs:List Fr):VS:=(⟨⟨a.pre,n,(.aq c 13),[.int .i64 a.steps]⟩,u,((fs.set ((n:Int) - 1).toNat ({(av fs<|(n:Int) - 1) with ak:=0,turns:=((av fs<|(n:Int) - 1).turns - 1)}:Fr)).map aI).flatten⟩:VS)
noncomputable abbrev Fy(a:MN)(n c:Nat)(u:AV)(fs:List Fr):List<|Nat×Option ae:=ar++[(270,some<|.cells 13 (Tr.fill (a.row (.ptr<|some (271,0)) (.slice (some (272,0)) ((((n:Int) - 1)).toNat)<|.aq c 13)<|i6 a.steps) 0 .nil) []),(271,(some<|.tok 3 u)),(272,(some<|aA aI fs))]
noncomputable abbrev FA(a:MN)(n c:Nat)(u':AV)(fs:List Fr):List<|Nat×Option ae:=ar++[(270,some<|.cells 13 (Tr.fill (a.row (.ptr<|some (271,0)) (.slice (some (272,0)) ((((n:Int) - 1)).toNat)<|.aq c 13)<|i6 a.steps) 0 .nil) []),(271,(some<|.tok 3 u')),(272,(some<|aA aI fs))]
noncomputable abbrev FB(a:MN)(n c:Nat)(u:AV)(fs:List Fr):List<|Nat×Option ae:=ar++[(270,some<|.cells 13 (Tr.fill (a.row (.ptr<|some (271,0)) (.slice (some (272,0)) (n)<|.aq c 13)<|i6 a.steps) 0 .nil) []),(271,(some<|.tok 3 u)),(272,(some<|aA aI fs))]
noncomputable abbrev uV(a:MN)(n c:Nat)(u:AV)(fs:List Fr):VS:=(⟨⟨a.pre,n,(.aq c 13),[.int .i64 a.steps]⟩,u,(fs.map aI).flatten⟩:VS)
noncomputable abbrev FC(a:MN)(n c:Nat)(u:AV)(fs:List Fr):AS:=ah (ar++aW (dB 270 3 (⟨⟨a.pre,((n:Int) - 1).toNat,(.aq c 13),[.int .i64 a.steps]⟩,u,(fs.map aI).flatten⟩:VS))) 273
noncomputable abbrev FD(a:MN)(n c:Nat)(u':AV)(fs:List Fr):AS:=ah (ar++aW (dB 270 3 (⟨⟨a.pre,((n:Int) - 1).toNat,(.aq c 13),[.int .i64 a.steps]⟩,u',(fs.map aI).flatten⟩:VS))) 273
noncomputable abbrev Ol(fs:List Fr)(n:Nat):Fr:=({(av fs<|(n:Int) - 1) with ak:=(av fs<|(n:Int) - 1).ak,turns:=((av fs<|(n:Int) - 1).turns - 1)}:Fr)
theorem Dq{n:Nat}(mc:Mt [CL] B)(hn:n<=fs.length)(hc:n<=c)(hf:fs.length<=1000000)(hR:fs.length*13<=top)(aw:0<=(av fs<|(n:Int) - 1).turns/\(av fs<|(n:Int) - 1).turns<=1000000)(hm:(0<(n:Int)/\¬((av fs<|(n:Int) - 1).ak<(((av fs<|(n:Int) - 1).block.length:Nat):Int))/\¬(0<(av fs<|(n:Int) - 1).turns)/\(av fs<|(n:Int) - 1).bV=true)->iI (gU bI Iy) u []=some ((.int .i64 0:AV),u'))(E0:¬(0<(n:Int))->ui=(uV a n c u fs))(E1:0<(n:Int)->(av fs<|(n:Int) - 1).ak<(((av fs<|(n:Int) - 1).block.length:Nat):Int)->ui=(uV a n c u fs))(E2:0<(n:Int)->¬((av fs<|(n:Int) - 1).ak<(((av fs<|(n:Int) - 1).block.length:Nat):Int))->0<(av fs<|(n:Int) - 1).turns->0<(((av fs<|(n:Int) - 1).block.length:Nat):Int)->ui=(A4 a n c u fs))(H1:(0<(n:Int)/\¬((av fs<|(n:Int) - 1).ak<(((av fs<|(n:Int) - 1).block.length:Nat):Int))/\0<(av fs<|(n:Int) - 1).turns/\¬(0<(((av fs<|(n:Int) - 1).block.length:Nat):Int)))->au pg B 273 (gW 270 3 pg (az Tryz.f41) (.tuple []) ui) (⟨41,aE [(0,.ptr<|some (270,0))],(max Tryz.f41.ntmps 1),[.code<|aS pg 41 [0,0],.inLoop<|aS pg 41 [0,0],.inBlock 0],[],none⟩:AF) (ah (ar++aW (dB 270 3<|A4 a n c u fs)) 273))(H2:(0<(n:Int)/\¬((av fs<|(n:Int) - 1).ak<(((av fs<|(n:Int) - 1).block.length:Nat):Int))/\¬(0<(av fs<|(n:Int) - 1).turns)/\(av fs<|(n:Int) - 1).bV=true)->au pg B 273 (gW 270 3 pg (az Tryz.f41) (.tuple []) ui) (⟨41,aE [(0,.ptr<|some (270,0))],(max Tryz.f41.ntmps 1),[.code<|aS pg 41 [0,0],.inLoop<|aS pg 41 [0,0],.inBlock 0],[],none⟩:AF) (FD a n c u' fs))(H3:(0<(n:Int)/\¬((av fs<|(n:Int) - 1).ak<(((av fs<|(n:Int) - 1).block.length:Nat):Int))/\¬(0<(av fs<|(n:Int) - 1).turns)/\(av fs<|(n:Int) - 1).bV=false)->au pg B 273 (gW 270 3 pg (az Tryz.f41) (.tuple []) ui) (⟨41,aE [(0,.ptr<|some (270,0))],(max Tryz.f41.ntmps 1),[.code<|aS pg 41 [0,0],.inLoop<|aS pg 41 [0,0],.inBlock 0],[],none⟩:AF) (FC a n c u fs)):au pg B 273 (gW 270 3 pg (az Tryz.f41) (.tuple []) ui) (⟨41,aE [(0,.ptr<|some (270,0))],(max Tryz.f41.ntmps 1),[.code<|aS pg 41 [0,0],.inLoop<|aS pg 41 [0,0],.inBlock 0],[],none⟩:AF)<|ah (ar++aW (dB 270 3<|uV a n c u fs)) 273:=by
 exact wp_cut (E:=qM [CL]) (C:=(fun fr s1 _=>fr=(⟨41,aE [(0,.ptr<|some (270,0))],(max Tryz.f41.ntmps 1),[.code<|aS pg 41 [0,0],.inLoop<|aS pg 41 [0,0],.inBlock 0],[],none⟩:AF)/\(((0<(n:Int)/\¬((av fs<|(n:Int) - 1).ak<(((av fs<|(n:Int) - 1).block.length:Nat):Int))/\0<(av fs<|(n:Int) - 1).turns/\¬(0<(((av fs<|(n:Int) - 1).block.length:Nat):Int)))/\s1=(ah (ar++aW (dB 270 3<|A4 a n c u fs)) 273))\/((0<(n:Int)/\¬((av fs<|(n:Int) - 1).ak<(((av fs<|(n:Int) - 1).block.length:Nat):Int))/\¬(0<(av fs<|(n:Int) - 1).turns)/\(av fs<|(n:Int) - 1).bV=true)/\s1=(FD a n c u' fs))\/((0<(n:Int)/\¬((av fs<|(n:Int) - 1).ak<(((av fs<|(n:Int) - 1).block.length:Nat):Int))/\¬(0<(av fs<|(n:Int) - 1).turns)/\(av fs<|(n:Int) - 1).bV=false)/\s1=(FC a n c u fs))))) eQ rfl bH mc.2.2.1 mc.2.2.2 MB rfl mc.1 (fun fr s1 p hC=>by
  obtain⟨rfl,hC⟩:=hC;rcases hC with⟨h,rfl⟩|⟨h,rfl⟩|⟨h,rfl⟩
  ·exact H1 h
  ·exact H2 h
  ·exact H3 h) 900 (.st 2<|.rg<|.go 5<|.fk (.en<|.st 4<|.rg<|.go 9<|.vl (i6<|(n:Int) - 1)<|.ix<|.go 1<|.en<|.st 3<|.rg<|.go 3<|.ld [(i6<|(av fs<|(n:Int) - 1).ak)]<|.go 3<|.ld [(.U (nm ((av fs<|(n:Int) - 1).block.map aL).flatten) 0 (av fs<|(n:Int) - 1).block.length)]<|.go 1<|.fk (.go 1<|.en<|.rt 2 .no)<|.go 1<|.en<|.st 2<|.rg<|.go 3<|.ld [(i6<|(av fs<|(n:Int) - 1).turns)]<|.fk (.go 1<|.en<|.st 2<|.rg<|.go 5<|.ld [(i6<|(av fs<|(n:Int) - 1).turns)]<|.vl (i6<|(av fs<|(n:Int) - 1).turns - 1)<|.go 2<|.mj (aA aI<|fs.set ((n:Int) - 1).toNat<|Ol fs n)<|.go 2<|.mj (aA aI<|fs.set ((n:Int) - 1).toNat ({(av fs<|(n:Int) - 1) with ak:=0,turns:=((av fs<|(n:Int) - 1).turns - 1)}:Fr))<|.en<|.st 2<|.rg<|.go 3<|.ld [(.U (nm ((av fs<|(n:Int) - 1).block.map aL).flatten) 0 (av fs<|(n:Int) - 1).block.length)]<|.go 1<|.fk (.en<|.rt 2 .no)<|.en<|.st 4<|.ls [(0,.ptr<|some (270,0))] (CZ a n c u fs) 273 .no)<|.go 1<|.en<|.st 2<|.rg<|.go 3<|.Xp ((av fs<|(n:Int) - 1).bV) (.go 1<|.en<|.st 1<|.rg<|.go 4<|.kt i0 u'<|.en<|.st 1<|.rg<|.go 10<|.vl (i6<|(n:Int) - 1)<|.so<|.go 3<|.en<|.st 2<|.ls [(0,.ptr<|some (270,0))] (FA a n c u' fs) 273 .no)<|.go 1<|.en<|.st 3<|.rg<|.go 10<|.vl (i6<|(n:Int) - 1)<|.so<|.go 3<|.en<|.st 2<|.ls [(0,.ptr<|some (270,0))] (Fy a n c u fs) 273 .no)<|.en<|.rt 3 .no)
  (aR ((n:Int)>0) (fun _=>(ai (wI<|(n:Int) - 1)
  (dS ((n:Int) - 1) (n:Int)
  (ai (mu fA hR (jb (l:=fs) (z:=((n:Int) - 1)) ab ab) 1 1 rfl)
  (ai (mu fA hR (jb (l:=fs) (z:=((n:Int) - 1)) ab ab) 0 1 rfl)
  (aR ((av fs<|(n:Int) - 1).ak<(((av fs<|(n:Int) - 1).block.length:Nat):Int)) (fun _=>(Pe (st:=(uV a n c u fs)) (s:=ah (FB a n c u fs) 273) (E1 ab ab) (show((.tuple []):AV)= .tuple [] from rfl) bY bY bY))
  (fun _=>(ai (mu fA hR (jb (l:=fs) (z:=((n:Int) - 1)) ab ab) 2 1 rfl)
  (aR ((av fs<|(n:Int) - 1).turns>0) (fun _=>(ai (mu fA hR (jb (l:=fs) (z:=((n:Int) - 1)) ab ab) 2 1 rfl)
  (ai (wI<|(av fs<|(n:Int) - 1).turns - 1)
  (ai (ph fA hR (jb (l:=fs) (z:=((n:Int) - 1)) ab ab) (c':=(Ol fs n)) (r:=[(i6<|((av fs<|(n:Int) - 1).turns - 1))]) 2 rfl rfl rfl)
  (ai (acV fA hR (jb (l:=fs) (z:=((n:Int) - 1)) ab ab) (c:=(Ol fs n)) (c':=({(av fs<|(n:Int) - 1) with ak:=0,turns:=((av fs<|(n:Int) - 1).turns - 1)}:Fr)) (r:=[i0]) 1 rfl rfl rfl)
  (ai (acU fA hR (jb (l:=fs) (z:=((n:Int) - 1)) ab ab) (c:=({(av fs<|(n:Int) - 1) with ak:=0,turns:=((av fs<|(n:Int) - 1).turns - 1)}:Fr)) 0 1 rfl)
  (aR ((((av fs<|(n:Int) - 1).block.length:Nat):Int)>0) (fun _=>(Pe (st:=(A4 a n c u fs)) (s:=ah (CZ a n c u fs) 273) (E2 ab ab ab ab) (show((.tuple []):AV)= .tuple [] from rfl) bY bY bY))
  (fun _=>(ai (mS [(0,.ptr<|some (270,0))])<|ai (mO<|CZ a n c u fs)<|ai (rX (⟨41,aE [(0,.ptr<|some (270,0))],(max Tryz.f41.ntmps 1),[.code<|aS pg 41 [0,0],.inLoop<|aS pg 41 [0,0],.inBlock 0],[],none⟩:AF)) (show((0<(n:Int)/\¬((av fs<|(n:Int) - 1).ak<(((av fs<|(n:Int) - 1).block.length:Nat):Int))/\0<(av fs<|(n:Int) - 1).turns/\¬(0<(((av fs<|(n:Int) - 1).block.length:Nat):Int)))/\(ah (CZ a n c u fs) 273)=(ah (ar++aW (dB 270 3<|A4 a n c u fs)) 273))\/((0<(n:Int)/\¬((av fs<|(n:Int) - 1).ak<(((av fs<|(n:Int) - 1).block.length:Nat):Int))/\¬(0<(av fs<|(n:Int) - 1).turns)/\(av fs<|(n:Int) - 1).bV=true)/\(ah (CZ a n c u fs) 273)=(FD a n c u' fs))\/((0<(n:Int)/\¬((av fs<|(n:Int) - 1).ak<(((av fs<|(n:Int) - 1).block.length:Nat):Int))/\¬(0<(av fs<|(n:Int) - 1).turns)/\(av fs<|(n:Int) - 1).bV=false)/\(ah (CZ a n c u fs) 273)=(FC a n c u fs)) from Or.inl<|ai (show(0<(n:Int)/\¬((av fs<|(n:Int) - 1).ak<(((av fs<|(n:Int) - 1).block.length:Nat):Int))/\0<(av fs<|(n:Int) - 1).turns/\¬(0<(((av fs<|(n:Int) - 1).block.length:Nat):Int))) from⟨by omega,by omega,by omega,by omega⟩) bY))))))))))
  (fun _=>(ai (mu fA hR (jb (l:=fs) (z:=((n:Int) - 1)) ab ab) 3 1 rfl) (tfb ((av fs<|(n:Int) - 1).bV) (fun h5=>(ai (hm ⟨by omega,by omega,by omega,h5⟩)
  (ai (wI<|(n:Int) - 1)
  (ai (show(0:Int)=0 from rfl)<|ai (show 0<=((n:Int) - 1) from ab) (ai (show((n:Int) - 1)<=Int.ofNat (iY n<|.aq c 13) from(show((n:Int) - 1)<=(c:Int) from by omega))
  (ai (mS [(0,.ptr<|some (270,0))])<|ai (mO<|FA a n c u' fs)<|ai (rX (⟨41,aE [(0,.ptr<|some (270,0))],(max Tryz.f41.ntmps 1),[.code<|aS pg 41 [0,0],.inLoop<|aS pg 41 [0,0],.inBlock 0],[],none⟩:AF)) (show((0<(n:Int)/\¬((av fs<|(n:Int) - 1).ak<(((av fs<|(n:Int) - 1).block.length:Nat):Int))/\0<(av fs<|(n:Int) - 1).turns/\¬(0<(((av fs<|(n:Int) - 1).block.length:Nat):Int)))/\(ah (FA a n c u' fs) 273)=(ah (ar++aW (dB 270 3<|A4 a n c u fs)) 273))\/((0<(n:Int)/\¬((av fs<|(n:Int) - 1).ak<(((av fs<|(n:Int) - 1).block.length:Nat):Int))/\¬(0<(av fs<|(n:Int) - 1).turns)/\(av fs<|(n:Int) - 1).bV=true)/\(ah (FA a n c u' fs) 273)=(FD a n c u' fs))\/((0<(n:Int)/\¬((av fs<|(n:Int) - 1).ak<(((av fs<|(n:Int) - 1).block.length:Nat):Int))/\¬(0<(av fs<|(n:Int) - 1).turns)/\(av fs<|(n:Int) - 1).bV=false)/\(ah (FA a n c u' fs) 273)=(FC a n c u fs)) from Or.inr<|Or.inl<|ai (show(0<(n:Int)/\¬((av fs<|(n:Int) - 1).ak<(((av fs<|(n:Int) - 1).block.length:Nat):Int))/\¬(0<(av fs<|(n:Int) - 1).turns)/\(av fs<|(n:Int) - 1).bV=true) from⟨by omega,by omega,by omega,h5⟩) bY)))))))
  (fun h5=>(ai (wI<|(n:Int) - 1)
  (ai (show(0:Int)=0 from rfl)<|ai (show 0<=((n:Int) - 1) from ab) (ai (show((n:Int) - 1)<=Int.ofNat (iY n<|.aq c 13) from(show((n:Int) - 1)<=(c:Int) from by omega))
  (ai (mS [(0,.ptr<|some (270,0))])<|ai (mO<|Fy a n c u fs)<|ai (rX (⟨41,aE [(0,.ptr<|some (270,0))],(max Tryz.f41.ntmps 1),[.code<|aS pg 41 [0,0],.inLoop<|aS pg 41 [0,0],.inBlock 0],[],none⟩:AF)) (show((0<(n:Int)/\¬((av fs<|(n:Int) - 1).ak<(((av fs<|(n:Int) - 1).block.length:Nat):Int))/\0<(av fs<|(n:Int) - 1).turns/\¬(0<(((av fs<|(n:Int) - 1).block.length:Nat):Int)))/\(ah (Fy a n c u fs) 273)=(ah (ar++aW (dB 270 3<|A4 a n c u fs)) 273))\/((0<(n:Int)/\¬((av fs<|(n:Int) - 1).ak<(((av fs<|(n:Int) - 1).block.length:Nat):Int))/\¬(0<(av fs<|(n:Int) - 1).turns)/\(av fs<|(n:Int) - 1).bV=true)/\(ah (Fy a n c u fs) 273)=(FD a n c u' fs))\/((0<(n:Int)/\¬((av fs<|(n:Int) - 1).ak<(((av fs<|(n:Int) - 1).block.length:Nat):Int))/\¬(0<(av fs<|(n:Int) - 1).turns)/\(av fs<|(n:Int) - 1).bV=false)/\(ah (Fy a n c u fs) 273)=(FC a n c u fs)) from Or.inr<|Or.inr<|ai (show(0<(n:Int)/\¬((av fs<|(n:Int) - 1).ak<(((av fs<|(n:Int) - 1).block.length:Nat):Int))/\¬(0<(av fs<|(n:Int) - 1).turns)/\(av fs<|(n:Int) - 1).bV=false) from⟨by omega,by omega,by omega,h5⟩) bY))))))))))))))))))
  (fun _=>(Pe (st:=(uV a n c u fs)) (s:=ah (FB a n c u fs) 273) (E0 ab) (show((.tuple []):AV)= .tuple [] from rfl) bY bY bY)))
abbrev frS:AF:=(⟨41,aE [(0,.ptr<|some (270,0))],(max Tryz.f41.ntmps 1),[.code<|aS pg 41 [0,0],.inLoop<|aS pg 41 [0,0],.inBlock 0],[],none⟩:AF)
abbrev X4(a:MN)(n c:Nat)(u:AV)(fs:List Fr):VS:=(uV a n c u fs)
theorem afl{n:Nat}{u':AV}(mc:Mt [CL] B)(H:au pg B 273 (gW 270 3 pg (az Tryz.f41) (.tuple []) ui) (⟨41,aE [(0,.ptr<|some (270,0))],(max Tryz.f41.ntmps 1),[.code<|aS pg 41 [0,0],.inLoop<|aS pg 41 [0,0],.inBlock 0],[],none⟩:AF)<|ah (ar++aW (dB 270 3<|uV a n c u fs)) 273):au pg B 273 (gW 270 3 pg (az Tryz.f41) (.tuple []) ui) (sF 41 Tryz.f41 [.ptr<|some (270,0)])<|ah (ar++aW (dB 270 3<|uV a n c u fs)) 273:=by
 exact wp_cut (E:=qM [CL]) (C:=(fun fr s1 _=>fr=(⟨41,aE [(0,.ptr<|some (270,0))],(max Tryz.f41.ntmps 1),[.code<|aS pg 41 [0,0],.inLoop<|aS pg 41 [0,0],.inBlock 0],[],none⟩:AF)/\s1=(ah (ar++aW (dB 270 3<|uV a n c u fs)) 273))) eQ rfl bH mc.2.2.1 mc.2.2.2 MB rfl mc.1 (fun fr s1 p hC=>by
  obtain⟨rfl,rfl⟩:=hC;exact H) 900 (.st 2<|.ls [(0,.ptr<|some (270,0))] (FB a n c u fs) 273 .no)
  (ai (mS [(0,.ptr<|some (270,0))])<|ai (mO<|FB a n c u fs)<|ai (rX (⟨41,aE [(0,.ptr<|some (270,0))],(max Tryz.f41.ntmps 1),[.code<|aS pg 41 [0,0],.inLoop<|aS pg 41 [0,0],.inBlock 0],[],none⟩:AF)) (show(ah (FB a n c u fs) 273)=(ah (ar++aW (dB 270 3<|uV a n c u fs)) 273) from bY))
end
end iR
end
section
open Go Go.Rn Go.RowKit Go.Proofs
namespace jc
open ch eO cG dj cQ di fW fD gH gP gV gj hJ iA iB iR gi
variable {fs:List Fr}
def oe:Nat->Nat->List Fr->bg->Option (Nat×List Fr×bg)
  |0,_,_,_=>none
  | k +1,n,fs,b=>if n=0 then some (n,fs,b) else
    let f:=av fs<|(n:Int) - 1
    if f.ak<(f.block.length:Int) then some (n,fs,b)
    else if 0<f.turns then
      let cW:=fs.set ((n:Int) - 1).toNat {f with ak:=0,turns:=f.turns - 1}
      if 0<(f.block.length:Int) then some (n,cW,b) else oe k n cW b
    else if f.bV=true then(if 2<=b.length then oe k ((n:Int) - 1).toNat fs (ga b) else none)
    else oe k ((n:Int) - 1).toNat fs b
def im(fs:List Fr):Prop:=∀f∈fs,(0<=f.turns/\f.turns<=1000000)/\f.kept.length=8
theorem im.at(h:im fs)(z:Int):0<=(av fs z).turns/\(av fs z).turns<=1000000:=by
 unfold av;by_cases q:z.toNat<fs.length
 ·rw[List.getD_eq_getElem?_getD,List.getElem?_eq_getElem q];exact(h _<|List.getElem_mem q).1
 ·rw[List.getD_eq_getElem?_getD,List.getElem?_eq_none ab];show(0:Int)<=0/\(0:Int)<=1000000;omega
theorem im.kept(h:im fs){z:Int}(h0:0<=z)(hz:z<(fs.length:Int)):(av fs z).kept.length=8:=(h _<|List.mem_of_getElem?<|jb h0 hz).2
theorem im.set(h:im fs){i:Nat}{f:Fr}(hf:(0<=f.turns/\f.turns<=1000000)/\f.kept.length=8):im<|fs.set i f:=fun g hg=>by
 rcases List.mem_or_eq_of_mem_set hg with q|q
 ·exact h g q
 ·rw[q];exact hf
theorem LW{b:bg}(h:de b)(h2:2<=b.length):iI (gU bI Iy) (bI b) []=some ((.int .i64 0:AV),bI<|ga b):=by
 unfold iI;rw[AB sq];show(match ([]:List AV).all AV.hi with
  |true=>((if 2<=List.length b then some ((AV.int .i64 0:AV),ga b) else none).map (fun p:AV×bg=>((p.1,bI p.2):AV×AV))).bind fun p:AV×AV=>match p.1.hi with
   |true=>some p
   |false=>none
  |false=>none)=_
 rw[if_pos h2];rfl
theorem Hw{B:aJ}(mc:Mt [CL] B){a:MN}{c:Nat}{n':Nat}{cW:List Fr}{b':bg}:∀(k n:Nat) (fs:List Fr) (b:bg),oe k n fs b=some (n',cW,b')->de b->im fs->n<=fs.length->n<=c->fs.length<=1000000->
 au pg B 273 (gW 270 3 pg (az Tryz.f41) (.tuple [])<|X4 a n' c (bI b') cW) frS (ah (ar++aW (dB 270 3<|X4 a n c (bI b) fs)) 273)
 |0,n,fs,b,h,_,_,_,_,_=>by cases h
 |k+1,n,fs,b,h,hb,hf,hn,hc,hl=>by
  unfold oe at h;have aw:=hf.at<|(n:Int) - 1;have F4:n≠0->∀f:Fr,f={av fs ((n:Int) - 1) with ak:=0,turns:=(av fs<|(n:Int) - 1).turns - 1}->0<(av fs<|(n:Int) - 1).turns->im (fs.set ((n:Int) - 1).toNat f):=fun oP f e h0=>hf.set (by subst e;refine⟨?_,hf.kept (z:=(n:Int) - 1) ab ab⟩;show 0<=(av fs<|(n:Int) - 1).turns - 1/\(av fs<|(n:Int) - 1).turns - 1<=1000000;omega);by_cases n0:n=0
  ·rw[if_pos n0] at h;injection h with h;injection h with e1 h;injection h with e2 e3
   subst e1;subst e2;subst e3;exact Dq (u':=.tuple []) mc hn hc hl (by have:top=549755813888:=rfl;omega) aw (fun q=>absurd q.1 ab) (fun _=>rfl) (fun _ _=>rfl) (fun q _ _ _=>absurd q ab) (fun q=>absurd q.1 ab) (fun q=>absurd q.1 ab) fun q=>absurd q.1 ab
  ·rw[if_neg n0] at h;simp only at h;have hz:((n:Int) - 1).toNat<=n:=by omega
   have hr:fs.length*13<=top:=by have:top=549755813888:=rfl;omega
   by_cases a1:(av fs<|(n:Int) - 1).ak<(((av fs<|(n:Int) - 1).block.length:Nat):Int)
   ·rw[if_pos a1] at h;injection h with h;injection h with e1 h;injection h with e2 e3
    subst e1;subst e2;subst e3;exact Dq (u':=.tuple []) mc hn hc hl hr aw (fun q=>absurd a1 q.2.1) (fun _=>rfl) (fun _ _=>rfl) (fun _ q _ _=>absurd a1 q) (fun q=>absurd a1 q.2.1) (fun q=>absurd a1 q.2.1) fun q=>absurd a1 q.2.1
   ·rw[if_neg a1] at h;by_cases a2:0<(av fs<|(n:Int) - 1).turns
    ·rw[if_pos a2] at h;by_cases a3:0<(((av fs<|(n:Int) - 1).block.length:Nat):Int)
     ·rw[if_pos a3] at h;injection h with h;injection h with e1 h;injection h with e2 e3
      subst e1;subst e2;subst e3;exact Dq (u':=.tuple []) mc hn hc hl hr aw (fun q=>absurd a2 q.2.2.1) (fun q=>absurd q ab) (fun _ q=>absurd q a1) (fun _ _ _ _=>rfl) (fun q=>absurd a3 q.2.2.2) (fun q=>absurd a2 q.2.2.1) fun q=>absurd a2 q.2.2.1
     ·rw[if_neg a3] at h;have ih:=Hw (c:=c) (a:=a) mc k n _ b h hb (F4 n0 _ rfl a2) (by rw[List.length_set];exact hn) hc (by rw[List.length_set];exact hl);exact Dq (u':=.tuple []) mc hn hc hl hr aw (fun q=>absurd a2 q.2.2.1) (fun q=>absurd q ab) (fun _ q=>absurd q a1) (fun _ _ _ q=>absurd q a3) (fun _=>ih) (fun q=>absurd a2 q.2.2.1) fun q=>absurd a2 q.2.2.1
    ·rw[if_neg a2] at h;by_cases a4:(av fs<|(n:Int) - 1).bV=true
     ·rw[if_pos a4] at h;by_cases a5:2<=b.length
      ·rw[if_pos a5] at h;have ih:=Hw (c:=c) (a:=a) mc k _ fs _ h (H8 hb a5) hf ab ab hl;exact Dq (u':=bI<|ga b) mc hn hc hl hr aw (fun _=>LW hb a5) (fun q=>absurd q ab) (fun _ q=>absurd q a1) (fun _ _ q _=>absurd q a2) (fun q=>absurd q.2.2.1 a2) (fun _=>ih) (fun q=>by rw[a4] at q;cases q.2.2.2)
      ·rw[if_neg a5] at h;cases h
     ·rw[if_neg a4] at h;have ih:=Hw (c:=c) (a:=a) mc k _ fs b h hb hf ab ab hl;exact Dq (u':=.tuple []) mc hn hc hl hr aw (fun q=>absurd q.2.2.2 a4) (fun q=>absurd q ab) (fun _ q=>absurd q a1) (fun _ _ q _=>absurd q a2) (fun q=>absurd q.2.2.1 a2) (fun q=>absurd q.2.2.2 a4) fun _=>ih
theorem Lv:∀(k m n:Nat) (fs:List Fr) (b:bg) (r:Nat×List Fr×bg),oe k n fs b=some r->k<=m->oe m n fs b=some r
 |0,_,_,_,_,_,h,_=>by cases h
 |k+1,0,_,_,_,_,_,hm=>by omega
 |k+1,m+1,n,fs,b,r,h,hm=>by
  have ih:=fun n fs b h=>Lv k m n fs b r h ab;unfold oe at h ⊢;simp only at h ⊢;split at h
  ·rename_i q;rw[if_pos q];exact h
  ·rename_i q;rw[if_neg q];split at h
   ·rename_i q;rw[if_pos q];exact h
   ·rename_i q;rw[if_neg q];split at h
    ·rename_i q;rw[if_pos q];split at h
     ·rename_i q;rw[if_pos q];exact h
     ·rename_i q;rw[if_neg q];exact ih _ _ _ h
    ·rename_i q;rw[if_neg q];split at h
     ·rename_i q;rw[if_pos q];split at h
      ·rename_i q;rw[if_pos q];exact ih _ _ _ h
      ·cases h
     ·rename_i q;rw[if_neg q];exact ih _ _ _ h
theorem Jg:∀l:List Int,l.length=8->l=[l.getD 0 0,l.getD 1 0,l.getD 2 0,l.getD 3 0,l.getD 4 0,l.getD 5 0,l.getD 6 0,l.getD 7 0]
 |[a,b,c,d,e,f,g,h],_=>rfl
theorem aa0(f g:Fr)(hf:f.kept.length=8)(hg:g.kept.length=8)(h:aI f=aI g):f=g:=by
 obtain⟨a1,a2,a3,a4,a5,a6⟩:=f;obtain⟨b1,b2,b3,b4,b5,b6⟩:=g;simp only[aI,eight,List.cons_append,List.nil_append,List.cons.injEq,AV.int.injEq,AV.bool.injEq,true_and,_root_.and_true] at h;obtain⟨h1,rfl,rfl,rfl,c0,c1,c2,c3,c4,c5,c6,c7,h6⟩:=h;rw[HJ h1,Us h6];have e:a5=b5:=by rw[Jg a5 hf,Jg b5 hg,c0,c1,c2,c3,c4,c5,c6,c7]
 rw[e]
theorem EZ:∀(l m:List Fr),im l->im m->(l.map aI).flatten=(m.map aI).flatten->l=m
 |[],[],_,_,_=>rfl
 |[],y::m,_,_,h=>by have:=congrArg List.length h;simp only[List.map_nil,List.flatten_nil,List.length_nil,List.map_cons,List.flatten_cons,List.length_append,fA] at this;omega
 |x::l,[],_,_,h=>by have:=congrArg List.length h;simp only[List.map_nil,List.flatten_nil,List.length_nil,List.map_cons,List.flatten_cons,List.length_append,fA] at this;omega
 |x::l,y::m,hl,hm,h=>by rw[List.map_cons,List.map_cons,List.flatten_cons,List.flatten_cons] at h;obtain⟨e1,e2⟩:=List.append_inj h (by rw[fA,fA]);rw[aa0 x y (hl x List.mem_cons_self).2 (hm y List.mem_cons_self).2 e1,EZ l m (fun f hf=>hl f<|List.mem_cons_of_mem _ hf) (fun f hf=>hm f<|List.mem_cons_of_mem _ hf) e2]
def eG(st:VS)(rest:List AV)(p:AV×VS):Prop:=∃(a:MN) (n c k n':Nat) (fs cW:List Fr) (b b':bg),sb st a/\rest=[]/\st.R.len=n/\st.R.cap= .aq c 13/\st.u=bI b/\st.row=(fs.map aI).flatten/\de b/\im fs/\n<=fs.length/\n<=c/\fs.length<=1000000/\oe k n fs b=some (n',cW,b')/\p=(.tuple [],⟨⟨st.R.pre,n',.aq c 13,st.R.post⟩,bI b',(cW.map aI).flatten⟩)
theorem eG.bM(st:VS)(rest:List AV)(v v':AV×VS)(h:eG st rest v)(h':eG st rest v'):v=v':=by
 obtain⟨a,n,c,k,n',fs,cW,b,b',_,_,e1,e2,e3,e4,_,f1,_,_,_,s1,rfl⟩:=h;obtain⟨a1,m,d,j,m',gs,gs',b1,Xx,_,_,g1,g2,g3,g4,_,f2,_,_,_,s2,rfl⟩:=h';rw[e1] at g1;subst g1;rw[e2] at g2;injection g2 with g2
 subst g2;rw[e3] at g3;have e:=sq _ _ g3;subst e;rw[e4] at g4;have e:=EZ _ _ f1 f2 g4;subst e;have q1:=Lv k (max k j) _ _ _ _ s1<|Nat.le_max_left _ _;have q2:=Lv j (max k j) _ _ _ _ s2<|Nat.le_max_right _ _;rw[q1] at q2;injection q2 with q2;injection q2 with q2 q3;injection q3 with q3 q4
 rw[q2,q3,q4]
noncomputable def yI:FuncId×KE:=(41,.raw<|mU 10 3<|dH eG)
theorem Sf(hP:bR pg){L:bO}(h:aY L):aY<|yI::L:=by
 refine Ia hP gS xT jQ ji me lQ h (Z6 hP<|dc) Tryz.func41 (body:=aS pg 41 []) aV aV fun st rest y aU e=>?_;obtain⟨a,n,c,k,n',fs,cW,b,b',⟨h1,h2,h3⟩,rfl,e1,e2,e3,e4,hb,hf,hn,hc,hl,hs,hp⟩:=IA e;injection hp with iW fe
 subst iW;subst fe;refine⟨aM.1 aV,fun B mc=>?_⟩;obtain⟨⟨pre,len,cap,post⟩,u,row⟩:=st;simp only at h1 h2 e1 e2 e3 e4;subst h1;subst h2;subst e1;subst e2;subst e3;subst e4;exact afl (u':=.tuple []) mc<|Hw mc k _ fs b hs hb hf hn hc hl
end jc
end
section
open Go Go.Rn Go.RowKit Go.Proofs
namespace jV
open ch eO cG dj cQ di fW fD gH gP gV gj hJ iA iB iR jc gi tJ
variable {j nt:Nat} {s:AS} {t:Tr AV} {T:Prop} {K:List Item}
noncomputable section
def K5:Code:=aS pg 30 [1,0,1,0,0]
def wg:Code:=aS pg 30 [1,0,1,0,1]
def o5:List<|Nat×AV:=[(2,(.ptr<|some (273,0))),(9,(.func (.func 75) [] [(.ptr<|some (274,0))]))]
def KI:List Item:=[.inBlock 0,.code<|aS pg 30 [1,1]]
def uj(st:LoopState)(p:Option Code):ae:=.loop st p 30 (aE o5) 15 [10,11] K5 wg 275
def oW(o0 o1 o2:ae)(r:Int)(sl:AV)(lo:ae)(js:List<|Nat×Option ae):List<|Nat×Option ae:=ar++([(270,some o0),(271,some o1),(272,some o2),(273,some<|.cells 1 (Tr.fill [.int .i64 r] 0 .nil) []),(274,some<|.cells 1 (Tr.fill [sl] 0 .nil) []),(275,some .defs),(276,some lo)]++js)
abbrev jK(L:bO):Env:=xS pg 270 dT dF L 270 false
def Pf(P:Program)(Yw:aK)(rs:List ResultVar)(k l:Nat)(fr:AF)(s:AS):Option<|AV×Option ae×Option ae×Option ae:=match Gl P Yw rs k l fr s with
 |some (v,s2)=>some (v,s2.h.get 270,s2.h.get 271,s2.h.get 272)
 |none=>none
theorem aa1{P:Program}{Yw:aK}{l:Nat}{B:aJ}{J k:Nat}{rs:List ResultVar}{fr:AF}{v:AV}{R:AV->AS->Prop}{o0 o1 o2:ae}(bH:P.follows .mixedOrders=true)(hc:fQ P B Yw)(hl:∀t a,Yv<|Yw t a)(h1:fr.round=none)(h2:fr.defers=[])(h:Pf P Yw rs k l fr s=some (v,some o0,some o1,some o2))(hR:∀s2:AS,s2.h.get 270=some o0->s2.h.get 271=some o1->s2.h.get 272=some o2->R v s2):GD P Yw B J (Fin P rs R) l fr s:=by
 unfold Pf at h;split at h
 ·rename_i v2 s2 e;injection h with h;injection h with h3 h;injection h with h4 h;injection h with h5 h6
  subst h3;exact MW bH hc hl h1 h2 e<|hR _ h4 h5 h6
 ·cases h
abbrev bX(cs:List AV):Option ae:=some<|.cells 13 (Tr.fill cs 0 .nil) []
def QJ:List AV:=[.slice none 0<|.known 0,.int .i64 0,.int .i64 0,.bool false,.int .i64 0,.int .i64 0,.int .i64 0,.int .i64 0,.int .i64 0,.int .i64 0,.int .i64 0,.int .i64 0,.slice none 0<|.known 0]
theorem WO(f:Fr):xr (bX QJ) 0 (aI f)=bX (aI f):=by have e:=Mu f;show(match (Nat.ble (0+13) 13&&(Nat.ble 13 top&&(aI f).all AV.bQ)) with|true=>some (ae.cells 13 (Tr.fill (aI f) 0<|Tr.fill QJ 0 .nil) [])|false=>none)=_;rw[e];kernel_rfl
def iE(fs:List Fr):Nat->Int
 |0=> -1
 |n+1=>if(av fs (n:Int)).bV=true then(n:Int) else iE fs n
theorem agY{l:List Fr}{z:Int}{b:Bool}(h:(av l z).bV=b)(h0:0<=z)(h1:z<(l.length:Int)):l[z.toNat]? =some ({av l z with bV:=b}:Fr):=by subst h;exact jb h0 h1
def RW(B:aJ)(R:AV->AS->Prop)(v:AV)(s:AS):Prop:=v= .tuple []/\∃p s4,lI 276 s= .ok p s4/\au pg B 273 (Fin pg (az Tryz.f30) R) ⟨30,aE o5,15,andThen p KI,[275],none⟩ s4
def jsL(b:Nat->Option ae)(j:Nat):List<|Nat×Option ae:=(List.range j).map fun k=>(277+k,b k)
def Bz(b:Nat->Option ae)(j:Nat)(o:Option ae)(k:Nat):Option ae:=match Nat.beq k j with
 |true=>o
 |false=>b k
def rI(t:Bool)(i:Int):Int:=match t with
 |true=>i
 |false=>0
def QK(t:Bool):ae:=match t with
 |true=>uj .done<|some .ret
 |false=>uj .ready none
abbrev sJ(o0 o1 o2:ae)(r:Int)(sl:AV)(lo:ae)(b:Nat->Option ae)(j:Nat):AS:=ah (oW o0 o1 o2 r sl lo<|jsL b j)<|277+j
abbrev Em(i:Int)(cs:List AV)(m:Nat):Tr AV:=aE [(2,(.ptr<|some (273,0))),(3,(i6 i)),(4,(.ptr<|some (m,0))),(9,(.func (.func 75) [] [(.ptr<|some (274,0))])),(10,(i6 i)),(11,(.agg cs))]
section
variable {o0 o1 o2:ae} {sl:AV} {f:Fr} {i:Int} {b:Nat->Option ae} {B:aJ} {R:AV->AS->Prop} {fs:List Fr} {n c:Nat} {d:Nat->AV}
abbrev sA(o0 o1 o2:ae)(sl:AV)(b:Nat->Option ae)(j:Nat):AS:=sJ o0 o1 o2 0 sl (uj .ready none) b j
abbrev sE(o0 o1 o2:ae)(sl:AV)(f:Fr)(i:Int)(b:Nat->Option ae)(t:Bool)(j:Nat):AS:=sJ o0 o1 o2 (rI t i) sl (QK t) (Bz b j<|bX<|aI {f with bV:=t})<|j+1
abbrev PS(o0 o1 o2:ae)(sl:AV)(f:Fr)(i:Int)(b:Nat->Option ae)(t:Bool)(j:Nat):Prop:=aZ pg (sp []) FU 5 (.round 276) [.int .i64 i,.agg<|aI {f with bV:=t}] (sA o0 o1 o2 sl b j)= .ok (.bool !t) (sE o0 o1 o2 sl f i b t j)
theorem PT(t:Bool)(j:Nat)(k1:getLoop 276 (sA o0 o1 o2 sl b j)= .ok (.loop .ready none 30 (aE o5) 15 [10,11] K5 wg 275) (sA o0 o1 o2 sl b j):=by as_aux_lemma=>kernel_rfl)(k2:((xr (bX QJ) 0 (aI {f with bV:=t})=bX (aI {f with bV:=t}))/\((⟨30,Em i (aI {f with bV:=t})<|277+j,15,[.beginRound,.code wg],[],none⟩:AF)=⟨30,Em i (aI {f with bV:=t})<|277+j,15,[.beginRound,.code wg],[],none⟩/\sJ o0 o1 o2 0 sl (uj .ready none) (Bz b j<|bX<|aI {f with bV:=t}) (j+1)=sJ o0 o1 o2 0 sl (uj .ready none) (Bz b j<|bX<|aI {f with bV:=t}) (j+1)))=
 wp (jK []) 900 4 (.fr 30 15 [.code K5,.beginRound,.code wg] (ju [10,11] [.int .i64 i,.agg<|aI {f with bV:=t}]<|aE o5)<|sA o0 o1 o2 sl b j) (.st 2<|.rg<|.go 1<|.mj (.cells 13 (Tr.fill (aI {f with bV:=t}) 0 .nil) [])<|.en<|.cut .no) [] (fun _ _ _=>False) (fun fr s1 _=>fr=⟨30,Em i (aI {f with bV:=t})<|277+j,15,[.beginRound,.code wg],[],none⟩/\s1=sJ o0 o1 o2 0 sl (uj .ready none) (Bz b j<|bX<|aI {f with bV:=t}) (j+1)):=by as_aux_lemma=>kernel_rfl)(k3:dV pg (aZ pg (sp []) FU 4) 1 ⟨30,Em i (aI {f with bV:=t})<|277+j,15,[.beginRound,.code wg],[],some 276⟩ (sJ o0 o1 o2 0 sl (uj .ready none) (Bz b j<|bX<|aI {f with bV:=t})<|j+1)= .ok (.go ⟨30,Em i (aI {f with bV:=t})<|277+j,15,[.code wg],[],some 276⟩) (sJ o0 o1 o2 0 sl (uj .busy none) (Bz b j<|bX<|aI {f with bV:=t})<|j+1):=by as_aux_lemma=>kernel_rfl)(k4:((none:Option Nat)=none/\([]:List Nat)=[]/\(some (.bool !t,sE o0 o1 o2 sl f i b t j):Option<|AV×AS)=some (.bool !t,sE o0 o1 o2 sl f i b t j))=
 wp (jK []) 900 4 (.fr 30 15 [.code wg] (Em i (aI {f with bV:=t})<|277+j)<|sJ o0 o1 o2 0 sl (uj .busy none) (Bz b j<|bX<|aI {f with bV:=t})<|j+1) (.st 6<|.cut .no) [] (fun _ _ _=>False) (fun fr s1 _=>fr.round=none/\fr.defers=[]/\AE pg (aZ pg (sp []) FU 4) 276 fr s1=some (.bool !t,sE o0 o1 o2 sl f i b t j)):=by as_aux_lemma=>kernel_rfl):PS o0 o1 o2 sl f i b t j:=
 Eu k1 rfl (Cz (E:=jK []) eQ rfl (fun fr s p h=>by obtain⟨rfl,rfl⟩:=h;exact⟨rfl,rfl,Chunk.ev 1 _ _ _ _ k3<|Cz (E:=jK []) eQ rfl (fun fr s p h=>Et h.1 h.2.1 h.2.2) 900 _ (GS _ _) k4⟩) 900 _ ⟨WO _,rfl,rfl⟩ k2)
theorem M5(t:Bool)(hj:j<6):PS o0 o1 o2 sl f i b t j:=by rcases(by omega:j=0\/j=1\/j=2\/j=3\/j=4\/j=5) with rfl|rfl|rfl|rfl|rfl|rfl<;>cases t<;>exact PT _ _
def nD:Nat->Nat
 |0=>3
 |_=>15
abbrev fJ(j:Nat)(i:Int)(d:Nat->AV):AF:=⟨75,aE<|[(0,(.yield 276)),(1,(.ptr<|some (274,0))),(3,(.int .i64 i))]++(List.range<|nD j).map fun k=>(4+k,d k),19,[.code<|aS pg 75 [1,0,0],.inLoop<|aS pg 75 [1,0,0],.inBlock 0],[],none⟩
abbrev wh(B:aJ)(R:AV->AS->Prop)(fr:AF)(s:AS):Prop:=rP (jK []) 5 (az Tryz.f75) (RW B R) fr s
theorem X5{B:aJ}{R:AV->AS->Prop}{f:Nat}{FR:AF}{S1:AS}(H:wh B R FR S1)(p:Pl)(x:T)(h:T=wp (jK []) 900 5 (.fr f nt K t s) p (az Tryz.f75) (fun v s _=>RW B R v s) (fun fr s1 _=>fr=FR/\s1=S1):=by as_aux_lemma=>kernel_rfl):wh B R ⟨f,t,nt,K,[],none⟩ s:=FK (C:=fun fr s1 _=>fr=FR/\s1=S1) eQ rfl (fun fr s1 p h=>by obtain⟨rfl,rfl⟩:=h;exact H) 900 p x h
theorem X6{B:aJ}{R:AV->AS->Prop}{f:Nat}(p:Pl)(x:T)(h:T=wp (jK []) 900 5 (.fr f nt K t s) p (az Tryz.f75) (fun v s _=>RW B R v s) (fun _ _ _=>False):=by as_aux_lemma=>kernel_rfl):wh B R ⟨f,t,nt,K,[],none⟩ s:=FK (C:=fun _ _ _=>False) eQ rfl (fun _ _ _ h=>h.elim) 900 p x h
abbrev iL(n c:Nat):AV:=.slice (some (272,0)) n<|.aq c 13
theorem X7(t:Bool)(mc:Mt [] B){v:Int}(hR:∀s2:AS,s2.h.get 270=some o0->s2.h.get 271=some o1->s2.h.get 272=some (aA aI fs)->R (.int .i64 v) s2)(p:Option Code)(k1:lI 276 (sJ o0 o1 (aA aI fs) (rI t i) (iL n c) (QK t) b j)= .ok p (sJ o0 o1 (aA aI fs) (rI t i) (iL n c) (uj .exhausted p) b j):=by as_aux_lemma=>kernel_rfl)(k2:Pf pg (aZ pg (sp []) FU 6) (az Tryz.f30) 8 275 ⟨30,aE o5,15,andThen p KI,[],none⟩ (sJ o0 o1 (aA aI fs) (rI t i) (iL n c) (uj .exhausted p) b j)=some (.int .i64 v,some o0,some o1,some<|aA aI fs):=by as_aux_lemma=>kernel_rfl):RW B R (.tuple [])<|sJ o0 o1 (aA aI fs) (rI t i) (iL n c) (QK t) b j:=⟨rfl,p,_,k1,(aa1 (l:=275) (k:=8) (fr:=⟨30,aE o5,15,andThen p KI,[],none⟩) (v:=.int .i64 v) (o0:=o0) (o1:=o1) (o2:=aA aI fs) bH mc.2.2.1 mc.2.2.2 rfl rfl k2 hR).2.2 (by show 273<=277+j;omega)⟩
theorem bkE(hi:i<0)(hL:RW B R (.tuple [])<|sA o0 o1 (aA aI fs) (iL n c) b j)(k:((i>=0->False)/\(¬i>=0->RW B R (.tuple []) (sA o0 o1 (aA aI fs) (iL n c) b j)))=wp (jK []) 900 5 (.fr 75 19 (fJ j i d).todo (fJ j i d).tmps<|sA o0 o1 (aA aI fs) (iL n c) b j) (.st 2<|.rg<|.go 1<|.fk (.no)<|.en<|.rt 3 .no) (az Tryz.f75) (fun v s _=>RW B R v s) (fun _ _ _=>False):=by as_aux_lemma=>kernel_rfl):wh B R (fJ j i d)<|sA o0 o1 (aA aI fs) (iL n c) b j:=X6 _ ⟨fun h=>by omega,fun _=>hL⟩ k
abbrev QL(o0 o1:ae)(fs:List Fr)(n c:Nat)(i:Int)(b:Nat->Option ae)(t:Bool)(j:Nat)(P:Prop):Prop:=((i>=0->((0:Int)<=i/\i<(n:Int)/\(cellsOf (some<|aA aI fs) (i.toNat*13+0) 13=some (((aI {(av fs i) with bV:=t}).drop 0).take 13)/\(PS o0 o1 (aA aI fs) (iL n c) (av fs i) i b t j/\P))))/\(¬i>=0->False))
theorem X8{t:Bool}{P:Prop}(hj:j<6)(hi:0<=i/\i<n/\n<=fs.length)(hR:fs.length*13<=top)(cP:(av fs i).bV=t)(x:P):QL o0 o1 fs n c i b t j P:=⟨fun _=>⟨hi.1,hi.2.1,mu fA hR (agY (l:=fs) (z:=i) cP hi.1 ab) 0 13 rfl,M5 t hj,x⟩,fun h=>h hi.1⟩
theorem bkT(hj:j<6)(hi:0<=i/\i<n/\n<=fs.length)(hR:fs.length*13<=top)(cP:(av fs i).bV=true)(hL:RW B R (.tuple [])<|sE o0 o1 (aA aI fs) (iL n c) (av fs i) i b true j)(k:QL o0 o1 fs n c i b true j (RW B R (.tuple [])<|sE o0 o1 (aA aI fs) (iL n c) (av fs i) i b true j)=wp (jK []) 900 5 (.fr 75 19 (fJ j i d).todo (fJ j i d).tmps<|sA o0 o1 (aA aI fs) (iL n c) b j) (.st 2<|.rg<|.go 1<|.fk (.en<|.st 5<|.rg<|.go 4<|.ix<|.ld (aI {(av fs i) with bV:=true})<|.cy (.bool false) (sE o0 o1 (aA aI fs) (iL n c) (av fs i) i b true j)<|.go 1<|.en<|.rt 2 .no)<|.no) (az Tryz.f75) (fun v s _=>RW B R v s) (fun _ _ _=>False):=by as_aux_lemma=>kernel_rfl):wh B R (fJ j i d)<|sA o0 o1 (aA aI fs) (iL n c) b j:=X6 _ (X8 hj hi hR cP hL) k
def dN(d:Nat->AV)(fs:List Fr)(n c:Nat)(i:Int)(k:Nat):AV:=[d 0,d 1,d 2,.int .i64 i,.bool true,.int .i64 i,.int .i64<|i - 1,.yield 276,.int .i64 i,iL n c,.int .i64 i,.ptr<|some (272,i.toNat*13+0),.agg<|aI {(av fs i) with bV:=false},.bool true,.bool false].getD k<|.bool false
theorem bkF(hj:j<6)(hi:0<=i/\i<n/\n<=fs.length)(hf:fs.length<=1000000)(hR:fs.length*13<=top)(cP:(av fs i).bV=false)(H:wh B R (fJ (j+1) (i - 1)<|dN d fs n c i)<|sE o0 o1 (aA aI fs) (iL n c) (av fs i) i b false j)(k:QL o0 o1 fs n c i b false j ((AV.int .i64 (IntKind.wrap .i64<|i - 1)= .int .i64 (i - 1))/\(fJ (j+1) (i - 1) (dN d fs n c i)=fJ (j+1) (i - 1) (dN d fs n c i)/\sE o0 o1 (aA aI fs) (iL n c) (av fs i) i b false j=sE o0 o1 (aA aI fs) (iL n c) (av fs i) i b false j))=wp (jK []) 900 5 (.fr 75 19 (fJ j i d).todo (fJ j i d).tmps<|sA o0 o1 (aA aI fs) (iL n c) b j) (.st 2<|.rg<|.go 1<|.fk (.en<|.st 5<|.rg<|.go 4<|.ix<|.ld (aI {(av fs i) with bV:=false})<|.cy (.bool true) (sE o0 o1 (aA aI fs) (iL n c) (av fs i) i b false j)<|.go 1<|.en<|.st 3<|.rg<|.go 1<|.vl (i6<|i - 1)<|.go 1<|.en<|.st 1<|.cut .no)<|.no) (az Tryz.f75) (fun v s _=>RW B R v s) (fun fr s1 _=>fr=fJ (j+1) (i - 1) (dN d fs n c i)/\s1=sE o0 o1 (aA aI fs) (iL n c) (av fs i) i b false j):=by as_aux_lemma=>kernel_rfl):wh B R (fJ j i d)<|sA o0 o1 (aA aI fs) (iL n c) b j:=X5 H _ (X8 hj hi hR cP ⟨wI _,rfl,rfl⟩) k
theorem UG(mc:Mt [] B)(hl:n<=fs.length)(hf:fs.length<=1000000):∀(m j:Nat) (b:Nat->Option ae) (d:Nat->AV),j+m<=6->m<=n->(∀s2:AS,s2.h.get 270=some o0->s2.h.get 271=some o1->s2.h.get 272=some (aA aI fs)->R (i6<|iE fs m) s2)->wh B R (fJ j ((m:Int) - 1) d) (sA o0 o1 (aA aI fs) (iL n c) b j)
 |0,j,b,d,h6,_,hQ=>by rcases(by omega:j=0\/j=1\/j=2\/j=3\/j=4\/j=5\/j=6) with rfl|rfl|rfl|rfl|rfl|rfl|rfl<;>exact bkE ab<|X7 (i:=0) false mc hQ none
 |m+1,j,b,d,h6,hn,hQ=>by
  have hR:fs.length*13<=top:=by have:top=549755813888:=rfl;omega
  have e:(((m+1:Nat):Int) - 1)=(m:Int):=by omega
  rw[e];cases cP:(av fs (m:Int)).bV with
  |true=>rw[show iE fs (m+1)=(m:Int) from if_pos cP] at hQ;rcases(by omega:j=0\/j=1\/j=2\/j=3\/j=4\/j=5) with rfl|rfl|rfl|rfl|rfl|rfl<;>exact bkT ab ⟨by omega,by omega,hl⟩ hR cP<|X7 true mc hQ<|some .ret
  |false=>rw[show iE fs (m+1)=iE fs m from if_neg (by rw[cP];intro q;cases q)] at hQ;have ih:=fun b d=>UG mc hl hf m (j+1) b d ab ab hQ;rcases(by omega:j=0\/j=1\/j=2\/j=3\/j=4\/j=5) with rfl|rfl|rfl|rfl|rfl|rfl<;>exact bkF ab ⟨by omega,by omega,hl⟩ hf hR cP<|ih _ _
def d0(n c k:Nat):AV:=[iL n c,.int .i64 (n:Int),.int .i64<|(n:Int) - 1].getD k<|.bool false
theorem aim(hn:n<=1000000)(H:wh B R (fJ 0 ((n:Int) - 1)<|d0 n c)<|sA o0 o1 (aA aI fs) (iL n c) b 0):wh B R (sF 75 Tryz.f75 [.yield 276,.ptr<|some (274,0)])<|sA o0 o1 (aA aI fs) (iL n c) b 0:=X5 H (.st 1<|.rg<|.go 2<|.vl (i6<|(n:Int) - 1)<|.go 1<|.en<|.st 2<|.cut .no)<|ai (wI<|(n:Int) - 1)<|ai (rX<|fJ 0 ((n:Int) - 1)<|d0 n c)<|rX<|sA o0 o1 (aA aI fs) (iL n c) b 0
end
theorem Ba:aS pg 30 [1,0,1,0]= .rangeFunc (.tmp 9) #[10,11] K5 wg:=by kernel_rfl
abbrev X9(a:MN)(n c:Nat):ae:=.cells 13 (Tr.fill (a.row (.ptr<|some (271,0)) (iL n c)<|i6 a.steps) 0 .nil) []
abbrev G3(a:MN)(n c:Nat)(u:AV)(fs:List Fr):List<|Nat×Option ae:=ar++[(270,some<|X9 a n c),(271,some<|.tok 3 u),(272,some<|aA aI fs),(273,some<|.cells 1 (Tr.fill [.int .i64 0] 0 .nil) []),(274,some<|.cells 1 (Tr.fill [iL n c] 0 .nil) [])]
abbrev o6:AF:=⟨30,aE o5,15,.code (aS pg 30 [1,0,1,0])::KI,[],none⟩
abbrev jt(a:MN)(n c:Nat)(u:AV)(fs:List Fr):VS:=⟨⟨a.pre,n,.aq c 13,[.int .i64 a.steps]⟩,u,(fs.map aI).flatten⟩
theorem afm{B:aJ}{a:MN}{n c:Nat}{u:AV}{fs:List Fr}(mc:Mt [] B)(Ya:n<=6)(hl:n<=fs.length)(hf:fs.length<=1000000):au pg B 273 (gW 270 3 pg (az Tryz.f30) (i6<|iE fs n)<|jt a n c u fs) (sF 30 Tryz.f30 [.ptr<|some (270,0)])<|ah (ar++aW (dB 270 3<|jt a n c u fs)) 273:=by refine wp_cut (E:=qM []) (C:=fun fr s1 _=>fr=o6/\s1=ah (G3 a n c u fs) 275) eQ rfl bH mc.2.2.1 mc.2.2.2 MB rfl mc.1 (fun fr s1 p hC=>?_) 900 (.st 4<|.rg<|.go 4<|.il<|.rt 5<|.en<|.st 1<|.ls o5 (G3 a n c u fs) 275 .no)<|ai (mS o5)<|ai (mO<|G3 a n c u fs)<|ai (rX o6)<|rX<|ah (G3 a n c u fs) 275;obtain⟨rfl,rfl⟩:=hC;unfold o6;rw[Ba];obtain⟨v,s2,h1,rfl,p,s4,h5,H⟩:=rP.call (E:=(jK [])) (n:=5) Tryz.func75 (EV Tryz.func75 bY)<|aim (b:=fun _=>none) (c:=c) ab<|UG (o0:=X9 a n c) (o1:=.tok 3 u) (R:=fun(y1:AV) (s':AS)=>y1= .int .i64 (iE fs n)/\∀m o,(m,o)∈dB 270 3 (jt a n c u fs)->s'.h.get m=some o) mc hl hf n 0 _ _ ab (Nat.le_refl n) fun s2 a b d=>mG rfl a b d;exact au.chunk bH mc.2.2.1 mc.2.2.2 (H4 (gv:=.func (.func 75) [] [.ptr<|some (274,0)]) (s1:=ah (G3 a n c u fs++[(275,some .defs)]) 276) bY bY bY h1 h5) (by show 273<=275;omega) H
def qV(st:VS)(rest:List AV)(v:AV):Prop:=∃(a:MN) (n c:Nat) (fs:List Fr),sb st a/\rest=[]/\st.R.len=n/\st.R.cap= .aq c 13/\st.row=(fs.map aI).flatten/\im fs/\n<=6/\n<=fs.length/\fs.length<=1000000/\v= .int .i64 (iE fs n)
theorem qV.bM(st:VS)(rest:List AV)(v v':AV)(h:qV st rest v)(h':qV st rest v'):v=v':=by obtain⟨a,n,c,fs,_,_,rfl,_,e4,f1,_,_,_,rfl⟩:=h;obtain⟨a1,m,d,gs,_,_,rfl,_,g4,f2,_,_,_,rfl⟩:=h';rw[e4] at g4;rw[EZ _ _ f1 f2 g4]
def lV:FuncId×KE:=(30,.raw<|mV 10 3<|vR qV)
theorem LX(hP:bR pg){L:bO}(h:aY L):aY<|lV::L:=by refine EL hP gS xT jQ ji me lQ h dc Tryz.func30 (body:=aS pg 30 []) aV aV fun st rest y e _=>?_;obtain⟨a,n,c,fs,⟨h1,h2,h3⟩,rfl,e1,e2,e4,_,Ya,hl,hf,rfl⟩:=Fx e;refine⟨aM.1 aV,fun B mc=>?_⟩;obtain⟨⟨pre,len,cap,post⟩,u,row⟩:=st;simp only at h1 h2 e1 e2 e4;subst h1;subst h2;subst e1;subst e2;subst e4;exact afm mc Ya hl hf
end
end jV
end
section
open Go Go.Rn Go.RowKit Go.Proofs
namespace ki
open ch eO cG dj cQ di fW fD gH gP gV gj hJ iA iB iR jc jV gi
variable {fs:List Fr} {u:AV} {to aF nn n2 kind:Int} {c N4 N3 N2 N L4 L3 L2 L:Nat} {a:MN} {B:aJ}
noncomputable section
def qj(o:Option St):AV:=match o with
 |none=>.tuple [.agg [.int .u8 0,.int .i64 0,.int .u8 0,.int .i64 0,.slice none 0<|.known 0,.int .u8 0,.int .i64 0,.slice none 0<|.known 0,.slice none 0<|.known 0,.slice none 0<|.known 0],.bool false]
 |some s=>.tuple [.agg<|aL s,.bool true]
def zw(fs:List Fr)(n:Nat):Fr:=av fs<|(n:Int) - 1
def mB(fs:List Fr)(n:Nat)(o:Option St):Prop:=(n=0/\o=none)\/(1<=n/\0<=(zw fs n).ak/\∃s,(zw fs n).block[(zw fs n).ak.toNat]? =some s/\o=some s)
theorem mB.bM{n:Nat}{o o':Option St}(h:mB fs n o)(h':mB fs n o'):o=o':=by
 rcases h with⟨a,b⟩|⟨a,_,s,b,e⟩<;>rcases h' with⟨a',b'⟩|⟨a',_,s',b',e'⟩
 ·rw[b,b']
 ·omega
 ·omega
 ·rw[b] at b';injection b' with b';rw[e,e',b']
noncomputable abbrev C0(a:MN)(n c:Nat)(u:AV)(fs:List Fr):VS:=(⟨⟨a.pre,n,(.aq c 13),[.int .i64 a.steps]⟩,u,(fs.map aI).flatten⟩:VS)
noncomputable abbrev C1(kind to op nn:Int)(N L:Nat)(aF n2:Int)(N2 L2 N3 L3 N4 L4:Nat):List AV:=[(u8<|kind),(i6 to),(u8<|op),(i6 nn),(.U N 0 L),(u8<|aF),(i6 n2),(.U N2 0 L2),(.U N3 0 L3),(.U N4 0 L4)]
theorem ain{n:Nat}{op:Int}(mc:Mt [] B)(h1:1<=n)(hn:n<=fs.length)(hf:fs.length<=1000000)(hR:fs.length*13<=top)(aw:0<=(av fs<|(n:Int) - 1).ak/\(av fs<|(n:Int) - 1).ak<(((av fs<|(n:Int) - 1).block.length:Nat):Int))(hx:cr FU (nm ((av fs<|(n:Int) - 1).block.map aL).flatten) (0+(av fs<|(n:Int) - 1).ak.toNat*10+0) 10=some (C1 kind to op nn N L aF n2 N2 L2 N3 L3 N4 L4)):au pg B 273 (gW 270 3 pg (az Tryz.f28) (.tuple [.agg<|C1 kind to op nn N L aF n2 N2 L2 N3 L3 N4 L4,.bool true])<|C0 a n c u fs) (sF 28 Tryz.f28 [.ptr<|some (270,0)])<|ah (ar++aW (dB 270 3<|C0 a n c u fs)) 273:=by exact lW (E:=qM []) eQ rfl bH mc.2.2.1 mc.2.2.2 900 (.st 4<|.rg<|.go 5<|.fk (.no)<|.en<|.st 3<|.rg<|.go 9<|.vl (i6<|(n:Int) - 1)<|.ix<|.ld (aI<|av fs<|(n:Int) - 1)<|.go 1<|.mj (.cells 13 (Tr.fill (aI<|av fs<|(n:Int) - 1) 0 .nil) [])<|.en<|.st 1<|.rg<|.go 4<|.eB<|.eC (C1 kind to op nn N L aF n2 N2 L2 N3 L3 N4 L4)<|.go 2<|.en<|.rt 1 .no)<|aR ((n:Int)=0) fZ fun _=>(ai (wI<|(n:Int) - 1)<|dS ((n:Int) - 1) (n:Int)<|ai (mu fA hR (jb (l:=fs) (z:=((n:Int) - 1)) ab ab) 0 13 rfl)<|ai (WO<|av fs<|(n:Int) - 1)<|dS ((av fs<|(n:Int) - 1).ak) (((av fs<|(n:Int) - 1).block.length:Nat):Int)<|ai (show top<=nm ((av fs<|(n:Int) - 1).block.map aL).flatten from cF _)<|ai hx<|mG (st:=(C0 a n c u fs)) (s:=ah (ar++[(270,some<|.cells 13 (Tr.fill (a.row (.ptr<|some (271,0)) (.slice (some (272,0)) (n)<|.aq c 13)<|i6 a.steps) 0 .nil) []),(271,(some<|.tok 3 u)),(272,(some<|aA aI fs)),(273,some<|.cells 10 (Tr.fill (C1 kind to op nn N L aF n2 N2 L2 N3 L3 N4 L4) 0 .nil) []),(274,some<|.cells 13 (Tr.fill (aI<|av fs<|(n:Int) - 1) 0 .nil) [])]) 275) (show((.tuple [(.agg<|C1 kind to op nn N L aF n2 N2 L2 N3 L3 N4 L4),(.bool true)]):AV)=(.tuple [.agg<|C1 kind to op nn N L aF n2 N2 L2 N3 L3 N4 L4,.bool true]) from rfl) bU bU bU)
noncomputable abbrev Vp:AV:=.tuple [.agg [.int .u8 0,.int .i64 0,.int .u8 0,.int .i64 0,.slice none 0<|.known 0,.int .u8 0,.int .i64 0,.slice none 0<|.known 0,.slice none 0<|.known 0,.slice none 0<|.known 0],.bool false]
theorem aio{n:Nat}{N L N2 L2 N3 L3 N4 L4:Nat}{kind to op nn aF n2:Int}(mc:Mt [] B)(h1:n=0):au pg B 273 (gW 270 3 pg (az Tryz.f28) Vp<|C0 a n c u fs) (sF 28 Tryz.f28 [.ptr<|some (270,0)])<|ah (ar++aW (dB 270 3<|C0 a n c u fs)) 273:=by exact lW (E:=qM []) eQ rfl bH mc.2.2.1 mc.2.2.2 900 (.st 4<|.rg<|.go 5<|.fk (.en<|.rt 4 .no)<|.no)<|aR ((n:Int)=0) (fun _=>(mG (st:=(C0 a n c u fs)) (s:=ah (ar++[(270,some<|.cells 13 (Tr.fill (a.row (.ptr<|some (271,0)) (.slice (some (272,0)) (n)<|.aq c 13)<|i6 a.steps) 0 .nil) []),(271,(some<|.tok 3 u)),(272,(some<|aA aI fs)),(273,some<|.cells 10 (Tr.fill [(u8<|.ofNat 0),i0,(u8<|.ofNat 0),i0,(.slice none 0<|.known 0),(u8<|.ofNat 0),i0,(.slice none 0<|.known 0),(.slice none 0<|.known 0),(.slice none 0<|.known 0)] 0 .nil) [])]) 274) (show((.tuple [(.agg [(u8<|.ofNat 0),i0,(u8<|.ofNat 0),i0,(.slice none 0<|.known 0),(u8<|.ofNat 0),i0,(.slice none 0<|.known 0),(.slice none 0<|.known 0),(.slice none 0<|.known 0)]),(.bool false)]):AV)=Vp from rfl) bU bU bU)) fZ
def iO(st:VS)(rest:List AV)(v:AV):Prop:=∃(a:MN) (n c:Nat) (fs:List Fr) (o:Option St),sb st a/\rest=[]/\st.R.len=n/\st.R.cap= .aq c 13/\st.row=(fs.map aI).flatten/\im fs/\n<=fs.length/\fs.length<=1000000/\mB fs n o/\v=qj o
theorem iO.bM(st:VS)(rest:List AV)(v v':AV)(h:iO st rest v)(h':iO st rest v'):v=v':=by obtain⟨a,n,c,fs,o,_,_,rfl,_,e4,f1,_,_,s1,rfl⟩:=h;obtain⟨a1,m,d,gs,o',_,_,rfl,_,g4,f2,_,_,s2,rfl⟩:=h';rw[e4] at g4;have e:=EZ _ _ f1 f2 g4;subst e;rw[s1.bM s2]
def lY:FuncId×KE:=(28,.raw<|mV 10 3<|vR iO)
theorem M6(hP:bR pg){L:bO}(h:aY L):aY<|lY::L:=by
 refine EL hP gS xT jQ ji me lQ h dc Tryz.func28 (body:=aS pg 28 []) aV aV fun st rest y e _=>?_;obtain⟨a,n,c,fs,o,⟨h1,h2,h3⟩,rfl,e1,e2,e4,_,hl,hf,hS,rfl⟩:=Fx e;refine⟨aM.1 aV,fun B mc=>?_⟩;obtain⟨⟨pre,len,cap,post⟩,u,row⟩:=st;simp only at h1 h2 e1 e2 e4;subst h1;subst h2;subst e1;subst e2;subst e4;rcases hS with⟨q,rfl⟩|⟨q,q0,s,q1,rfl⟩
 ·exact aio (N:=0) (L:=0) (N2:=0) (L2:=0) (N3:=0) (L3:=0) (N4:=0) (L4:=0) (kind:=0) (to:=0) (op:=0) (nn:=0) (aF:=0) (n2:=0) mc q
 ·obtain⟨kind,to,⟨oa,na,la⟩,⟨ob,nb,lb⟩,bd,el⟩:=s;have bZ:=(List.getElem?_eq_some_iff.1 q1).1;have hx:=sL ml q1 0 10<|Nat.le_refl _;rw[show(zw fs len).ak.toNat*10+0=0+(zw fs len).ak.toNat*10+0 by omega,show((aL<|.mk kind to (.mk oa na la) (.mk ob nb lb) bd el).drop 0).take 10=aL (.mk kind to (.mk oa na la) (.mk ob nb lb) bd el) by rw[List.drop_zero];exact List.take_of_length_le (by rw[ml.len];omega)] at hx;rw[show qj (some<|.mk kind to (.mk oa na la) (.mk ob nb lb) bd el)= .tuple [.agg<|aL<|.mk kind to (.mk oa na la) (.mk ob nb lb) bd el,.bool true] from rfl];rw[aL,aC,aC] at hx ⊢;exact ain mc q hl hf (by have:top=549755813888:=rfl;omega) ⟨q0,by unfold zw at bZ q0;omega⟩ hx
end
end ki
end
