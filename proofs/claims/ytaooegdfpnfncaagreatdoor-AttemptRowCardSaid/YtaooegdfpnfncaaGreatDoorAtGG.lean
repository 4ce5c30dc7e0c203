import Derived.Test.YtaooegdfpnfncaaGreatDoorAtGF
import Derived.Test.YtaooegdfpnfncaaGreatDoorRnGD
set_option maxRecDepth 100000
set_option maxHeartbeats 8000000
set_option linter.unusedSimpArgs false
set_option linter.unusedVariables false
section
open Go Go.Rn Go.RowKit Go.Proofs
namespace yP
open cr cU dk dB dM fQ
variable {B:aI} {N:Nat} {L:bV}
noncomputable section
theorem xg(v:AV):v=v:=rfl
theorem Uw(x:Ex):(aM x).all AV.cj=true:=by cases x;rw[aM];rfl
theorem aiG:(([(2,(.slice none 0<|.known 0))]:List<|Nat×AV).map (fun q=>some q.2)=([(2,(.slice none 0<|.known 0))]:List<|Nat×AV).map (fun q=>some q.2))/\(([]:List<|Nat×Option ae).map (fun q=>q.2)=([]:List<|Nat×Option ae).map (fun q=>q.2))/\gY FU 270 270 [(2,(.slice none 0<|.known 0))] [] [(2,aD aH ([]:List Int))] [] 270/\((⟨22,aP [(2,aD aH ([]:List Int))],max Tryz.f22.ntmps 1,[.code<|aW pg 22 [1,0,1,0,1],.code<|aW pg 22 [1,1]],[],none⟩:AF)=⟨22,aP [(2,aD aH ([]:List Int))],max Tryz.f22.ntmps 1,[.code<|aW pg 22 [1,0,1,0,1],.code<|aW pg 22 [1,1]],[],none⟩/\aj [] 270=aj [] 270):=⟨rfl,rfl,(PS (enc:=aH) (j:=2) (bG:=270) eX eX),rfl,rfl⟩
theorem aiH(mc:Mt [] B):av pg B 270 (Fin pg (aA Tryz.f22) fun y _=>y=(aD aH ([]:List Int))) ⟨22,aP [(2,aD aH ([]:List Int))],max Tryz.f22.ntmps 1,[.code<|aW pg 22 [1,0,1,0,1],.code<|aW pg 22 [1,1]],[],none⟩<|aj [] 270:=wS mc (.rt 1 .no)<|xg<|aD aH ([]:List Int)
theorem go_In(mc:Mt [] B):av pg B 270 (Fin pg (aA Tryz.f22) fun y _=>y=(aD aH ([]:List Int))) (sF 22 Tryz.f22 [(.ab top 0 0)])<|aj aq 270:=wC mc (C:=(fun fr s1 _=>fr=⟨22,aP [(2,aD aH ([]:List Int))],max Tryz.f22.ntmps 1,[.code<|aW pg 22 [1,0,1,0,1],.code<|aW pg 22 [1,1]],[],none⟩/\s1=aj [] 270)) (fun fr s1 p hC=>by obtain⟨rfl,rfl⟩:=hC;exact aiH mc) (.st 8<|.rn [(2,(.slice none 0<|.known 0))] [] [(2,aD aH ([]:List Int))] [] 270 270 .no)<|aiG
theorem aiJ:(([(2,(.slice (some (271,0)) (0)<|.ar 0 1))]:List<|Nat×AV).map (fun q=>some q.2)=([(2,(.slice (some (271,0)) (0)<|.ar 0 1))]:List<|Nat×AV).map (fun q=>some q.2))/\(([]:List<|Nat×Option ae).map (fun q=>q.2)=([]:List<|Nat×Option ae).map (fun q=>q.2))/\gY FU 270 272 [(2,(.slice (some (271,0)) (0)<|.ar 0 1))] [] [(2,aD aH ([]:List Int))] [] 270/\((⟨22,aP [(2,aD aH ([]:List Int))],max Tryz.f22.ntmps 1,(dt 22 [1,1,1]),[],none⟩:AF)=⟨22,aP [(2,aD aH ([]:List Int))],max Tryz.f22.ntmps 1,(dt 22 [1,1,1]),[],none⟩/\aj [] 270=aj [] 270):=⟨rfl,rfl,(Vf (enc:=aH) (j:=2) (bG:=272) eX eX),rfl,rfl⟩
theorem aiK(mc:Mt [] B):av pg B 270 (Fin pg (aA Tryz.f22) fun y _=>y=(aD aH ([]:List Int))) ⟨22,aP [(2,aD aH ([]:List Int))],max Tryz.f22.ntmps 1,(dt 22 [1,1,1]),[],none⟩<|aj [] 270:=wS mc (.rt 1 .no)<|xg<|aD aH ([]:List Int)
theorem go_Ie(mc:Mt [] B):av pg B 270 (Fin pg (aA Tryz.f22) fun y _=>y=(aD aH ([]:List Int))) (sF 22 Tryz.f22 [(.ab (top+1) 0 0)])<|aj aq 270:=wC mc (C:=(fun fr s1 _=>fr=⟨22,aP [(2,aD aH ([]:List Int))],max Tryz.f22.ntmps 1,(dt 22 [1,1,1]),[],none⟩/\s1=aj [] 270)) (fun fr s1 p hC=>by obtain⟨rfl,rfl⟩:=hC;exact aiK mc) (.st 9<|.rn [(2,(.slice (some (271,0)) (0)<|.ar 0 1))] [] [(2,aD aH ([]:List Int))] [] 272 270 .no)<|aiJ
noncomputable abbrev KL(l:List Int):List<|Nat×AV:=[(2,(.slice (some (271,0)) (([]++l).length)<|.ar ([]++l).length 1))]
theorem aiM(l:List Int)(hlen:l.length<=100000):(((KL l):List<|Nat×AV).map (fun q=>some q.2)=((KL l):List<|Nat×AV).map (fun q=>some q.2))/\(([(271,some<|aJ aH<|[]++l)]:List<|Nat×Option ae).map (fun q=>q.2)=([(271,some<|aJ aH<|[]++l)]:List<|Nat×Option ae).map (fun q=>q.2))/\gY FU 270 272 (KL l) [(271,some<|aJ aH<|[]++l)] [(2,aD aH<|[]++l)] [] 270/\((⟨22,aP [(2,aD aH<|[]++l)],max Tryz.f22.ntmps 1,(dt 22 [1,1,1]),[],none⟩:AF)=⟨22,aP [(2,aD aH<|[]++l)],max Tryz.f22.ntmps 1,(dt 22 [1,1,1]),[],none⟩/\aj [] 270=aj [] 270):=⟨rfl,rfl,(PR (j:=2) (bG:=272) eI ([]++l) rfl (by rw[List.nil_append];unfold top;omega) eX eX eX),rfl,rfl⟩
theorem aiN(mc:Mt [] B)(l:List Int):av pg B 270 (Fin pg (aA Tryz.f22) fun y _=>y=(aD aH<|[]++l)) ⟨22,aP [(2,aD aH<|[]++l)],max Tryz.f22.ntmps 1,(dt 22 [1,1,1]),[],none⟩<|aj [] 270:=wS mc (.rt 1 .no)<|xg<|aD aH<|[]++l
theorem go_Im(mc:Mt [] B){l:List Int}{o m:Nat}(hlen:l.length<=100000)(hf:top<=N/\cx FU N o ((m+1)*1)=some (l.map aH).flatten/\m+1=l.length):av pg B 270 (Fin pg (aA Tryz.f22) fun y _=>y=(aD aH<|[]++l)) (sF 22 Tryz.f22 [(.ab N o<|m+1)])<|aj aq 270:=wC mc (C:=(fun fr s1 _=>fr=⟨22,aP [(2,aD aH<|[]++l)],max Tryz.f22.ntmps 1,(dt 22 [1,1,1]),[],none⟩/\s1=aj [] 270)) (fun fr s1 p hC=>by obtain⟨rfl,rfl⟩:=hC;exact aiN mc l) (.st 8<|.rg<|.go 2<|.al Int aH [] l<|.go 1<|.en<|.rn (KL l) [(271,some<|aJ aH<|[]++l)] [(2,aD aH<|[]++l)] [] 272 270 .no)<|Ge aH [] l (K:=1) (j9:=8) hf (fun x=>⟨rfl,rfl⟩) Q0 Q1<|aiM l hlen
def Ca(args:List AV)(v:AV):Prop:=∃(N o:Nat) (l:List Int),args=[.ab N o l.length]/\dj aH 1 (.ab N o l.length) l/\l.length<=100000/\v=aD aH l
theorem Ca.bS(args:List AV)(v v':AV)(h:Ca args v)(h':Ca args v'):v=v':=by
 obtain⟨N,o,l,rfl,hl,_,rfl⟩:=h;obtain⟨N',o',l',h1,ni,_,rfl⟩:=h';injection h1 with h1 _
 rw[h1] at hl;rw[hl.inj rW ni]
def Ee:FuncId×KE:=(22,.val<|aY Ca)
theorem abV(hP:bC pg)(h:aV L):aV<|Ee::L:=by
 refine g9 hP h cN Tryz.func22 fun args v e=>?_;obtain⟨N,o,l,rfl,hl,hlen,rfl⟩:=gf e;refine⟨aL.1 aZ,fun B mc=>?_⟩;rw[←gN];cases l with
 |nil=>
  refine av.Ke (i:=0) (n:=N) (o:=o) cC hl.len.2.1 (aL.1 aZ) ?_ ?_
  ·exact go_In mc
  ·exact go_Ie mc
 |cons a l=>
  have hf:cx FU N o ((l.length+1)*1)=some ((a::l).map aH).flatten:=by
   rcases J9 eI.len hl with q|q
   ·exact q
   ·cases q
  have key:=go_Im (l:=a::l) (N:=N) (o:=o) (m:=l.length) mc hlen ⟨hl.len.2.1,hf,rfl⟩;exact key
theorem aiP:(([(2,(.slice none 0<|.known 0))]:List<|Nat×AV).map (fun q=>some q.2)=([(2,(.slice none 0<|.known 0))]:List<|Nat×AV).map (fun q=>some q.2))/\(([]:List<|Nat×Option ae).map (fun q=>q.2)=([]:List<|Nat×Option ae).map (fun q=>q.2))/\gY FU 270 270 [(2,(.slice none 0<|.known 0))] [] [(2,aD aM ([]:List Ex))] [] 270/\((⟨97,aP [(2,aD aM ([]:List Ex))],max Tryz.f97.ntmps 1,[.code<|aW pg 97 [1,0,1,0,1],.code<|aW pg 97 [1,1]],[],none⟩:AF)=⟨97,aP [(2,aD aM ([]:List Ex))],max Tryz.f97.ntmps 1,[.code<|aW pg 97 [1,0,1,0,1],.code<|aW pg 97 [1,1]],[],none⟩/\aj [] 270=aj [] 270):=⟨rfl,rfl,(PS (enc:=aM) (j:=2) (bG:=270) eX eX),rfl,rfl⟩
theorem aiQ(mc:Mt [] B):av pg B 270 (Fin pg (aA Tryz.f97) fun y _=>y=(aD aM ([]:List Ex))) ⟨97,aP [(2,aD aM ([]:List Ex))],max Tryz.f97.ntmps 1,[.code<|aW pg 97 [1,0,1,0,1],.code<|aW pg 97 [1,1]],[],none⟩<|aj [] 270:=wS mc (.rt 1 .no)<|xg<|aD aM ([]:List Ex)
theorem go_En(mc:Mt [] B):av pg B 270 (Fin pg (aA Tryz.f97) fun y _=>y=(aD aM ([]:List Ex))) (sF 97 Tryz.f97 [(.ab top 0 0)])<|aj aq 270:=wC mc (C:=(fun fr s1 _=>fr=⟨97,aP [(2,aD aM ([]:List Ex))],max Tryz.f97.ntmps 1,[.code<|aW pg 97 [1,0,1,0,1],.code<|aW pg 97 [1,1]],[],none⟩/\s1=aj [] 270)) (fun fr s1 p hC=>by obtain⟨rfl,rfl⟩:=hC;exact aiQ mc) (.st 8<|.rn [(2,(.slice none 0<|.known 0))] [] [(2,aD aM ([]:List Ex))] [] 270 270 .no)<|aiP
theorem aiS:(([(2,(.slice (some (271,0)) (0)<|.ar 0 3))]:List<|Nat×AV).map (fun q=>some q.2)=([(2,(.slice (some (271,0)) (0)<|.ar 0 3))]:List<|Nat×AV).map (fun q=>some q.2))/\(([]:List<|Nat×Option ae).map (fun q=>q.2)=([]:List<|Nat×Option ae).map (fun q=>q.2))/\gY FU 270 272 [(2,(.slice (some (271,0)) (0)<|.ar 0 3))] [] [(2,aD aM ([]:List Ex))] [] 270/\((⟨97,aP [(2,aD aM ([]:List Ex))],max Tryz.f97.ntmps 1,(dt 97 [1,1,1]),[],none⟩:AF)=⟨97,aP [(2,aD aM ([]:List Ex))],max Tryz.f97.ntmps 1,(dt 97 [1,1,1]),[],none⟩/\aj [] 270=aj [] 270):=⟨rfl,rfl,(Vf (enc:=aM) (j:=2) (bG:=272) eX eX),rfl,rfl⟩
theorem aiT(mc:Mt [] B):av pg B 270 (Fin pg (aA Tryz.f97) fun y _=>y=(aD aM ([]:List Ex))) ⟨97,aP [(2,aD aM ([]:List Ex))],max Tryz.f97.ntmps 1,(dt 97 [1,1,1]),[],none⟩<|aj [] 270:=wS mc (.rt 1 .no)<|xg<|aD aM ([]:List Ex)
theorem go_Ee(mc:Mt [] B):av pg B 270 (Fin pg (aA Tryz.f97) fun y _=>y=(aD aM ([]:List Ex))) (sF 97 Tryz.f97 [(.ab (top+1) 0 0)])<|aj aq 270:=wC mc (C:=(fun fr s1 _=>fr=⟨97,aP [(2,aD aM ([]:List Ex))],max Tryz.f97.ntmps 1,(dt 97 [1,1,1]),[],none⟩/\s1=aj [] 270)) (fun fr s1 p hC=>by obtain⟨rfl,rfl⟩:=hC;exact aiT mc) (.st 9<|.rn [(2,(.slice (some (271,0)) (0)<|.ar 0 3))] [] [(2,aD aM ([]:List Ex))] [] 272 270 .no)<|aiS
noncomputable abbrev KO(l:List Ex):List<|Nat×AV:=[(2,(.slice (some (271,0)) (([]++l).length)<|.ar ([]++l).length 3))]
theorem aiV(l:List Ex)(hlen:l.length<=100000):(((KO l):List<|Nat×AV).map (fun q=>some q.2)=((KO l):List<|Nat×AV).map (fun q=>some q.2))/\(([(271,some<|aJ aM<|[]++l)]:List<|Nat×Option ae).map (fun q=>q.2)=([(271,some<|aJ aM<|[]++l)]:List<|Nat×Option ae).map (fun q=>q.2))/\gY FU 270 272 (KO l) [(271,some<|aJ aM<|[]++l)] [(2,aD aM<|[]++l)] [] 270/\((⟨97,aP [(2,aD aM<|[]++l)],max Tryz.f97.ntmps 1,(dt 97 [1,1,1]),[],none⟩:AF)=⟨97,aP [(2,aD aM<|[]++l)],max Tryz.f97.ntmps 1,(dt 97 [1,1,1]),[],none⟩/\aj [] 270=aj [] 270):=⟨rfl,rfl,(PR (j:=2) (bG:=272) kV ([]++l) rfl (by rw[List.nil_append];unfold top;omega) eX eX eX),rfl,rfl⟩
theorem aiW(mc:Mt [] B)(l:List Ex):av pg B 270 (Fin pg (aA Tryz.f97) fun y _=>y=(aD aM<|[]++l)) ⟨97,aP [(2,aD aM<|[]++l)],max Tryz.f97.ntmps 1,(dt 97 [1,1,1]),[],none⟩<|aj [] 270:=wS mc (.rt 1 .no)<|xg<|aD aM<|[]++l
theorem go_Em(mc:Mt [] B){l:List Ex}{o m:Nat}(hlen:l.length<=100000)(hf:top<=N/\cx FU N o ((m+1)*3)=some (l.map aM).flatten/\m+1=l.length):av pg B 270 (Fin pg (aA Tryz.f97) fun y _=>y=(aD aM<|[]++l)) (sF 97 Tryz.f97 [(.ab N o<|m+1)])<|aj aq 270:=wC mc (C:=(fun fr s1 _=>fr=⟨97,aP [(2,aD aM<|[]++l)],max Tryz.f97.ntmps 1,(dt 97 [1,1,1]),[],none⟩/\s1=aj [] 270)) (fun fr s1 p hC=>by obtain⟨rfl,rfl⟩:=hC;exact aiW mc l) (.st 8<|.rg<|.go 2<|.al Ex aM [] l<|.go 1<|.en<|.rn (KO l) [(271,some<|aJ aM<|[]++l)] [(2,aD aM<|[]++l)] [] 272 270 .no)<|Ge aM [] l (K:=3) (j9:=40) hf (fun x=>⟨kV.len x,Uw x⟩) Q0 Q1<|aiV l hlen
def Cc(args:List AV)(v:AV):Prop:=∃(N o:Nat) (l:List Ex),args=[.ab N o l.length]/\dj aM 3 (.ab N o l.length) l/\l.length<=100000/\v=aD aM l
theorem Cc.bS(args:List AV)(v v':AV)(h:Cc args v)(h':Cc args v'):v=v':=by
 obtain⟨N,o,l,rfl,hl,_,rfl⟩:=h;obtain⟨N',o',l',h1,ni,_,rfl⟩:=h';injection h1 with h1 _
 rw[h1] at hl;rw[hl.inj nU ni]
def Wb:FuncId×KE:=(97,.val<|aY Cc)
theorem abW(hP:bC pg)(h:aV L):aV<|Wb::L:=by
 refine g9 hP h cN Tryz.func97 fun args v e=>?_;obtain⟨N,o,l,rfl,hl,hlen,rfl⟩:=gf e;refine⟨aL.1 aZ,fun B mc=>?_⟩;rw[←gN];cases l with
 |nil=>
  refine av.Ke (i:=0) (n:=N) (o:=o) cC hl.len.2.1 (aL.1 aZ) ?_ ?_
  ·exact go_En mc
  ·exact go_Ee mc
 |cons a l=>
  have hf:cx FU N o ((l.length+1)*3)=some ((a::l).map aM).flatten:=by
   rcases J9 kV.len hl with q|q
   ·exact q
   ·cases q
  have key:=go_Em (l:=a::l) (N:=N) (o:=o) (m:=l.length) mc hlen ⟨hl.len.2.1,hf,rfl⟩;exact key
end
end yP
end
section
open Go Go.Rn Go.RowKit Go.Proofs
namespace Ig
open cr cU dk dB dM fQ yP wD yv
variable {k N:Nat} {bW n1 n0:Int} {l1:List Ex} {B:aI}
theorem aho{α:Type}{K:Nat}{enc:α->List AV}(he:mh K enc)(l:List α){b n j bG:Nat}(pre post:List AV){cap:cR}(hl:l.length*K<=top)(hb:270<=b)(IJ:b+1<=n)(hj:j<top)(hn:n<top)(hs:bG<top)(e1:∀r:Nat->Nat,(∀k,top<=k->r k=k)->Lp r pre pre)(e2:∀r:Nat->Nat,(∀k,top<=k->r k=k)->Lp r post post)(h1:(pre++aD enc l::post).all AV.cj=true)(h2:(pre++aD enc l::post).length<=top)(hc:(match cap with| .known c=>Nat.ble l.length c| .ar _ _=>true| .lost=>false)=true):
 gY FU 270 bG [(j,.ptr<|some (b,0))] [(b,some<|.cells (pre++ .slice (some (n,0)) l.length cap::post).length (Tr.fill (pre++ .slice (some (n,0)) l.length cap::post) 0 .nil) []),(n,some<|aJ enc l)] [(j,.ptr<|some (b,0))] [(b,some<|.cells (pre++aD enc l::post).length (Tr.fill (pre++aD enc l::post) 0 .nil) [])] (b+1):=by
 let r:Nat->Nat:=fun k=>if k<b+1\/top<=k then k else max k bG
 have rt:∀k,top<=k->r k=k:=fun k hk=>if_pos<|.inr hk;have rb:r b=b:=if_pos<|.inl ah;have app:∀(fz:lN) (p q p' q':List AV),mF fz r p p'->mF fz r q q'->mF fz r (p++q) (p'++q'):=by
  intro fz p;induction p with
  |nil=>intro q p' q' h1 h2;cases p' with
   |nil=>exact h2
   |cons _ _=>cases h1
  |cons a p ih=>intro q p' q' h1 h2;cases p' with
   |nil=>cases h1
   |cons a' p'=>exact⟨h1.1,ih q p' q' h1.2 h2⟩
 have ZF:∀(fz:lN) (p:List AV),Lp r p p->mF fz r p p:=by
  intro fz p;induction p with
  |nil=>intro _;trivial
  |cons a p ih=>intro h;exact⟨h.1.z,ih h.2⟩
 refine⟨[(n,nm (l.map enc).flatten,(l.map enc).flatten)],r,fun k hk=>if_pos<|.inl ah,fun k h1 h2=>?_,rt,by omega,fun p hp=>?_,fun p hp=>?_,fun p hp q hq _ _ _=>?_,fun p hp=>?_,fun p hp q hq _=>?_⟩
 ·show bG<=(if _ then _ else _)/\(if _ then _ else _)<top;rw[if_neg ah];omega
 ·rw[List.mem_singleton] at hp;subst hp;exact⟨hj,_,List.mem_singleton.2 rfl,(bA.ptr rb).z⟩
 ·rw[List.mem_singleton] at hp;subst hp;refine⟨by show b<top;omega,fun y hy=>?_⟩;cases hy;refine⟨by rw[rb];omega,rfl,_,by rw[rb];exact List.mem_cons_self,⟨fun _=>rfl,(fun e=>by cases e),fun e=>by cases e⟩,?_⟩;refine fI.cells (by simp only[List.length_append,List.length_cons] at h2 ⊢;exact h2) (app _ _ _ _ _ (ZF _ _<|e1 r rt) ⟨GZ (List.mem_singleton.2 rfl) rt hc,ZF _ _<|e2 r rt⟩) h1
 ·rw[List.mem_singleton] at hp hq;subst hp;subst hq;rfl
 ·rw[List.mem_singleton] at hp;subst hp;exact G0 he hl n hn<|List.mem_cons_of_mem _ List.mem_cons_self
 ·rw[List.mem_singleton] at hp hq;subst hp;subst hq;show r b≠n;rw[rb];omega
def pG:Nat->Ex->Bool
 |0,_=>false
 |k+1,.mk op n args=>eQ (k+1) (.mk op n args)||args.isEmpty
def sk(k:Nat)(args:List AV)(v:AV):Prop:=∃e:Ex,args=[.agg<|aM e]/\pG k e=true/\v= .agg (aM e)
theorem sk.bS(args:List AV)(v v':AV)(h:sk k args v)(h':sk k args v'):v=v':=by obtain⟨e,rfl,_,rfl⟩:=h;obtain⟨e',h1,_,rfl⟩:=h';injection h1 with h1 _
noncomputable def sq(k:Nat):FuncId×KE:=(73,.val<|aY<|sk k)
theorem aiY{op n:Int}(mc:Mt [Wb,sq k] B)(nH:bp (aY Cc) [.ab N 0 0]=some (.ab N 0 0)):av pg B 270 (Fin pg (aA Tryz.f73) fun y _=>y=(.agg [(u8<|op),(i6 n),(.ab N 0 0)])) (sF 73 Tryz.f73 [(.agg [(u8<|op),(i6 n),(.ab N 0 0)])])<|aj aq 270:=wS mc (.st 3<|.rg<|.go 2<|.kn (.ab N 0 0)<|.go 2<|.en<|.rt 13 .no)<|ai nH<|xg<|.agg [(u8<|op),(i6 n),(.ab N 0 0)]
noncomputable abbrev Er(op n bW n0:Int)(l0:List Ex)(cM n1:Int)(l1:List Ex):List<|Nat×Option ae:=[(271,some<|.cells 3 (Tr.fill [.int .u8 op,.int .i64 n,aD aM [Ex.mk bW n0 l0,Ex.mk cM n1 l1]] 0 .nil) [])]
noncomputable abbrev KR(op n bW n0:Int)(l0:List Ex)(cM n1:Int)(l1:List Ex):List<|Nat×Option ae:=[(271,some<|.cells 3 (Tr.fill [(u8<|op),(i6 n),(.slice (some (273,0)) (2)<|.ar 2 3)] 0 .nil) []),(273,some<|aJ aM [Ex.mk bW n0 l0,Ex.mk cM n1 l1])]
theorem aiZ{op n cM:Int}{l0:List Ex}:(([(2,(.ptr<|some (271,0)))]:List<|Nat×AV).map (fun q=>some q.2)=([(2,(.ptr<|some (271,0)))]:List<|Nat×AV).map (fun q=>some q.2))/\(((KR op n bW n0 l0 cM n1 l1):List<|Nat×Option ae).map (fun q=>q.2)=((KR op n bW n0 l0 cM n1 l1):List<|Nat×Option ae).map (fun q=>q.2))/\gY FU 270 276 [(2,(.ptr<|some (271,0)))] (KR op n bW n0 l0 cM n1 l1) [(2,(.ptr<|some (271,0)))] (Er op n bW n0 l0 cM n1 l1) 272/\((⟨73,aP [(2,(.ptr<|some (271,0)))],max Tryz.f73.ntmps 1,(dt 73 [1,1,1,1]),[],none⟩:AF)=⟨73,aP [(2,(.ptr<|some (271,0)))],max Tryz.f73.ntmps 1,(dt 73 [1,1,1,1]),[],none⟩/\aj (Er op n bW n0 l0 cM n1 l1) 272=aj (Er op n bW n0 l0 cM n1 l1) 272):=⟨rfl,rfl,aho kV (b:=271) (n:=273) (j:=2) (bG:=276) [Ex.mk bW n0 l0,Ex.mk cM n1 l1] [.int .u8 op,.int .i64 n] [] (by simp only[List.length_cons,List.length_nil];unfold top;omega) ah ah eX eX eX (fun r _=>⟨bA.int _ _,bA.int _ _,trivial⟩) (fun r _=>trivial) rfl Ia rfl,rfl,rfl⟩
theorem ai0(mc:Mt [sq k] B){op n cM:Int}{l0:List Ex}:av pg B 270 (Fin pg (aA Tryz.f73) fun y _=>y=(.agg [.int .u8 op,.int .i64 n,aD aM [Ex.mk bW n0 l0,Ex.mk cM n1 l1]])) ⟨73,aP [(2,(.ptr<|some (271,0)))],max Tryz.f73.ntmps 1,(dt 73 [1,1,1,1]),[],none⟩<|aj (Er op n bW n0 l0 cM n1 l1) 272:=wS mc (.rt 1 .no)<|xg<|.agg [.int .u8 op,.int .i64 n,aD aM [Ex.mk bW n0 l0,Ex.mk cM n1 l1]]
theorem go_cp(mc:Mt [sq k] B){op n cM:Int}{l0:List Ex}(hn:top<=N)(hf:cx FU N 0 (2*3)=some ([Ex.mk bW n0 l0,Ex.mk cM n1 l1].map aM).flatten)(jt:bp (aY<|sk k) [(.agg [(u8<|bW),(i6 n0),(.ab (nm<|dz l0) 0 l0.length)])]=some (.agg [(u8<|bW),(i6 n0),(.ab (nm<|dz l0) 0 l0.length)]))(jL:bp (aY<|sk k) [(.agg [(u8<|cM),(i6 n1),(.ab (nm<|dz l1) 0 l1.length)])]=some (.agg [(u8<|cM),(i6 n1),(.ab (nm<|dz l1) 0 l1.length)])):av pg B 270 (Fin pg (aA Tryz.f73) fun y _=>y=(.agg [.int .u8 op,.int .i64 n,aD aM [Ex.mk bW n0 l0,Ex.mk cM n1 l1]])) (sF 73 Tryz.f73 [(.agg [(u8<|op),(i6 n),(.ab N 0 2)])])<|aj aq 270:=wC mc (C:=(fun fr s1 _=>fr=⟨73,aP [(2,(.ptr<|some (271,0)))],max Tryz.f73.ntmps 1,(dt 73 [1,1,1,1]),[],none⟩/\s1=aj (Er op n bW n0 l0 cM n1 l1) 272)) (fun fr s1 p hC=>by obtain⟨rfl,rfl⟩:=hC;exact ai0 mc) (.st 3<|.rg<|.go 2<|.il<|.st 8<|.rg<|.go 2<|.al Ex aM [] [Ex.mk bW n0 l0,Ex.mk cM n1 l1]<|.go 1<|.en<|.rt 1<|.go 2<|.en<|.st 14<|.rg<|.go 4<|.kn (.agg [(u8<|bW),(i6 n0),(.ab (nm<|dz l0) 0 l0.length)])<|.go 2<|.en<|.st 12<|.rg<|.go 4<|.kn (.agg [(u8<|cM),(i6 n1),(.ab (nm<|dz l1) 0 l1.length)])<|.go 2<|.en<|.st 10<|.rn [(2,(.ptr<|some (271,0)))] (KR op n bW n0 l0 cM n1 l1) [(2,(.ptr<|some (271,0)))] (Er op n bW n0 l0 cM n1 l1) 276 272 .no)<|Ge aM [] [Ex.mk bW n0 l0,Ex.mk cM n1 l1] (K:=3) (j9:=40) ⟨hn,hf,rfl⟩ (fun x=>⟨kV.len x,Uw x⟩) (by show 2*(0+2)*40+4096*40<=room;unfold room;omega) (by show(0+2)*3<=top;unfold top;omega)<|ai jt<|ai jL<|aiZ (op:=op) (n:=n) (bW:=bW) (n0:=n0) (cM:=cM) (n1:=n1) (l0:=l0) (l1:=l1)
end Ig
end
section
open Go Go.Rn Go.RowKit Go.Proofs
namespace LB
open cr cU dk dB dM fQ yP wD yv Ig
variable {k:Nat} {e:Ex}
theorem PT(h:eQ k e=true):pG k e=true:=by
 cases k with
 |zero=>cases h
 |succ k=>obtain⟨op,n,l⟩:=e;show(eQ (k+1) (.mk op n l)||l.isEmpty)=true;rw[h];rfl
theorem afE{op n:Int}{l:List Ex}(h:pG (k+1) (.mk op n l)=true):l=[]\/∃a b,l=[a,b]/\eQ k a=true/\eQ k b=true:=by
 have h:(eQ (k+1) (.mk op n l)||l.isEmpty)=true:=h;rw[Bool.or_eq_true] at h;rcases h with h|h
 ·exact Us h
 ·exact .inl<|List.isEmpty_iff.1 h
theorem Ef(hw:pG k e=true):bp (aY<|sk k) [.agg<|aM e]=some (.agg<|aM e):=fu (ff sk.bS ⟨e,rfl,hw,rfl⟩) sB<|Co e
theorem Ps(l:List Ex):AV.ab (nm<|dz l) 0 l.length=aD aM l:=by rw[DR];rfl
theorem acO{l:List Ex}(h:l.length<=100000):bp (aY Cc) [.ab (nm<|dz l) 0 l.length]=some (aD aM l):=by rw[Ps];exact fu (ff Cc.bS ⟨_,0,l,rfl,dj.aD kV l,h,rfl⟩) (by rw[List.all_cons,show AV.hi (aD aM l)=true from aL.2<|cV _];rfl)<|aL.2<|cV _
theorem OT(hP:bC pg):∀(k:Nat) {L:bV},aV L->aV (sq k::L)
 |0,L,h=>by refine g9 hP h cN Tryz.func73 fun args v e=>?_;obtain⟨_,_,hw,_⟩:=gf e;cases hw
 |k+1,L,h=>by
  refine ad1 hP gL p7 ir gZ h Tryz.func73 (body:=aW pg 73 []) aZ aZ fun args v e=>?_;obtain⟨⟨op,n,l⟩,rfl,hw,rfl⟩:=gf e;refine⟨aL.1 aZ,?_⟩;rcases afE hw with rfl|⟨a,b,rfl,w0,w1⟩
  ·refine⟨_,abW hP<|OT hP k cN,fun B mc=>?_⟩;rw[←gN,aM];exact aiY mc (by have:=acO (l:=[]) (by show(0:Nat)<=100000;omega);rw[←Ps] at this;exact this)
  ·refine⟨_,OT hP k cN,fun B mc=>?_⟩;obtain⟨bW,n0,l0⟩:=a;obtain⟨cM,n1,l1⟩:=b;rw[←gN,aM];have c0:=Ef<|PT w0;have c1:=Ef<|PT w1;rw[aM] at c0 c1;have hf:cx FU (nm<|dz [Ex.mk bW n0 l0,.mk cM n1 l1]) 0 (2*3)=some ([Ex.mk bW n0 l0,.mk cM n1 l1].map aM).flatten:=by
    rcases J9 (K:=3) kV.len (dj.aD kV [Ex.mk bW n0 l0,.mk cM n1 l1]) with q|q
    ·rw[DR];exact q
    ·cases q
   have key:=go_cp (op:=op) (n:=n) mc (cV _) hf c0 c1;rw[←Ps] at key;exact key
end LB
end
section
open Go Go.Rn Go.RowKit Go.Proofs
namespace hI
open cr cU dk dB fc gK dM fQ yP wD yv qV Ig LB
variable {k N L K:Nat} {B:aI} {to ob oa na kd i:Int} {lb la:List Ex} {el bd W:List St} {α:Type} {x:AV} {r:Nat->Nat} {enc:α->List AV}
noncomputable section
theorem Vg:∀p∈aq,∀y,p.2=some y->y.l7=true:=by
 have h:(aq.all fun p=>Kx p.2)=true:=by kernel_rfl
 intro p hp y hy;have:=List.all_eq_true.1 h p hp;rw[hy] at this;exact this
def qW:Nat->List St->Bool
 |0,_=>false
 |k+1,l=>decide (l.length<=10000)&&l.all fun s=>pG 6 (iC s)&&(pG 6 (ib s)&&(qW k (ct s)&&qW k (cm s)))
theorem acP(x:St):(ba x).all AV.cj=true:=List.all_eq_true.2 fun y hy=>JE<|List.all_eq_true.1 (lF.gi x) y hy
theorem Hk(hr:∀k,top<=k->r k=k)(h:x.hi=true):bA r x x:=fun ρ v hv=>AV.pb (fun k y hk e=>by rw[hr k hk];exact e) h hv
theorem acQ(h:x.gi=true):x.hi=true:=by have:=D3 h;cases x<;>first|exact this|cases h
theorem G3(he:mh K enc)(l:List α)(hl:l.length*K<=top){fz:lN}(hr:∀k,top<=k->r k=k):fI fz r (aJ enc l)<|aJ enc l:=by
 have hz:∀(m:List AV),m.all AV.gi=true->mF fz r m m:=by
  intro m;induction m with
  |nil=>intro _;trivial
  |cons a m ih=>intro h;rw[List.all_cons,Bool.and_eq_true] at h;exact⟨(Hk hr<|acQ h.1).z,ih h.2⟩
 exact fI.cells (by rw[he.length];exact hl) (hz _<|he.all l)<|List.all_eq_true.2 fun y hy=>JE<|List.all_eq_true.1 (he.all l) y hy
theorem XK(he:mh K enc)(W:List α){n bG:Nat}{l0 l:List<|Nat×AV}(hl:W.length*K<=top)(hn:270<=n)(iX:n<top)(hs:bG<top)(h:∀r:Nat->Nat,r 270=n->(∀k,top<=k->r k=k)->∀p∈l,p.1<top/\∃x,(p.1,x)∈l0/\lJ [] r x p.2):
 gY FU 270 bG l0 (aq++[(n,some<|aJ enc W)]) l (aq++[(270,some<|aJ enc W)]) 271:=by
 let r:Nat->Nat:=fun k=>if k=270 then n else if k<270\/top<=k then k else max k bG
 have r0:r 270=n:=if_pos rfl;have rl:∀k,k<270->r k=k:=fun k hk=>by show(if _ then _ else _)=_;rw[if_neg ah,if_pos<|.inl hk]
 have t0:270<top:=by unfold top;omega
 have rt:∀k,top<=k->r k=k:=fun k hk=>by show(if _ then _ else _)=_;rw[if_neg ah,if_pos<|.inr hk]
 have Gf:∀p∈aq,p.1<270:=fun p hp=>by obtain⟨k,hk,e⟩:=List.mem_map.1 hp;rw[←e];exact gZ k hk
 refine⟨[],r,rl,fun k h1 h2=>?_,rt,by unfold top;omega,h r r0 rt,fun p hp=>?_,fun p hp q hq _ _ e=>?_,fun p hp=>oh,fun p hp=>oh⟩
 ·show bG<=(if _ then _ else _)/\(if _ then _ else _)<top;rw[if_neg ah,if_neg ah];omega
 ·rcases List.mem_append.1 hp with hp|hp
  ·have cF:=Gf p hp;refine⟨by omega,fun y hy=>?_⟩;rw[rl _ cF];refine⟨by omega,?_,y,?_,fm.refl _,(GR (nx:=270) rl cC p hp y hy).z⟩
   ·exact Vg p hp y hy
   ·refine List.mem_append_left _ ?_;rw[←hy];exact hp
  ·rw[List.mem_singleton] at hp;subst hp;refine⟨t0,fun y hy=>?_⟩;cases hy;refine⟨by rw[r0];exact iX,rfl,_,by rw[r0];exact List.mem_append_right _<|List.mem_singleton.2 rfl,fm.refl _,G3 he W hl rt⟩
 ·have nm:∀p∈aq++[(270,some<|aJ enc W)],p.1<270\/p.1=270:=fun p hp=>by
   rcases List.mem_append.1 hp with hp|hp
   ·exact .inl<|Gf p hp
   ·rw[List.mem_singleton] at hp;subst hp;exact .inr rfl
  rcases nm p hp with a|a<;>rcases nm q hq with b|b
  ·rw[rl _ a,rl _ b] at e;exact e
  ·rw[b,r0,rl _ a] at e;omega
  ·rw[a,r0,rl _ b] at e;omega
  ·rw[a,b]
def qO(k:Nat)(args:List AV)(v:AV):Prop:=∃l:List St,args=[.ab (nm<|bD l) 0 l.length]/\qW k l=true/\v= .ab (nm<|bD l) 0 l.length
theorem qO.bS(args:List AV)(v v':AV)(h:qO k args v)(h':qO k args v'):v=v':=by obtain⟨l,rfl,_,rfl⟩:=h;obtain⟨l',h1,_,rfl⟩:=h';injection h1 with h1 _
def o5(k:Nat):FuncId×KE:=(44,.val<|aY<|qO k)
def Mg(N L:Nat):List<|Nat×AV:=[(3,(.slice none 0<|.known 0)),(6,(.ab N 0 L)),(7,(i6<|(L:Int))),(8,i0)]
def Fy(N L:Nat):AF:=⟨44,aP<|Mg N L,max Tryz.f44.ntmps 1,[.code<|aW pg 44 [1,1,0,1,0,0],.inLoop<|aW pg 44 [1,1,0,1,0,0],.inBlock 0,.code<|aW pg 44 [1,1,1]],[],none⟩
def CP(N L:Nat)(W:List St)(i:Int):List<|Nat×AV:=[(3,(.slice (some (270,0)) (W.length)<|.ar W.length 10)),(6,(.ab N 0 L)),(7,(i6<|(L:Int))),(8,(i6 i))]
def uM(N L:Nat)(W:List St)(i:Int):AF:=⟨44,aP<|CP N L W i,max Tryz.f44.ntmps 1,[.code<|aW pg 44 [1,1,0,1,0,0],.inLoop<|aW pg 44 [1,1,0,1,0,0],.inBlock 0,.code<|aW pg 44 [1,1,1]],[],none⟩
theorem akp(N L:Nat):((Mg N L).map (fun q=>some q.2)=(Mg N L).map (fun q=>some q.2))/\(aq.map (fun q=>q.2)=aq.map (fun q=>q.2))/\(Fy N L=Fy N L/\aj aq 270=aj aq 270):=⟨rfl,rfl,rfl,rfl⟩
theorem go_c{v:AV}(mc:Mt [sq 6,o5 k] B)(H:av pg B 270 (Fin pg (aA Tryz.f44) fun y _=>y=v) (Fy N L)<|aj aq 270):av pg B 270 (Fin pg (aA Tryz.f44) fun y _=>y=v) (sF 44 Tryz.f44 [(.ab N 0 L)])<|aj aq 270:=wC mc (C:=(fun fr s1 _=>fr=Fy N L/\s1=aj aq 270)) nN (.st 9<|.ls (Mg N L) aq 270 .no)<|akp N L
noncomputable abbrev KS(N L:Nat):List<|Nat×AV:=[(3,(.slice (some (272,0)) (1)<|.ar 1 10)),(6,(.ab N 0 L)),(7,(i6<|(L:Int))),(8,(i6<|.ofNat 1))]
noncomputable abbrev Es(kd to oa na:Int)(la:List Ex)(ob nb:Int)(lb:List Ex)(bd el:List St):List<|Nat×Option ae:=aq++[(270,some<|aJ ba<|[(St.mk kd to (Ex.mk oa na la) (Ex.mk ob nb lb) bd el)])]
theorem akr{nb:Int}(hn:top<=N)(hW:[(St.mk kd to (Ex.mk oa na la) (Ex.mk ob nb lb) bd el)].length<=20000):(((KS N L):List<|Nat×AV).map (fun q=>some q.2)=((KS N L):List<|Nat×AV).map (fun q=>some q.2))/\((aq++[(272,some<|aJ ba [(St.mk kd to (Ex.mk oa na la) (Ex.mk ob nb lb) bd el)])]:List<|Nat×Option ae).map (fun q=>q.2)=(aq++[(272,some<|aJ ba [(St.mk kd to (Ex.mk oa na la) (Ex.mk ob nb lb) bd el)])]:List<|Nat×Option ae).map (fun q=>q.2))/\gY FU 270 273 (KS N L) (aq++[(272,some<|aJ ba [(St.mk kd to (Ex.mk oa na la) (Ex.mk ob nb lb) bd el)])]) (CP N L ([(St.mk kd to (Ex.mk oa na la) (Ex.mk ob nb lb) bd el)]) 1) (Es kd to oa na la ob nb lb bd el) 271/\(uM N L ([(St.mk kd to (Ex.mk oa na la) (Ex.mk ob nb lb) bd el)]) 1=uM N L ([(St.mk kd to (Ex.mk oa na la) (Ex.mk ob nb lb) bd el)]) 1/\aj (Es kd to oa na la ob nb lb bd el) 271=aj (Es kd to oa na la ob nb lb bd el) 271):=
 ⟨rfl,rfl,XK lF [(St.mk kd to (Ex.mk oa na la) (Ex.mk ob nb lb) bd el)] (n:=272) (bG:=273) eX ah eX eX (fun r r0 r2 p hp=>by
  simp only[CP,List.mem_cons,List.not_mem_nil,or_false] at hp;rcases hp with rfl|rfl|rfl|rfl
  ·exact⟨by unfold top;omega,_,List.mem_cons_self,(bA.slice r0).z⟩
  ·exact⟨by unfold top;omega,_,(List.mem_cons_of_mem _ List.mem_cons_self),(bA.ab (r2 _ hn) r2).z⟩
  ·exact⟨by unfold top;omega,_,(List.mem_cons_of_mem _<|List.mem_cons_of_mem _ List.mem_cons_self),(bA.int _ _).z⟩
  ·exact⟨by unfold top;omega,_,(List.mem_cons_of_mem _<|List.mem_cons_of_mem _<|List.mem_cons_of_mem _ List.mem_cons_self),(bA.int _ _).z⟩),rfl,rfl⟩
noncomputable abbrev KU(kd to oa na:Int)(la:List Ex)(ob nb:Int)(lb:List Ex)(bd el:List St):List AV:=[(u8<|kd),(i6 to),(u8<|oa),(i6 na),(.ab (nm<|dz la) 0 la.length),(u8<|ob),(i6 nb),(.ab (nm<|dz lb) 0 lb.length),(.ab (nm<|bD bd) 0 bd.length),(.ab (nm<|bD el) 0 el.length)]
noncomputable abbrev Et(oa na:Int)(la:List Ex):AV:=.agg [(u8<|oa),(i6 na),(.ab (nm<|dz la) 0 la.length)]
noncomputable abbrev Eu(ob nb:Int)(lb:List Ex):AV:=.agg [(u8<|ob),(i6 nb),(.ab (nm<|dz lb) 0 lb.length)]
theorem aks{nb:Int}{v:AV}(mc:Mt [sq 6,o5 k] B)(hn:top<=N)(hL:L<=10000)(hx:cx FU N (0+(0:Int).toNat*10+0) 10=some (KU kd to oa na la ob nb lb bd el))(hA:bp (aY<|sk 6) [(Et oa na la)]=some (Et oa na la))(hB:bp (aY<|sk 6) [(Eu ob nb lb)]=some (Eu ob nb lb))(hD:bp (aY<|qO k) [(.ab (nm<|bD bd) 0 bd.length)]=some (.ab (nm<|bD bd) 0 bd.length))(hE:bp (aY<|qO k) [(.ab (nm<|bD el) 0 el.length)]=some (.ab (nm<|bD el) 0 el.length))(hW:[(St.mk kd to (Ex.mk oa na la) (Ex.mk ob nb lb) bd el)].length<=20000)(h1:(0:Int)<(L:Int))(H:av pg B 270 (Fin pg (aA Tryz.f44) fun y _=>y=v) (uM N L ([(St.mk kd to (Ex.mk oa na la) (Ex.mk ob nb lb) bd el)]) 1)<|aj (Es kd to oa na la ob nb lb bd el) 271):av pg B 270 (Fin pg (aA Tryz.f44) fun y _=>y=v) (Fy N L)<|aj aq 270:=wC mc (C:=(fun fr s1 _=>fr=uM N L ([(St.mk kd to (Ex.mk oa na la) (Ex.mk ob nb lb) bd el)]) 1/\s1=aj (Es kd to oa na la ob nb lb bd el) 271)) nN (.st 1<|.rg<|.fk (.en<|.st 6<|.rg<|.eG<|.eH (KU kd to oa na la ob nb lb bd el)<|.go 2<|.en<|.st 1<|.rg<|.go 2<|.kn (Et oa na la)<|.go 2<|.kn (Eu ob nb lb)<|.go 2<|.kn (.ab (nm<|bD bd) 0 bd.length)<|.go 2<|.kn (.ab (nm<|bD el) 0 el.length)<|.go 8<|.en<|.st 4<|.rn (KS N L) (aq++[(272,(some<|aJ ba [(St.mk kd to (Ex.mk oa na la) (Ex.mk ob nb lb) bd el)]))]) (CP N L ([(St.mk kd to (Ex.mk oa na la) (Ex.mk ob nb lb) bd el)]) 1) (Es kd to oa na la ob nb lb bd el) 273 271 .no)<|.no)<|ax ((0:Int)<(L:Int)) (fun _=>(eZ (0:Int) (L:Int)<|ai hn<|ai hx<|ai hA<|ai hB<|ai hD<|ai hE<|akr (N:=N) (L:=L) (kd:=kd) (to:=to) (oa:=oa) (na:=na) (la:=la) (ob:=ob) (nb:=nb) (lb:=lb) (bd:=bd) (el:=el) hn hW)) eN
noncomputable abbrev KV(W:List St)(kd to oa na:Int)(la:List Ex)(ob nb:Int)(lb:List Ex)(bd el:List St)(N L:Nat)(i:Int):List<|Nat×AV:=[(3,(.slice (some (273,0)) ((W++[(St.mk kd to (Ex.mk oa na la) (Ex.mk ob nb lb) bd el)]).length)<|.ar (W++[(St.mk kd to (Ex.mk oa na la) (Ex.mk ob nb lb) bd el)]).length 10)),(6,(.ab N 0 L)),(7,(i6<|(L:Int))),(8,(i6<|(i+1)))]
noncomputable abbrev Ew(W:List St)(kd to oa na:Int)(la:List Ex)(ob nb:Int)(lb:List Ex)(bd el:List St):List<|Nat×Option ae:=aq++[(270,some<|aJ ba<|W++[(St.mk kd to (Ex.mk oa na la) (Ex.mk ob nb lb) bd el)])]
theorem akt{nb:Int}(hn:top<=N)(hW:(W++[(St.mk kd to (Ex.mk oa na la) (Ex.mk ob nb lb) bd el)]).length<=20000):(((KV W kd to oa na la ob nb lb bd el N L i):List<|Nat×AV).map (fun q=>some q.2)=((KV W kd to oa na la ob nb lb bd el N L i):List<|Nat×AV).map (fun q=>some q.2))/\((aq++[(273,some<|aJ ba<|W++[(St.mk kd to (Ex.mk oa na la) (Ex.mk ob nb lb) bd el)])]:List<|Nat×Option ae).map (fun q=>q.2)=(aq++[(273,some<|aJ ba<|W++[(St.mk kd to (Ex.mk oa na la) (Ex.mk ob nb lb) bd el)])]:List<|Nat×Option ae).map (fun q=>q.2))/\gY FU 270 274 (KV W kd to oa na la ob nb lb bd el N L i) (aq++[(273,some<|aJ ba<|W++[(St.mk kd to (Ex.mk oa na la) (Ex.mk ob nb lb) bd el)])]) (CP N L (W++[(St.mk kd to (Ex.mk oa na la) (Ex.mk ob nb lb) bd el)])<|i+1) (Ew W kd to oa na la ob nb lb bd el) 271/\(uM N L (W++[(St.mk kd to (Ex.mk oa na la) (Ex.mk ob nb lb) bd el)]) (i+1)=uM N L (W++[(St.mk kd to (Ex.mk oa na la) (Ex.mk ob nb lb) bd el)]) (i+1)/\aj (Ew W kd to oa na la ob nb lb bd el) 271=aj (Ew W kd to oa na la ob nb lb bd el) 271):=
 ⟨rfl,rfl,XK lF (W++[(St.mk kd to (Ex.mk oa na la) (Ex.mk ob nb lb) bd el)]) (n:=273) (bG:=274) eX ah eX eX (fun r r0 r2 p hp=>by
  simp only[CP,List.mem_cons,List.not_mem_nil,or_false] at hp;rcases hp with rfl|rfl|rfl|rfl
  ·exact⟨by unfold top;omega,_,List.mem_cons_self,(bA.slice r0).z⟩
  ·exact⟨by unfold top;omega,_,(List.mem_cons_of_mem _ List.mem_cons_self),(bA.ab (r2 _ hn) r2).z⟩
  ·exact⟨by unfold top;omega,_,(List.mem_cons_of_mem _<|List.mem_cons_of_mem _ List.mem_cons_self),(bA.int _ _).z⟩
  ·exact⟨by unfold top;omega,_,(List.mem_cons_of_mem _<|List.mem_cons_of_mem _<|List.mem_cons_of_mem _ List.mem_cons_self),(bA.int _ _).z⟩),rfl,rfl⟩
theorem aku{nb:Int}{v:AV}(mc:Mt [sq 6,o5 k] B)(hn:top<=N)(hi:0<=i)(hL:L<=10000)(hx:cx FU N (0+i.toNat*10+0) 10=some (KU kd to oa na la ob nb lb bd el))(hA:bp (aY<|sk 6) [(Et oa na la)]=some (Et oa na la))(hB:bp (aY<|sk 6) [(Eu ob nb lb)]=some (Eu ob nb lb))(hD:bp (aY<|qO k) [(.ab (nm<|bD bd) 0 bd.length)]=some (.ab (nm<|bD bd) 0 bd.length))(hE:bp (aY<|qO k) [(.ab (nm<|bD el) 0 el.length)]=some (.ab (nm<|bD el) 0 el.length))(hW:(W++[(St.mk kd to (Ex.mk oa na la) (Ex.mk ob nb lb) bd el)]).length<=20000)(h1:i<(L:Int))(H:av pg B 270 (Fin pg (aA Tryz.f44) fun y _=>y=v) (uM N L (W++[(St.mk kd to (Ex.mk oa na la) (Ex.mk ob nb lb) bd el)])<|i+1)<|aj (Ew W kd to oa na la ob nb lb bd el) 271):av pg B 270 (Fin pg (aA Tryz.f44) fun y _=>y=v) (uM N L W i)<|aj (aq++[(270,some<|aJ ba W)]) 271:=wC mc (C:=(fun fr s1 _=>fr=uM N L (W++[(St.mk kd to (Ex.mk oa na la) (Ex.mk ob nb lb) bd el)]) (i+1)/\s1=aj (Ew W kd to oa na la ob nb lb bd el) 271)) nN (.st 1<|.rg<|.fk (.en<|.st 6<|.rg<|.eG<|.eH (KU kd to oa na la ob nb lb bd el)<|.go 2<|.en<|.st 1<|.rg<|.go 2<|.kn (Et oa na la)<|.go 2<|.kn (Eu ob nb lb)<|.go 2<|.kn (.ab (nm<|bD bd) 0 bd.length)<|.go 2<|.kn (.ab (nm<|bD el) 0 el.length)<|.go 8<|.en<|.rg<|.go 3<|.ap St ba W (St.mk kd to (Ex.mk oa na la) (Ex.mk ob nb lb) bd el)<|.go 1<|.en<|.st 1<|.rg<|.vl (i6<|i+1)<|.go 1<|.en<|.st 1<|.rn (KV W kd to oa na la ob nb lb bd el N L i) (aq++[(273,(some<|aJ ba<|W++[(St.mk kd to (Ex.mk oa na la) (Ex.mk ob nb lb) bd el)]))]) (CP N L (W++[(St.mk kd to (Ex.mk oa na la) (Ex.mk ob nb lb) bd el)])<|i+1) (Ew W kd to oa na la ob nb lb bd el) 274 271 .no)<|.no)<|ax (i<(L:Int)) (fun _=>(eZ i (L:Int)<|ai hn<|ai hx<|ai hA<|ai hB<|ai hD<|ai hE<|wW ba W (St.mk kd to (Ex.mk oa na la) (Ex.mk ob nb lb) bd el) (K:=10) (j9:=144) (fun x=>⟨lF.len x,acP x⟩) (by rw[List.length_append] at hW;unfold room;omega) (by rw[List.length_append] at hW;unfold top;omega)<|ai (wI<|i+1)<|akt (N:=N) (L:=L) (W:=W) (i:=i) (kd:=kd) (to:=to) (oa:=oa) (na:=na) (la:=la) (ob:=ob) (nb:=nb) (lb:=lb) (bd:=bd) (el:=el) hn hW)) eN
theorem akv:(([(2,(.slice none 0<|.known 0))]:List<|Nat×AV).map (fun q=>some q.2)=([(2,(.slice none 0<|.known 0))]:List<|Nat×AV).map (fun q=>some q.2))/\(([]:List<|Nat×Option ae).map (fun q=>q.2)=([]:List<|Nat×Option ae).map (fun q=>q.2))/\gY FU 270 270 [(2,(.slice none 0<|.known 0))] [] [(2,aD ba ([]:List St))] [] 270/\((⟨44,aP [(2,aD ba ([]:List St))],max Tryz.f44.ntmps 1,(dt 44 [1,1,1,1]),[],none⟩:AF)=⟨44,aP [(2,aD ba ([]:List St))],max Tryz.f44.ntmps 1,(dt 44 [1,1,1,1]),[],none⟩/\aj [] 270=aj [] 270):=⟨rfl,rfl,(PS (enc:=ba) (j:=2) (bG:=270) eX eX),rfl,rfl⟩
theorem akw(mc:Mt [sq 6,o5 k] B):av pg B 270 (Fin pg (aA Tryz.f44) fun y _=>y=(aD ba ([]:List St))) ⟨44,aP [(2,aD ba ([]:List St))],max Tryz.f44.ntmps 1,(dt 44 [1,1,1,1]),[],none⟩<|aj [] 270:=wS mc (.rt 1 .no)<|xg<|aD ba ([]:List St)
theorem akx(mc:Mt [sq 6,o5 k] B)(h1:(L:Int)<=0):av pg B 270 (Fin pg (aA Tryz.f44) fun y _=>y=(aD ba ([]:List St))) (Fy N L)<|aj aq 270:=wC mc (C:=(fun fr s1 _=>fr=⟨44,aP [(2,aD ba ([]:List St))],max Tryz.f44.ntmps 1,(dt 44 [1,1,1,1]),[],none⟩/\s1=aj [] 270)) (fun fr s1 p hC=>by obtain⟨rfl,rfl⟩:=hC;exact akw mc) (.st 1<|.rg<|.fk (.no)<|.en<|.st 5<|.rn [(2,(.slice none 0<|.known 0))] [] [(2,aD ba ([]:List St))] [] 270 270 .no)<|ax ((0:Int)<(L:Int)) eN fun _=>(akv)
theorem aky(W:List St)(hW:W.length<=20000):(([(2,(.slice (some (270,0)) (W.length)<|.ar W.length 10))]:List<|Nat×AV).map (fun q=>some q.2)=([(2,(.slice (some (270,0)) (W.length)<|.ar W.length 10))]:List<|Nat×AV).map (fun q=>some q.2))/\(([(270,some<|aJ ba W)]:List<|Nat×Option ae).map (fun q=>q.2)=([(270,some<|aJ ba W)]:List<|Nat×Option ae).map (fun q=>q.2))/\gY FU 270 271 [(2,(.slice (some (270,0)) (W.length)<|.ar W.length 10))] [(270,some<|aJ ba W)] [(2,aD ba W)] [] 270/\((⟨44,aP [(2,aD ba W)],max Tryz.f44.ntmps 1,(dt 44 [1,1,1,1]),[],none⟩:AF)=⟨44,aP [(2,aD ba W)],max Tryz.f44.ntmps 1,(dt 44 [1,1,1,1]),[],none⟩/\aj [] 270=aj [] 270):=⟨rfl,rfl,(PR (j:=2) (n:=270) (bG:=271) lF W rfl eX eX eX eX),rfl,rfl⟩
theorem akz(mc:Mt [sq 6,o5 k] B)(W:List St):av pg B 270 (Fin pg (aA Tryz.f44) fun y _=>y=(aD ba W)) ⟨44,aP [(2,aD ba W)],max Tryz.f44.ntmps 1,(dt 44 [1,1,1,1]),[],none⟩<|aj [] 270:=wS mc (.rt 1 .no)<|xg<|aD ba W
theorem akA(mc:Mt [sq 6,o5 k] B)(h1:(L:Int)<=i)(hW:W.length<=20000):av pg B 270 (Fin pg (aA Tryz.f44) fun y _=>y=(aD ba W)) (uM N L W i)<|aj (aq++[(270,some<|aJ ba W)]) 271:=wC mc (C:=(fun fr s1 _=>fr=⟨44,aP [(2,aD ba W)],max Tryz.f44.ntmps 1,(dt 44 [1,1,1,1]),[],none⟩/\s1=aj [] 270)) (fun fr s1 p hC=>by obtain⟨rfl,rfl⟩:=hC;exact akz mc W) (.st 1<|.rg<|.fk (.no)<|.en<|.st 5<|.rn [(2,(.slice (some (270,0)) (W.length)<|.ar W.length 10))] [(270,some<|aJ ba W)] [(2,aD ba W)] [] 271 270 .no)<|ax (i<(L:Int)) eN fun _=>(aky W hW)
end
end hI
end
section
open Go Go.Rn Go.RowKit Go.Proofs
namespace LC
open cr cU dk dB fc gK AI dM fQ yP wD yv qV n7 Ig LB hI
variable {k:Nat}
theorem Wc(l:List St):AV.ab (nm<|bD l) 0 l.length=aD ba l:=by rw[vy];rfl
theorem JU{l:List St}(h:qW k l=true):bp (aY<|qO k) [.ab (nm<|bD l) 0 l.length]=some (.ab (nm<|bD l) 0 l.length):=fu (ff qO.bS ⟨l,rfl,h,rfl⟩) (by rw[List.all_cons,uj];rfl)<|uj l
theorem abX(hP:bC pg)(h':aV [sq 6,o5 k]){L:bV}(h:aV L):aV<|o5 (k+1)::L:=by
 refine g9 hP h h' Tryz.func44 fun args v e=>?_;obtain⟨l,rfl,hg,rfl⟩:=gf e;refine⟨aL.1 aZ,fun B mc=>?_⟩;rw[←gN];have hg:(decide (l.length<=10000)&&l.all fun s=>pG 6 (iC s)&&(pG 6 (ib s)&&(qW k (ct s)&&qW k (cm s))))=true:=hg;rw[Bool.and_eq_true,decide_eq_true_eq,List.all_eq_true] at hg;obtain⟨hlen,hd⟩:=hg;have qq:∀s∈l,pG 6 (iC s)=true/\pG 6 (ib s)=true/\qW k (ct s)=true/\qW k (cm s)=true:=fun s hs=>by have:=hd s hs;rw[Bool.and_eq_true,Bool.and_eq_true,Bool.and_eq_true] at this;exact this
 refine go_c mc ?_;cases l with
 |nil=>have:=akx (N:=nm<|bD []) (L:=0) mc ah;rw[←Wc] at this;exact this
 |cons a0 l0=>
  have key:∀(r:List St) (i:Nat),(a0::l0).drop i=r->1<=i->i<=(a0::l0).length->av pg B 270 (Fin pg (aA Tryz.f44) fun y _=>y= .ab (nm<|bD<|a0::l0) 0 (a0::l0).length) (uM (nm<|bD<|a0::l0) (a0::l0).length ((a0::l0).take i) i) (aj (aq++[(270,some<|aJ ba<|(a0::l0).take i)]) 271):=by
   generalize hl:a0::l0=l at*;intro r;induction r with
   |nil=>intro i hr _ hle;have hi:l.length<=i:=List.drop_eq_nil_iff.1 hr;have e:l.take i=l:=List.take_of_length_le hi;rw[e];have:=akA (N:=nm<|bD l) (L:=l.length) (W:=l) (i:=(i:Int)) mc ah ah;rw[←Wc] at this;exact this
   |cons a r ih=>
    intro i hr h1 hle;have cF:i<l.length:=by
     by_cases q:i<l.length
     ·exact q
     ·rw[List.drop_of_length_le ah] at hr;cases hr
    have ha:l[i]? =some a:=by have:=congrArg (fun q=>q[0]?) hr;simp only[List.getElem?_drop,List.getElem?_cons_zero,Nat.add_zero] at this;exact this
    have hm:a∈l:=List.mem_of_getElem? ha;have lT:l.drop (i+1)=r:=by have:=congrArg (List.drop 1) hr;rw[List.drop_drop] at this;exact this
    have qc:=ih (i+1) lT ah ah;rw[List.take_add_one,ha] at qc;obtain⟨g1,g2,g3,g4⟩:=qq a hm;have hx:=GU ha (z:=(i:Int)) ah;obtain⟨kd,to,⟨oa,na,la⟩,⟨ob,nb,lb⟩,bd,el⟩:=a;have cA:=Ef (k:=6) g1;have cB:=Ef (k:=6) g2;have cD:=JU g3;have cE:=JU g4;simp only[iC,ib,ct,cm] at cA cB cD cE;rw[aM] at cA cB;rw[ba,aM,aM] at hx;exact aku (i:=(i:Int)) (W:=l.take i) mc (cV _) ah hlen hx cA cB cD cE (by rw[List.length_append,List.length_take];show _+1<=20000;omega) ah qc
  have qc:=key l0 1 rfl ah (by show 1<=l0.length+1;omega);rw[List.take_succ_cons,List.take_zero] at qc;obtain⟨g1,g2,g3,g4⟩:=qq a0 List.mem_cons_self;have hx:=GU (l:=a0::l0) (i:=0) (a:=a0) rfl (z:=(0:Int)) rfl;obtain⟨kd,to,⟨oa,na,la⟩,⟨ob,nb,lb⟩,bd,el⟩:=a0;have cA:=Ef (k:=6) g1;have cB:=Ef (k:=6) g2;have cD:=JU g3;have cE:=JU g4;simp only[iC,ib,ct,cm] at cA cB cD cE;rw[aM] at cA cB;rw[show ba (St.mk kd to (Ex.mk oa na la) (Ex.mk ob nb lb) bd el)=_ from by rw[ba,aM,aM]] at hx;exact aks mc (cV _) hlen hx cA cB cD cE (by show 1<=20000;omega) (by show(0:Int)<((l0.length+1:Nat):Int);omega) qc
theorem Ux(hP:bC pg):∀(k:Nat) {L:bV},aV L->aV (o5 k::L)
 |0,L,h=>by refine g9 hP h cN Tryz.func44 fun args v e=>?_;obtain⟨_,_,hd,_⟩:=gf e;cases hd
 |k+1,L,h=>abX hP (OT hP 6<|Ux hP k cN) h
end LC
end
section
open Go Go.Rn Go.RowKit Go.Proofs
namespace YC
open cr fQ hI
variable {left:List<|Int×Int} {cur:Option<|AV×AV} {v0 k0:Int}
noncomputable section
def l0:List<|Nat×AV:=[(0,.map<|some 270),(1,.map<|some 271),(6,.map<|some 271),(7,.ptr<|some (272,0))]
def lx(k v:Int):List<|Nat×AV:=[(0,.map<|some 270),(1,.map<|some 271),(4,.int .i64 k),(5,.int .i64 v),(6,.map<|some 271),(7,.ptr<|some (272,0)),(8,.tuple [.bool true,.int .i64 k,.int .i64 v]),(9,.bool true),(10,.tuple [.int .i64 k,.int .i64 v]),(11,.int .i64 k),(12,.int .i64 v),(13,.map<|some 270),(14,.int .i64 k),(15,.int .i64 v)]
def KN:List Item:=[.code<|aW pg 109 [1,0,0,1],.inLoop<|aW pg 109 [1,0,0],.inBlock 0]
def oA(t:Tr AV):AF:=⟨109,t,max Tryz.f109.ntmps 2,.code (aW pg 109 [1,0,0,0])::KN,[],none⟩
def jx(m2 d left:List<|Int×Int)(cur:Option<|AV×AV):AS:=aj (aq++[(270,some<|bM d),(271,some .jQ),(272,some<|.iter 271 (di m2) false (di left) cur)]) 273
def IS:Oper:=(opsOf<|aW pg 109 [1,0,0,0]).toList.headD default
def Ih:Array Oper:=opsOf<|aW pg 109 [1,0,0,0]
def HF:List Oper:=(opsOf<|aW pg 109 [1,0,0,0]).toList.tail
def nO(t:Tr AV)(v:AV)(b:Bool):AF:=⟨109,(t.put 8<|some v).put 9<|some<|.bool b,max Tryz.f109.ntmps 2,KN,[],none⟩
def R3:Env:=wA pg 270 eC dW [] 272 true
theorem asks(t:Tr AV):DX (oA t)=some (.tmp 7,IS,Ih,HF,KN):=by kernel_rfl
theorem ai2{m2 d:List<|Int×Int}:vD (oA<|aP l0) (.tmp 7) (jx m2 d left cur)= .ok (272,.iter 271 (di m2) false (di left) cur) (jx m2 d left cur):=by kernel_rfl
theorem XL{m2 d:List<|Int×Int}{k v:Int}:vD (oA<|aP<|lx k v) (.tmp 7) (jx m2 d left cur)= .ok (272,.iter 271 (di m2) false (di left) cur) (jx m2 d left cur):=by kernel_rfl
theorem ai3{m2 d:List<|Int×Int}{SG:aO}:pS pg SG (oA<|aP l0) 272 271 (di m2) false IS Ih HF KN (jx m2 d left cur)= .ok (nO (aP l0) (.tuple [.bool false]) false) (aj (aq++[(270,some<|bM d),(271,some<|bM m2),(272,none)]) 273):=by kernel_rfl
theorem Lr{m2 d:List<|Int×Int}{SG:aO}{k v:Int}:pS pg SG (oA<|aP<|lx k v) 272 271 (di m2) false IS Ih HF KN (jx m2 d left cur)= .ok (nO (aP<|lx k v) (.tuple [.bool false]) false) (aj (aq++[(270,some<|bM d),(271,some<|bM m2),(272,none)]) 273):=by kernel_rfl
theorem is0{m2 d r:List<|Int×Int}{SG:aO}{k v:Int}:pW pg SG (oA<|aP l0) 272 (.iter 271 (di m2) false (di r)<|some (.int .i64 k,.int .i64 v)) IS Ih HF KN (.tuple [.bool true,.int .i64 k,.int .i64 v]) (jx m2 d left cur)= .ok (nO (aP l0) (.tuple [.bool true,.int .i64 k,.int .i64 v]) true) (jx m2 d r<|some (.int .i64 k,.int .i64 v)):=by kernel_rfl
theorem isX{m2 d r:List<|Int×Int}{SG:aO}{k v:Int}:pW pg SG (oA<|aP<|lx k0 v0) 272 (.iter 271 (di m2) false (di r)<|some (.int .i64 k,.int .i64 v)) IS Ih HF KN (.tuple [.bool true,.int .i64 k,.int .i64 v]) (jx m2 d left cur)= .ok (nO (aP<|lx k0 v0) (.tuple [.bool true,.int .i64 k,.int .i64 v]) true) (jx m2 d r<|some (.int .i64 k,.int .i64 v)):=by kernel_rfl
abbrev FM(m1 m2:List<|Int×Int):=Q5 270 pg (aA Tryz.f109) m1 m2
theorem KW:fH<=272:=Nat.le_trans gL ah
theorem YD(m2 d r:List<|Int×Int)(k v:Int)(fr:AF):(some (bM d)=some (bM d))/\(fr=fr/\jx m2 (gD d k v) r (some (.int .i64 k,.int .i64 v))=jx m2 (gD d k v) r (some (.int .i64 k,.int .i64 v))):=⟨rfl,rfl,rfl⟩
section
variable {B:aI} {m1 m2 d r:List<|Int×Int} {k v:Int}
theorem ai4(mc:Mt [] B)(H:av pg B 272 (FM m1 m2) (oA<|aP<|lx k v)<|jx m2 (gD d k v) r<|some (.int .i64 k,.int .i64 v)):
 av pg B 272 (FM m1 m2) (nO (aP l0) (.tuple [.bool true,.int .i64 k,.int .i64 v]) true) (jx m2 d r<|some (.int .i64 k,.int .i64 v)):=
 yb (E:=R3) (C:=fun fr s1 _=>fr=oA (aP<|lx k v)/\s1=jx m2 (gD d k v) r (some (.int .i64 k,.int .i64 v))) eJ rfl bU mc.2.2.1 mc.2.2.2 KW rfl mc.1 nN 900 (.st 6<|.rg<|.go 3<|.Mw d<|.en<|.st 3<|.cut .no) (YD m2 d r k v<|oA<|aP<|lx k v)
theorem ai5(mc:Mt [] B)(H:av pg B 272 (FM m1 m2) (oA<|aP<|lx k v)<|jx m2 (gD d k v) r<|some (.int .i64 k,.int .i64 v)):
 av pg B 272 (FM m1 m2) (nO (aP<|lx k0 v0) (.tuple [.bool true,.int .i64 k,.int .i64 v]) true) (jx m2 d r<|some (.int .i64 k,.int .i64 v)):=
 yb (E:=R3) (C:=fun fr s1 _=>fr=oA (aP<|lx k v)/\s1=jx m2 (gD d k v) r (some (.int .i64 k,.int .i64 v))) eJ rfl bU mc.2.2.1 mc.2.2.2 KW rfl mc.1 nN 900 (.st 6<|.rg<|.go 3<|.Mw d<|.en<|.st 3<|.cut .no) (YD m2 d r k v<|oA<|aP<|lx k v)
theorem XM{m1 m2 d:List<|Int×Int}(hk:fZ m1)(hp:d.Perm<|jf m1 m2):gY FU 272 273 [(9,.bool false)] [(270,some<|bM d),(271,some<|bM m2)] [(9,.bool false)] [(270,some<|bM<|jf m1 m2),(271,some<|bM m2)] 272:=by
 let r:Nat->Nat:=fun k=>if k<272\/top<=k then k else max k 273
 have t0:272<top:=by unfold top;omega
 have rl:∀k,k<272->r k=k:=fun k hk=>if_pos<|.inl hk;refine⟨[],r,rl,fun k h1 h2=>?_,fun k hk=>if_pos<|.inr hk,by omega,fun p hp=>?_,fun p hp=>?_,fun p hp q hq _ _ e=>?_,fun p hp=>oh,fun p hp=>oh⟩
 ·show 273<=(if _ then _ else _)/\(if _ then _ else _)<top;rw[if_neg ah];have:273<top:=by unfold top;omega
  omega
 ·rw[List.mem_singleton] at hp;subst hp;exact⟨by show 9<top;omega,_,List.mem_singleton.2 rfl,(bA.bool _).z⟩
 ·rcases List.mem_cons.1 hp with rfl|hp
  ·refine⟨by show 270<top;omega,fun y hy=>?_⟩;cases hy;rw[rl 270 ah];exact⟨by omega,rfl,_,List.mem_cons_self,⟨fun _=>rfl,(fun e=>by cases e),fun e=>by cases e⟩,fun ρ fA N o _ h=>abK hk.merge (by assumption) h⟩
  ·rw[List.mem_singleton] at hp;subst hp;refine⟨by show 271<top;omega,fun y hy=>?_⟩;cases hy;rw[rl 271 ah];exact⟨by omega,rfl,_,List.mem_cons_of_mem _ List.mem_cons_self,fm.refl _,fun ρ fA N o _ h=>xI h⟩
 ·rcases List.mem_cons.1 hp with rfl|hp<;>rcases List.mem_cons.1 hq with rfl|hq
  ·rfl
  ·rw[List.mem_singleton] at hq;subst hq;rw[rl _ ah,rl _ ah] at e;exact e
  ·rw[List.mem_singleton] at hp;subst hp;rw[rl _ ah,rl _ ah] at e;exact e
  ·rw[List.mem_singleton] at hp hq;subst hp;subst hq;rfl
def akB(m1 m2:List<|Int×Int)(s':AS)(y:AV):Prop:=y= .tuple []/\s'.h.get 270=some (bM<|jf m1 m2)/\s'.h.get 271=some (bM m2)
theorem akC(m1 m2:List<|Int×Int):akB m1 m2 (aj [(270,some<|bM<|jf m1 m2),(271,some<|bM m2)] 272)<|.tuple []:=⟨rfl,by kernel_rfl,by kernel_rfl⟩
theorem YE(mc:Mt [] B):av pg B 272 (FM m1 m2) ⟨109,aP [(9,.bool false)],max Tryz.f109.ntmps 2,KN,[],none⟩<|aj [(270,some<|bM<|jf m1 m2),(271,some<|bM m2)] 272:=l9 (E:=R3) eJ rfl bU mc.2.2.1 mc.2.2.2 900 (.rt 4 .no)<|akC m1 m2
theorem ai6(mc:Mt [] B)(hk:fZ m1)(hp:d.Perm<|jf m1 m2):av pg B 272 (FM m1 m2) (nO (aP l0) (.tuple [.bool false]) false)<|aj (aq++[(270,some<|bM d),(271,some<|bM m2),(272,none)]) 273:=av.rn (l0:=[(9,.bool false)]) (o0:=[(270,some<|bM d),(271,some<|bM m2)]) KW cC cC (by rw[mc.1];exact XM hk hp)<|YE mc
theorem ai7(mc:Mt [] B)(hk:fZ m1)(hp:d.Perm<|jf m1 m2):av pg B 272 (FM m1 m2) (nO (aP<|lx k0 v0) (.tuple [.bool false]) false)<|aj (aq++[(270,some<|bM d),(271,some<|bM m2),(272,none)]) 273:=av.rn (l0:=[(9,.bool false)]) (o0:=[(270,some<|bM d),(271,some<|bM m2)]) KW cC cC (by rw[mc.1];exact XM hk hp)<|YE mc
theorem Hc(h:di left=[]):left=[]:=by cases left with|nil=>rfl|cons _ _=>cases h
theorem ai8(mc:Mt [] B)(hk:fZ m1)(MI:fZ m2):∀(n:Nat) (left Gg d:List<|Int×Int) (k v:Int) (cur:Option<|AV×AV),left.length=n->m2.Perm (Gg++left)->d=jf m1 Gg->
 av pg B 272 (FM m1 m2) (oA<|aP<|lx k v) (jx m2 d left cur):=by
 intro n;induction n with
 |zero=>intro left Gg d k v cur hn hp hd;have hl:=List.eq_nil_of_length_eq_zero hn;subst hl;refine av.next mc.2.2.1 mc.2.2.2 (asks _) (by show 272<=273;omega) XL (fun _=>⟨_,_,Lr,ai7 mc hk ?_⟩) (fun x r h=>by cases h);rw[hd,List.append_nil] at*;exact abI hk ((hp.map (·.1)).nodup_iff.1 MI) hp.symm
 |succ n ih=>intro left Gg d k v cur hn hp hd;refine av.next mc.2.2.1 mc.2.2.2 (asks _) (by show 272<=273;omega) XL (fun h=>by rw[Hc h] at hn;cases hn) fun x r h=>?_;obtain⟨p,l',rfl,rfl,MJ⟩:=Of h;refine⟨_,_,isX,ai5 mc ?_⟩;refine ih l' (Gg++[p]) _ _ _ _ (by have:=MJ.length_eq;rw[List.length_cons] at this;omega) ?_ (by rw[abJ,hd]);rw[List.append_assoc];exact hp.trans<|MJ.append_left Gg
theorem ai9(mc:Mt [] B)(hk:fZ m1)(MI:fZ m2):av pg B 272 (FM m1 m2) (oA<|aP l0)<|jx m2 m1 m2 none:=by
 refine av.next mc.2.2.1 mc.2.2.2 (asks _) (by show 272<=273;omega) ai2 (fun h=>⟨_,_,ai3,ai6 mc hk ?_⟩) fun x r h=>?_
 ·rw[Hc h];exact List.Perm.refl _
 ·obtain⟨p,l',rfl,rfl,MJ⟩:=Of h;refine⟨_,_,is0,ai4 mc ?_⟩;exact ai8 mc hk MI l'.length l' [p] _ _ _ _ rfl MJ rfl
end
def Dp:FuncId×KE:=(109,.raw w8)
theorem ahp(hP:bC pg){L:bV}(h:aV L):aV<|Dp::L:=by refine agU hP gL (aL.1 aZ) ir gZ kI kl h cN Tryz.func109 (body:=aW pg 109 []) aZ aZ fun m1 m2 k1 k2=>?_;refine⟨aL.1 aZ,fun B mc=>?_⟩;exact av.chunk (k:=5) (aQ:=oA<|aP l0) (s1:=jx m2 m1 m2 none) bU mc.2.2.1 mc.2.2.2 cC (by show 272<=272;omega)<|ai9 mc k1 k2
end
end YC
end
section
open Go Go.Rn Go.RowKit Go.Proofs
namespace kK
open cr fQ hI fF
variable {r:Nat->Nat} {o0:List<|Nat×Option ae} {lo bG:Nat} {ps:List<|Nat×Nat} {b a:List<|Int×Int}
def mu(ps:List<|Nat×Nat)(lo bG k:Nat):Nat:=match ps.find? fun p=>Nat.beq p.1 k with
 |some p=>p.2
 |none=>if k<lo\/top<=k then k else max k bG
def xh(ps:List<|Nat×Nat)(lo bG nx:Nat)(names:List Nat):Bool:=ps.all (fun p=>Nat.ble lo p.1&&(Nat.blt p.1 nx&&(Nat.ble lo p.2&&Nat.blt p.2 top)))&&(Nat.ble lo nx&&(Nat.ble nx top&&(Nat.blt bG top&&(names.all fun m=>Nat.blt m lo||ps.any fun p=>Nat.beq p.1 m))))
def FA(ps:List<|Nat×Nat):Bool:=ps.all fun p=>ps.all fun q=> !(Nat.beq p.2 q.2)||Nat.beq p.1 q.1
def Dq(r:Nat->Nat)(l0:List<|Nat×AV):List (Nat×AV)->Prop
 |[]=>True
 |p::l=>(p.1<top/\∃x,(p.1,x)∈l0/\lJ [] r x p.2)/\Dq r l0 l
def xj(r:Nat->Nat)(o0:List<|Nat×Option ae):List (Nat×Option ae)->Prop
 |[]=>True
 |p::l=>(∀y,p.2=some y->y.l7=true/\∃x,(r p.1,some x)∈o0/\fm x y/\fI [] r x y)/\xj r o0 l
theorem Dq.mem{l0:List<|Nat×AV}:∀{l:List<|Nat×AV},Dq r l0 l->∀p∈l,p.1<top/\∃x,(p.1,x)∈l0/\lJ [] r x p.2
 |[],_,p,hp=>by cases hp
 |a::l,h,p,hp=>by
  rcases List.mem_cons.1 hp with rfl|hp
  ·exact h.1
  ·exact Dq.mem h.2 p hp
theorem xj.mem:∀{l:List<|Nat×Option ae},xj r o0 l->∀p∈l,∀y,p.2=some y->y.l7=true/\∃x,(r p.1,some x)∈o0/\fm x y/\fI [] r x y
 |[],_,p,hp=>by cases hp
 |a::l,h,p,hp=>by
  rcases List.mem_cons.1 hp with rfl|hp
  ·exact h.1
  ·exact xj.mem h.2 p hp
theorem Cu{nx:Nat}{l0 l:List<|Nat×AV}{o:List<|Nat×Option ae}(gI:270<=lo)(hb:xh ps lo bG nx (o.map (·.1))=true)(hi:FA ps=true)(hl:∀r,r=mu ps lo bG->(∀k,top<=k->r k=k)->Dq r l0 l)(ho:∀r,r=mu ps lo bG->(∀k,top<=k->r k=k)->xj r o0 o):
 gY FU lo bG l0 (aq++o0) l (aq++o) nx:=by
 unfold xh at hb;obtain⟨b1,hb⟩:=and_true.1 hb;obtain⟨b2,hb⟩:=and_true.1 hb;obtain⟨b3,hb⟩:=and_true.1 hb;obtain⟨b4,b5⟩:=and_true.1 hb;have b2:=aL.1 b2;have b3:=aL.1 b3;have b4:=(blt_eq _ _).mp b4;have u0:∀p∈ps,lo<=p.1/\p.1<nx/\lo<=p.2/\p.2<top:=fun p hp=>by have:=List.all_eq_true.1 b1 p hp;obtain⟨c1,c2⟩:=and_true.1 this;obtain⟨c2,c3⟩:=and_true.1 c2;obtain⟨c3,c4⟩:=and_true.1 c3;exact⟨aL.1 c1,(blt_eq _ _).mp c2,aL.1 c3,(blt_eq _ _).mp c4⟩
 have none_:∀k,(k<lo\/nx<=k)->(ps.find? fun p=>Nat.beq p.1 k)=none:=fun k hk=>by refine List.find?_eq_none.2 fun p hp=>?_;obtain⟨c1,c2,_⟩:=u0 p hp;rw[eB];omega
 let r:=mu ps lo bG;have rl:∀k,k<lo->r k=k:=fun k hk=>by show mu ps lo bG k=k;unfold mu;rw[none_ k<|.inl hk];exact if_pos<|.inl hk
 have rt:∀k,top<=k->r k=k:=fun k hk=>by show mu ps lo bG k=k;unfold mu;rw[none_ k<|.inr ah];exact if_pos<|.inr hk
 have rn:∀k,nx<=k->k<top->bG<=r k/\r k<top:=fun k h1 h2=>by show bG<=mu ps lo bG k/\mu ps lo bG k<top;unfold mu;rw[none_ k<|.inr h1];show bG<=(if _ then _ else _)/\(if _ then _ else _)<top;rw[if_neg ah];omega
 have ZG:∀k∈o.map (·.1),(k<lo/\r k=k)\/∃p∈ps,p.1=k/\r k=p.2:=fun k hk=>by
  have:=List.all_eq_true.1 b5 k hk;rcases Bool.or_eq_true_iff.1 this with this|this
  ·have:=(blt_eq _ _).mp this;exact .inl ⟨this,rl k this⟩
  right;obtain⟨p,hp,e⟩:=List.any_eq_true.1 this;cases q:ps.find? fun p=>Nat.beq p.1 k with
  |none=>exact absurd e (by simpa using List.find?_eq_none.1 q p hp)
  |some p'=>have h1:=List.find?_some q;refine⟨p',List.mem_of_find?_eq_some q,eB.1 h1,?_⟩;show mu ps lo bG k=_;unfold mu;rw[q]
 have Gf:∀p∈aq,p.1<270:=fun p hp=>by obtain⟨k,hk,e⟩:=List.mem_map.1 hp;rw[←e];exact gZ k hk
 have t0:270<top:=by unfold top;omega
 refine⟨[],r,rl,rn,rt,b3,(hl r rfl rt).mem,fun p hp=>?_,fun p hp q hq _ _ e=>?_,fun p hp=>oh,fun p hp=>oh⟩
 ·rcases List.mem_append.1 hp with hp|hp
  ·have cF:=Gf p hp;refine⟨by omega,fun y hy=>?_⟩;rw[rl _ ah];refine⟨by omega,Vg p hp y hy,y,?_,fm.refl _,(GR (nx:=270) (fun k hk=>rl k ah) cC p hp y hy).z⟩;refine List.mem_append_left _ ?_;rw[←hy];exact hp
  ·have cF:p.1<top/\r p.1<top:=by
    rcases ZG p.1 (List.mem_map.2 ⟨p,hp,rfl⟩) with⟨c1,c2⟩|⟨p',h1,h2,h3⟩
    ·rw[c2];omega
    ·obtain⟨c1,c2,c3,c4⟩:=u0 p' h1;rw[h3];omega
   refine⟨cF.1,fun y hy=>?_⟩;obtain⟨d1,x,d2,d3,d4⟩:=(ho r rfl rt).mem p hp y hy;exact⟨cF.2,d1,x,List.mem_append_right _ d2,d3,d4⟩
 ·have key:∀p∈aq++o,(p.1<lo/\r p.1=p.1)\/∃q∈ps,q.1=p.1/\r p.1=q.2:=fun p hp=>by
   rcases List.mem_append.1 hp with hp|hp
   ·exact .inl ⟨by have:=Gf p hp;omega,rl _ (by have:=Gf p hp;omega)⟩
   ·exact ZG p.1<|List.mem_map.2 ⟨p,hp,rfl⟩
  rcases key p hp with⟨a1,a2⟩|⟨a,a1,a2,a3⟩<;>rcases key q hq with⟨c1,c2⟩|⟨c,c1,c2,c3⟩
  ·rw[a2,c2] at e;exact e
  ·have:=(u0 c c1).2.2.1;rw[a2,c3] at e;omega
  ·have:=(u0 a a1).2.2.1;rw[a3,c2] at e;omega
  ·rw[a3,c3] at e;have h1:=List.all_eq_true.1 (List.all_eq_true.1 hi a a1) c c1;rw[Bool.or_eq_true] at h1;rcases h1 with h1|h1
   ·rw[e,show Nat.beq c.2 c.2=true from Nat.beq_refl _] at h1;cases h1
   ·rw[←a2, ←c2];exact Nat.eq_of_beq_eq_true h1
theorem Uy{l m:List AV}{rest:List AV}(hl:(l++rest).length<=top)(h:mF [] r l m)(h1:m.all AV.cj=true):fI [] r (.cells (l++rest).length (Tr.fill (l++rest) 0 .nil) [])<|.cells m.length (Tr.fill m 0 .nil) []:=by
 have hlen:=h.length;have yX:l.length<=(l++rest).length:=by rw[List.length_append];omega
 intro ρ fA N o zd k;refine fI.cells ah h h1 ρ fA N o zd ?_;obtain⟨c,e,rfl,k1,k2,k3⟩:=k;refine⟨c,e,rfl,k1,by omega,fun i hi=>?_⟩;obtain⟨x,v,a1,a2,a3,a4⟩:=k3 i ah;refine⟨x,v,?_,a2,a3,a4⟩;unfold cellAt at a1 ⊢;rw[Tr.xA _ _ _ _ ah,if_pos ah,Nat.sub_zero] at a1;rw[Tr.xA _ _ _ _ ah,if_pos ah,Nat.sub_zero];rw[List.getElem?_append_left hi] at a1;exact a1
theorem Wd{n m o len mQ e:Nat}(h:r m=n)(h1:mQ<=lo)(h2:len<=mQ):bA r (.slice (some (n,o)) len<|.ar lo e)<|.slice (some (m,o)) len<|.ar mQ e:=by intro ρ v hv;simp only[VR] at hv ⊢;obtain⟨b,N,c,q1,q2,q3,q4,q5⟩:=hv;exact⟨b,N,c,by rw[h];exact q1,q2,by omega,q4,q5⟩
theorem akD{m:List<|Int×Int}:fI [] r (bM m)<|bM m:=fun _ _ _ _ _ h=>xI h
theorem XN{m:List<|Int×Int}(hk:fZ m):fI [] r (HW m)<|bM m:=fun _ _ _ _ _ h=>adP hk h
theorem aja:fm (bM a)<|bM b:=⟨fun _=>rfl,(fun e=>by cases e),fun e=>by cases e⟩
theorem W3:fm (HW a)<|bM b:=⟨fun _=>rfl,(fun e=>by cases e),fun e=>by cases e⟩
theorem qM{a b:Nat}{s t:Tr AV}{z w:List AV}:fm (.cells a s z)<|.cells b t w:=⟨fun _=>rfl,(fun e=>by cases e),fun e=>by cases e⟩
theorem mi{α:Type}{l:List α}{a:α}(j:Nat)(h:l[j]? =some a:=by rfl):a∈l:=List.mem_of_getElem? h
theorem rq{m n:Nat}(hr:r=mu ps lo bG)(h:mu ps lo bG m=n:=by as_aux_lemma=>kernel_rfl):r m=n:=by rw[hr];exact h
theorem vi{k:IntKind}{n:Int}:lJ [] r (.int k n)<|.int k n:=(bA.int _ _).z
theorem mw{m n:Nat}{x y:ae}(hm:(n,some x)∈o0)(hr:r m=n)(kp:fm x y)(ent:fI [] r x y)(pl:y.l7=true:=by rfl):∀z,some y=some z->z.l7=true/\∃x,(r m,some x)∈o0/\fm x z/\fI [] r x z:=fun z e=>by cases e;exact⟨pl,x,by rw[hr];exact hm,kp,ent⟩
theorem KX{N M:Nat}{l m:List AV}(h:mF [] r l m)(hN:l.length=N:=by rfl)(hM:m.length=M:=by rfl)(hl:Nat.ble N top=true:=by as_aux_lemma=>kernel_rfl)(h1:m.all AV.cj=true:=by rfl):fI [] r (.cells N (Tr.fill l 0 .nil) [])<|.cells M (Tr.fill m 0 .nil) []:=by subst hN;subst hM;exact fI.cells (aL.1 hl) h h1
abbrev ZH(lo bG nx:Nat)(l0:List<|Nat×AV)(o0:List<|Nat×Option ae)(l1:List<|Nat×AV)(o1:List<|Nat×Option ae)(fr:AF)(s:AS):Prop:=(l0.map (fun q=>some q.2)=l0.map (fun q=>some q.2))/\((aq++o0).map (fun q=>q.2)=(aq++o0).map (fun q=>q.2))/\gY FU lo bG l0 (aq++o0) l1 (aq++o1) nx/\(fr=fr/\s=s)
end kK
end
section
open Go Go.Rn Go.RowKit Go.Proofs
namespace Q9
open cr dk fQ fc hI kK zm yP cU
variable {S N:Nat} {r:Nat->Nat} {dV:Int} {B:aI} {init:List Int}
noncomputable section
def BI(S:Nat):ae:=(.cells (S*2) (Tr.fill ((List.replicate S (⟨-1,0⟩:Lk)).map nZ).flatten 0 .nil) [.int .i64 0,.int .i64 0])
def hR:Tr ae:=fL<|aq++[(270,some<|.cells 2 (Tr.fill [.int .i64<|-1,.int .i64 0] 0 .nil) [])]
def ajc(S:Nat)(v:AV)(st:AS):Prop:=v= .slice (some (271,0)) S (.known S)/\st.h=HX hR [(271,some<|BI S)]/\st.nx=272/\st.mark=0/\st.rd=[]/\st.wr=[]
def ajd(S k:Nat):Pl:=.st 8<|.rg<|.go 2<|.vl (.int .u64<|.ofNat 1)<|.go 1<|.vl (.int .u64<|.ofNat S)<|.il<|.st 6<|.rg<|.go 2<|.il<|.rt 25<|.go 5<|.en<|.rt 3<|.go 5<|.en<|.st 6<|.rg<|.go 1<|.vl (i6<|.ofNat S)<|.go 2<|.en<|.rt k .no
def aje(_:1<=S/\S<=32):Pl:=ajd S<|[0,13,22,31,31,40,40,40,40,49,49,49,49,49,49,49,49,58,58,58,58,58,58,58,58,58,58,58,58,58,58,58,58].getD S 0
abbrev YF:Env:=wA pg 270 eC dW [] 270 false
theorem akF(S:Nat):AV.int .u64 (.ofNat 1)= .int .u64 (.ofNat 1)/\AV.int .u64 (.ofNat S)= .int .u64 (.ofNat S)/\AV.int .i64 (.ofNat S)= .int .i64 (.ofNat S)/\AV.slice (some (271,0)) S (.known S)= .slice (some (271,0)) S (.known S)/\HX hR [(271,some<|BI S)]=HX hR [(271,some<|BI S)]/\272=272/\0=0/\([]:List Nat)=[]/\([]:List Nat)=[]:=⟨rfl,rfl,rfl,rfl,rfl,rfl,rfl,rfl,rfl⟩
theorem ahs(hS:1<=S/\S<=32):mT YF 5 (aA Tryz.f21) (ajc S) (sF 21 Tryz.f21 [.slice (some (270,0)) 1<|.known 1,.int .i64<|.ofNat S]) ⟨hR,271,0,[],[]⟩:=by
 have h:S=1\/S=2\/S=3\/S=4\/S=5\/S=6\/S=7\/S=8\/S=9\/S=10\/S=11\/S=12\/S=13\/S=14\/S=15\/S=16\/S=17\/S=18\/S=19\/S=20\/S=21\/S=22\/S=23\/S=24\/S=25\/S=26\/S=27\/S=28\/S=29\/S=30\/S=31\/S=32:=by omega
 have T:=akF S;rcases h with rfl|rfl|rfl|rfl|rfl|rfl|rfl|rfl|rfl|rfl|rfl|rfl|rfl|rfl|rfl|rfl|rfl|rfl|rfl|rfl|rfl|rfl|rfl|rfl|rfl|rfl|rfl|rfl|rfl|rfl|rfl|rfl
 all_goals exact wc (C:=fun _ _ _=>False) eJ rfl (fun _ _ _ h=>h.elim) 2000 (aje hS) T
abbrev YG(S:Nat):AS:=⟨HX hR [(271,some<|BI S)],272,0,[],[]⟩
theorem ad5(hS:1<=S/\S<=32):bh pg (sp []) FU 6 (.fn 21) [.slice (some (270,0)) 1<|.known 1,.int .i64<|.ofNat S] ⟨hR,271,0,[],[]⟩= .ok (.slice (some (271,0)) S<|.known S) (YG S):=by obtain⟨v1,s2,q1,q2⟩:=mT.call (E:=YF) Tryz.func21 (xH Tryz.func21 cC)<|ahs hS;obtain⟨h2,nx2,anR,AT,wr2⟩:=s2;obtain⟨rfl,b1,b2,b3,b4,b5⟩:=q2;simp only at b1 b2 b3 b4 b5;subst b1;subst b2;subst b3;subst b4;subst b5;exact q1
theorem Vh{l z:List AV}(hr:∀k,top<=k->r k=k)(hl:l.length<=top)(hh:l.all AV.cq=true):fI [] r (.cells l.length (Tr.fill l 0 .nil) z)<|.cells l.length (Tr.fill l 0 .nil) []:=fun ρ fA N o m h=>by
 have key:OR ρ N (bu l) o:=by simp only[OR,bu] at h ⊢;obtain⟨c,e,rfl,h1,h2,h3⟩:=h;refine⟨c,e,rfl,h1,h2,fun i hi=>?_⟩;obtain⟨x,v,k1,k2,k3,k4⟩:=h3 i hi;refine⟨x,v,?_,k2,k3,k4⟩;unfold cellAt at k1 ⊢;rw[Tr.xA _ _ _ _ ah,if_pos ah] at k1 ⊢;rw[List.getElem?_eq_getElem ah] at k1 ⊢;exact k1
 exact Ao (ρ:=ρ) (fun k x hk e=>by show fA (r k)=some x;rw[hr k hk];exact m.1 _ _ e) hl hh key
theorem ad6{l:List Int}(hr:∀k,top<=k->r k=k)(hl:l.length<=32):fI [] r (aJ aH l)<|aJ aH l:=by
 refine Vh hr ?_ ?_
 ·rw[eI.length];have:top=549755813888:=rfl;omega
 ·rw[List.all_eq_true];intro c hc;obtain⟨y,hy,hc⟩:=List.mem_flatten.1 hc;obtain⟨g,_,rfl⟩:=List.mem_map.1 hy;rw[show aH g=[.int .i64 g] from rfl,List.mem_singleton] at hc;subst hc;rfl
theorem Wf(S:Nat):((List.replicate S (⟨-1,0⟩:Lk)).map nZ).flatten.length=S*2:=by
 have:=tJ (K:=2) (l:=(List.replicate S (⟨-1,0⟩:Lk)).map nZ) fun c hc=>by obtain⟨a,_,rfl⟩:=List.mem_map.1 hc;rfl
 rw[this,List.length_map,List.length_replicate]
theorem afH(hr:∀k,top<=k->r k=k)(hl:S<=32):fI [] r (BI S)<|aJ nZ<|List.replicate S (⟨-1,0⟩:Lk):=by unfold BI aJ;rw[←Wf S];refine Vh hr (by rw[Wf];have:top=549755813888:=rfl;omega) ?_;rw[List.all_eq_true];intro c hc;obtain⟨y,hy,hc⟩:=List.mem_flatten.1 hc;obtain⟨g,_,rfl⟩:=List.mem_map.1 hy;rw[show nZ g=[.int .i64 g.owner,.int .i64 g.version] from rfl] at hc;simp only[List.mem_cons,List.not_mem_nil,or_false] at hc;rcases hc with rfl|rfl<;>rfl
theorem afI{o m:Nat}{st:Int}(mc:Mt [] B)(hv:(m:Int)<1\/(m:Int)>32\/st<1\/st>(m:Int)\/dV<0\/dV>1099511627776):av pg B 270 (Rn.Fin pg (aA Tryz.f6) fun y _=>y= .tuple [.ptr none,.int .i64 1]) (sF 6 Tryz.f6 [(.ab N o m),(i6 st),(i6 dV)])<|aj aq 270:=wS mc (.st 4<|.rg<|.go 2<|.fk (.go 23<|.en<|.rt 4 .no)<|.go 3<|.fk (.go 19<|.en<|.rt 4 .no)<|.go 3<|.fk (.go 15<|.en<|.rt 4 .no)<|.go 5<|.fk (.go 9<|.en<|.rt 4 .no)<|.go 3<|.fk (.go 5<|.en<|.rt 4 .no)<|.go 3<|.fk (.go 1<|.en<|.rt 4 .no)<|.no)<|ax ((m:Int)<1) (fun _=>(show((.tuple [(.ptr none),(i6<|.ofNat 1)]):AV)= .tuple [.ptr none,.int .i64 1] from rfl)) fun _=>(ax ((m:Int)>32) (fun _=>(show((.tuple [(.ptr none),(i6<|.ofNat 1)]):AV)= .tuple [.ptr none,.int .i64 1] from rfl)) fun _=>(ax (st<1) (fun _=>(show((.tuple [(.ptr none),(i6<|.ofNat 1)]):AV)= .tuple [.ptr none,.int .i64 1] from rfl)) fun _=>(ax (st>(m:Int)) (fun _=>(show((.tuple [(.ptr none),(i6<|.ofNat 1)]):AV)= .tuple [.ptr none,.int .i64 1] from rfl)) fun _=>(ax (dV<0) (fun _=>(show((.tuple [(.ptr none),(i6<|.ofNat 1)]):AV)= .tuple [.ptr none,.int .i64 1] from rfl)) fun _=>(ax (dV>1099511627776) (fun _=>(show((.tuple [(.ptr none),(i6<|.ofNat 1)]):AV)= .tuple [.ptr none,.int .i64 1] from rfl)) eN)))))
noncomputable abbrev Ey(S:Nat)(dV:Int)(init:List Int):List<|Nat×Option ae:=aq++[(270,some<|.cells 4 (Tr.fill [(.slice (some (271,0)) (S)<|.known S),i0,(i6 dV),(.slice (some (272,0)) (init.length)<|.ar init.length 1)] 0 .nil) []),(271,some<|aJ nZ<|List.replicate S (⟨-1,0⟩:Lk)),(272,some<|aJ aH init)]
theorem ad7(mc:Mt [] B)(dq:lk (⟨(List.replicate S (⟨-1,0⟩:Lk)),0,dV,init⟩:cL)):av pg B 270 (mj XT pg (aA Tryz.f6) 2 (.tuple [.ptr<|some (270,0),.int .i64 0])<|aX (⟨(List.replicate S (⟨-1,0⟩:Lk)),0,dV,init⟩:cL)) (⟨6,aP [(6,(.ptr<|some (270,0))),(7,i0)],44,(dt 6 [1,1,1]),[],none⟩:AF)<|aj (Ey S dV init) 273:=wS mc (.rt 1 .no)<|jq (a:=(⟨(List.replicate S (⟨-1,0⟩:Lk)),0,dV,init⟩:cL)) (nl:=S) (nv:=init.length) (.known S) (.ar init.length 1) dq (by rw[List.length_replicate]) rfl (show((.tuple [(.ptr<|some (270,0)),i0]):AV)= .tuple [.ptr<|some (270,0),.int .i64 0] from rfl) rfl 273
noncomputable abbrev PU(S:Nat)(init:List Int)(dV:Int):List<|Nat×Option ae:=aq++[(271,(some<|BI S)),(273,(some<|aJ aH init)),(274,some<|.cells 4 (Tr.fill [(.slice (some (271,0)) (S)<|.known S),i0,(i6 dV),(.slice (some (273,0)) (init.length)<|.ar init.length 1)] 0 .nil) [])]
theorem afJ{o m:Nat}(hS:1<=S/\S<=32)(hl:init.length<=32)(hSm:S<=m+1)(an1:0<=dV/\dV<=1099511627776)(hn:top<=N)(hf:top<=N/\cx FU N o ((m+1)*1)=some (init.map aH).flatten/\m+1=init.length)(mc:Mt [] B)(dq:lk (⟨(List.replicate S (⟨-1,0⟩:Lk)),0,dV,init⟩:cL)):av pg B 270 (mj XT pg (aA Tryz.f6) 2 (.tuple [.ptr<|some (270,0),.int .i64 0])<|aX (⟨(List.replicate S (⟨-1,0⟩:Lk)),0,dV,init⟩:cL)) (sF 6 Tryz.f6 [(.ab N o<|m+1),(i6<|(S:Int)),(i6 dV)])<|aj aq 270:=wC mc (C:=(fun fr s1 _=>fr=(⟨6,aP [(6,(.ptr<|some (270,0))),(7,i0)],44,(dt 6 [1,1,1]),[],none⟩:AF)/\s1=(aj (Ey S dV init) 273))) (fun fr s1 p hC=>by obtain⟨rfl,rfl⟩:=hC;exact ad7 mc dq) (.st 4<|.rg<|.go 2<|.fk (.no)<|.go 3<|.fk (.no)<|.go 3<|.fk (.no)<|.go 5<|.fk (.no)<|.go 3<|.fk (.no)<|.go 3<|.fk (.no)<|.go 1<|.en<|.st 3<|.rg<|.go 3<|.cu (.slice (some (271,0)) (S)<|.known S) (YG S)<|.go 3<|.il<|.st 8<|.rg<|.go 2<|.al Int aH [] init<|.go 1<|.en<|.rt 1<|.go 4<|.en<|.rn [(6,(.ptr<|some (274,0))),(7,i0)] (PU S init dV) [(6,(.ptr<|some (270,0))),(7,i0)] (Ey S dV init) 275 273 .no)<|ax ((((m+1):Nat):Int)<1) eN fun _=>(ax ((((m+1):Nat):Int)>32) eN fun _=>(ax ((S:Int)<1) eN fun _=>(ax ((S:Int)>(((m+1):Nat):Int)) eN fun _=>(ax (dV<0) eN fun _=>(ax (dV>1099511627776) eN fun _=>(ai (ad5 hS)<|Ge aH [] init (K:=1) (j9:=8) hf (fun x=>⟨rfl,rfl⟩) Q0 Q1<|ai (mS [(6,(.ptr<|some (274,0))),(7,i0)])<|ai (mO<|PU S init dV)<|ai (show gY FU 270 275 [(6,(.ptr<|some (274,0))),(7,i0)] (PU S init dV) [(6,(.ptr<|some (270,0))),(7,i0)] (Ey S dV init) 273 from Cu (ps:=[(270,274),(271,271),(272,273)]) (lo:=270) (bG:=275) ah cn cn (fun r hr ht=>⟨⟨by unfold top;omega,_,(mi 0),((bA.ptr<|rq hr)).z⟩,⟨⟨by unfold top;omega,_,(mi 1),vi⟩,trivial⟩⟩) fun r hr ht=>⟨mw (mi 2) (rq hr) qM<|KX (l:=[(.slice (some (271,0)) (S)<|.known S),i0,(i6 dV),(.slice (some (273,0)) (init.length)<|.ar init.length 1)]) (m:=[(.slice (some (271,0)) (S)<|.known S),i0,(i6 dV),(.slice (some (272,0)) (init.length)<|.ar init.length 1)]) ⟨((bA.slice<|rq hr)).z,⟨vi,⟨vi,⟨((bA.slice<|rq hr)).z,trivial⟩⟩⟩⟩,⟨mw (mi 0) (rq hr) qM<|afH ht hS.2,⟨mw (mi 1) (rq hr) (fm.refl _)<|ad6 ht hl,trivial⟩⟩⟩) (show(⟨6,aP [(6,(.ptr<|some (270,0))),(7,i0)],44,(dt 6 [1,1,1]),[],none⟩:AF)=(⟨6,aP [(6,(.ptr<|some (270,0))),(7,i0)],44,(dt 6 [1,1,1]),[],none⟩:AF)/\(aj (Ey S dV init) 273)=(aj (Ey S dV init) 273) from⟨rfl,rfl⟩)))))))
end
end Q9
end
section
open Go Go.Rn Go.RowKit Go.Proofs
namespace iF
open cr fF fQ hI YC kK uK
variable {x:Int} {r:Nat->Nat} {g nt i:Nat} {w2 w1:AV} {p:Option Code} {o0:List<|Nat×Option ae} {ke:bB} {oo:cR}
noncomputable section
section
variable {B:aI} {ms:bB} {cap:cR}
theorem jc{l:bB}(h:1<=l.length/\l.length<=6):(∃m0,l=[m0])\/(∃m0 m1,l=[m0,m1])\/(∃m0 m1 m2,l=[m0,m1,m2])\/(∃m0 m1 m2 m3,l=[m0,m1,m2,m3])\/(∃m0 m1 m2 m3 m4,l=[m0,m1,m2,m3,m4])\/∃m0 m1 m2 m3 m4 m5,l=[m0,m1,m2,m3,m4,m5]:=by
 match l,h with
 |[a],_=>exact .inl ⟨_,rfl⟩
 |[a,b],_=>exact .inr<|.inl ⟨_,_,rfl⟩
 |[a,b,c],_=>exact .inr<|.inr<|.inl ⟨_,_,_,rfl⟩
 |[a,b,c,d],_=>exact .inr<|.inr<|.inr<|.inl ⟨_,_,_,_,rfl⟩
 |[a,b,c,d,e],_=>exact .inr<|.inr<|.inr<|.inr<|.inl ⟨_,_,_,_,_,rfl⟩
 |[a,b,c,d,e,f],_=>exact .inr<|.inr<|.inr<|.inr<|.inr ⟨_,_,_,_,_,_,rfl⟩
 |[],h=>simp at h
 |_::_::_::_::_::_::_::_,h=>simp at h
theorem XP{l:bB}(h:1<=l.length/\l.length<=7):l.length<=6\/∃m0 m1 m2 m3 m4 m5 m6,l=[m0,m1,m2,m3,m4,m5,m6]:=by
 match l,h with
 |[a,b,c,d,e,f,g],_=>exact .inr ⟨_,_,_,_,_,_,_,rfl⟩
 |[],_|[_],_|[_,_],_|[_,_,_],_|[_,_,_,_],_|[_,_,_,_,_],_|[_,_,_,_,_,_],_=>exact .inl (by simp)
 |_::_::_::_::_::_::_::_::l,h=>simp only[List.length_cons] at h;omega
theorem afK(h:fy ms){nx:Nat}:∀m p,(m,p)∈gE ms cap->(aj (aq++bQ (gE ms cap)) nx).h.get m=some p:=fun m p hm=>by
 rcases(XP h.1).imp (fun q=>jc ⟨h.1.1,q⟩) id with(⟨m0,rfl⟩|⟨m0,m1,rfl⟩|⟨m0,m1,m2,rfl⟩|⟨m0,m1,m2,m3,rfl⟩|⟨m0,m1,m2,m3,m4,rfl⟩|⟨m0,m1,m2,m3,m4,m5,rfl⟩)|⟨m0,m1,m2,m3,m4,m5,m6,rfl⟩
 all_goals
  simp only[gE,qT,List.mem_cons,List.not_mem_nil,or_false] at hm
  repeat' (rcases hm with hm|hm)
  all_goals kernel_rfl
theorem Ra(nx:Nat)(h:fy ms)(hc:uI ms.length cap)(y:AV):nG 3 y (cv ms) (aj (aq++bQ (gE ms cap)) nx) y:=⟨rfl,_,.buf _ h cap hc,afK h⟩
def mH:bB->Int->Int->bB
 |[],_,_=>[]
 |[m],v,x=>[gD m v x]
 |m::m'::l,v,x=>m::mH (m'::l) v x
def gU:bB->bB
 |[]=>[]
 |[m]=>[m]
 |[m,m']=>[jf m m']
 |m::m'::IV::l=>m::gU (m'::IV::l)
def yy:bB->List (Int×Int)
 |[]=>[]
 |[m]=>m
 |_::l=>yy l
def gB(ms:bB)(v:Int):Nat->Option Int
 |0=>none
 |n+1=>if lO (ms.getD n []) v=true then some (getM (ms.getD n []) v) else gB ms v n
def lu(ms:bB)(v:Int):Int×Bool:=((gB ms v ms.length).getD 0,(gB ms v ms.length).isSome)
theorem afL{l:bB}{m:List<|Int×Int}{v:Int}(h:fy<|l++[m]):fy<|l++[gD m v x]:=by
 obtain⟨h1,h2⟩:=h;rw[List.length_append] at h1;refine⟨by rw[List.length_append];exact h1,fun q hq=>?_⟩;rcases List.mem_append.1 hq with hq|hq
 ·exact h2 q<|List.mem_append_left _ hq
 ·rw[List.mem_singleton] at hq;subst hq;exact fZ.set (h2 m<|List.mem_append_right _<|List.mem_singleton.2 rfl) v x
theorem TL{l:bB}{m:List<|Int×Int}{v:Int}:mH (l++[m]) v x=l++[gD m v x]:=by
 induction l with
 |nil=>rfl
 |cons y l ih=>
  cases l with
  |nil=>rfl
  |cons z l=>show y::mH (z::(l++[m])) v x=_;rw[show(z::(l++[m]):bB)=(z::l)++[m] from rfl,ih];rfl
theorem Oq{b:bB}(h:fy b)(v x:Int):fy<|mH b v x:=by
 have cz:b≠[]:=fun e=>by have:=h.1.1;rw[e] at this;simp only[List.length_nil] at this;omega
 rw[←List.dropLast_concat_getLast cz] at h ⊢;rw[TL];exact afL h
theorem Ju:∀(b:bB) (v x:Int),(mH b v x).length=b.length
 |[],_,_|[_],_,_=>rfl
 |m::m'::l,v,x=>congrArg (· +1)<|Ju (m'::l) v x
theorem Pu(h:fy ms)(h6:ms.length<7):fy<|ms++[[]]:=by
 refine⟨by rw[List.length_append];show 1<=ms.length+1/\ms.length+1<=7;omega,fun m hm=>?_⟩;rcases List.mem_append.1 hm with hm|hm
 ·exact h.2 m hm
 ·rw[List.mem_singleton] at hm;subst hm;exact List.nodup_nil
theorem Pv(h:fy ms)(h2:2<=ms.length):fy ms.dropLast:=by refine⟨by rw[List.length_dropLast];have:=h.1.2;omega,fun m hm=>h.2 m<|List.dropLast_subset _ hm⟩
theorem Jj:∀ms:bB,2<=ms.length->(gU ms).length+1=ms.length
 |[],h=>by simp at h
 |[_],h=>by simp at h
 |[_,_],_=>rfl
 |m::m'::IV::l,_=>by have:=Jj (m'::IV::l) (by simp);show(gU<|m'::IV::l).length+1+1=(m'::IV::l).length+1;rw[this]
theorem SL:∀ms:bB,(∀m∈ms,fZ m)->∀m∈gU ms,fZ m
 |[],h,m,hm=>by cases hm
 |[a],h,m,hm=>h m hm
 |[a,b],h,m,hm=>by rw[show gU [a,b]=[jf a b] from rfl,List.mem_singleton] at hm;subst hm;exact fZ.merge (h a<|by simp)
 |a::b::c::l,h,m,hm=>by
  have hm:m∈a::gU (b::c::l):=hm;rcases List.mem_cons.1 hm with rfl|hm
  ·exact h _ (by simp)
  ·exact SL (b::c::l) (fun q hq=>h q<|List.mem_cons_of_mem _ hq) m hm
theorem JW(h:fy ms)(h2:2<=ms.length):fy<|gU ms:=⟨by have:=Jj ms h2;have:=h.1.2;omega,SL ms h.2⟩
theorem ad8(h:fy ms):∀p∈gE ms cap,p.1<279:=fun p hp=>by
 have h6:=h.1.2;rcases List.mem_cons.1 hp with rfl|hp
 ·show 270<279;omega
 rcases List.mem_cons.1 hp with rfl|hp
 ·show 271<279;omega
 ·have:=(Og hp).2.1;omega
abbrev SB(B:aI)(g nt:Nat)(rs:List ResultVar)(args:List AV)(ms:bB)(cap:cR)(y:AV)(ke:bB):Prop:=av pg B 271 (mj XT pg rs 3 y<|cv ke) ⟨g,eg<|.ptr (some (270,0))::args,nt,[.code<|aW pg g []],[],none⟩<|aj (aq++bQ (gE ms cap)) 279
theorem akG{v:Int}(mc:Mt [] B)(h:fy ms)(hc:uI ms.length cap)(k:((some (bM<|yy ms)=some (bM<|yy ms))/\nG 3 (.int .i64 0) (cv<|mH ms v x) (aj (aq++bQ (gE (mH ms v x) cap)) 279) (.int .i64 0))=wp (rG []) 900 6 (.fr 98 (max Tryz.f98.ntmps 3) (dt 98 []) (eg [.ptr<|some (270,0),.int .i64 v,.int .i64 x])<|aj (aq++bQ (gE ms cap)) 279) (.st 8<|.rg<|.go 14<|.Mw (yy ms)<|.en<|.rt 3 .no) (aA Tryz.f98) (fun y s _=>nG 3 (.int .i64 0) (cv<|mH ms v x) s y) (fun _ _ _=>False):=by as_aux_lemma=>kernel_rfl):
 SB B 98 (max Tryz.f98.ntmps 3) (aA Tryz.f98) [.int .i64 v,.int .i64 x] ms cap (.int .i64 0) (mH ms v x):=
 ox mc _ ⟨rfl,Ra 279 (Oq h v x) (by rw[Ju];exact hc)<|.int .i64 0⟩ k cC
theorem ad9{v:Int}(mc:Mt [] B)(h:fy ms)(hc:uI ms.length cap)(h6:ms.length<=6):SB B 98 (max Tryz.f98.ntmps 3) (aA Tryz.f98) [.int .i64 v,.int .i64 x] ms cap (.int .i64 0)<|mH ms v x:=by rcases jc ⟨h.1.1,h6⟩ with⟨m0,rfl⟩|⟨m0,m1,rfl⟩|⟨m0,m1,m2,rfl⟩|⟨m0,m1,m2,m3,rfl⟩|⟨m0,m1,m2,m3,m4,rfl⟩|⟨m0,m1,m2,m3,m4,m5,rfl⟩<;>exact akG mc h hc
abbrev KA(L:bV)(g:Nat)(f:Func)(ms:bB)(cap:cR)(path:List Nat)(ke:bB)(oo:cR)(p:Pl):Prop:=wp (rG L) 900 6 (.fr g (max f.ntmps 1) [.code<|aW pg g []] (eg [.ptr<|some (270,0)])<|aj (aq++bQ (gE ms cap)) 279) p f.results.toList (fun y s _=>nG 3 (.int .i64 0) (cv ke) s y) fun fr s1 _=>fr=⟨g,aP [(2,i0)],max f.ntmps 1,[.code<|aW pg g path],[],none⟩/\s1=aj (aq++bQ (gE ke oo)) 279
abbrev MK(ke:bB)(oo:cR):Prop:=nG 3 (.int .i64 0) (cv ke) (aj (aq++bQ (gE ke oo)) 279)<|.int .i64 0
abbrev KB(L:bV)(g:Nat)(f:Func)(path:List Nat)(ke:bB)(oo:cR):Prop:=wp (rG L) 900 6 (.fr g (max f.ntmps 1) [.code<|aW pg g path] (aP [(2,i0)])<|aj (aq++bQ (gE ke oo)) 279) (.rt 1 .no) f.results.toList (fun y s _=>nG 3 (.int .i64 0) (cv ke) s y) fun _ _ _=>False
theorem PV{L:bV}{f:Func}(path:List Nat)(mc:Mt L B)(h':fy ke)(Sd:uI ke.length oo)(p:Pl){T:Prop}(x:T)(k:T=KA L g f ms cap path ke oo p:=by as_aux_lemma=>kernel_rfl)(k2:MK ke oo=KB L g f path ke oo:=by as_aux_lemma=>kernel_rfl):
 SB B g (max f.ntmps 1) f.results.toList [] ms cap (.int .i64 0) ke:=
 IM mc (fun fr s1 _ hC=>by obtain⟨rfl,rfl⟩:=hC;exact ox mc _ (Ra 279 h' Sd _) k2 cC) p x k cC
abbrev IW(bG:Nat)(o0:List<|Nat×Option ae)(ke:bB)(oo:cR)(g nt:Nat)(path:List Nat):Prop:=ZH 271 bG 279 [(2,i0)] o0 [(2,i0)] (bQ<|gE ke oo) ⟨g,aP [(2,i0)],nt,[.code<|aW pg g path],[],none⟩<|aj (aq++bQ (gE ke oo)) 279
theorem YH{ps:List<|Nat×Nat}{bG:Nat}{path:List Nat}(h:∀r,r=mu ps 271 bG->xj r o0 (bQ<|gE ke oo))(h1:xh ps 271 bG 279 ((bQ<|gE ke oo).map (·.1))=true:=by as_aux_lemma=>kernel_rfl)(h2:FA ps=true:=by as_aux_lemma=>kernel_rfl):IW bG o0 ke oo g nt path:=⟨rfl,rfl,Cu (ps:=ps) ah h1 h2 (fun r hr ht=>⟨⟨by unfold top;omega,_,mi 0,vi⟩,trivial⟩) fun r hr _=>h r hr,rfl,rfl⟩
def Gh(n:Nat):List<|Nat×Nat:=(271,281)::(272+n,279)::(List.range n).map fun i=>(272+i,272+i)
def Se(ms:bB):List<|Nat×Option ae:=(270,some<|aJ kg [.slice (some (281,0)) (ms.length+1)<|.ar (ms.length+1) 1])::(281,some<|aJ kg<|mJ ms.length++[.map<|some 279])::(279,some<|HW [])::bQ (qT 272 ms)
theorem KY(l:List AV):(l.map kg).flatten=l:=Cq l
theorem Ik{l m:List AV}(h:mF [] r l m)(hl:l.length<=8)(h1:m.all AV.cj=true):fI [] r (aJ kg l)<|aJ kg m:=by show fI [] r (.cells (l.map kg).flatten.length (Tr.fill (l.map kg).flatten 0 .nil) [])<|.cells (m.map kg).flatten.length (Tr.fill (m.map kg).flatten 0 .nil) [];rw[KY,KY];exact fI.cells eX h h1
theorem Vi(n:Nat):(mJ n).all AV.cj=true:=by rw[mJ,List.all_map,List.all_eq_true];exact fun _ _=>rfl
theorem Vj(n:Nat):(mJ n).length=n:=by rw[mJ,List.length_map,List.length_range]
theorem ZM{m:Nat}{l:List<|Int×Int}(q:r m=m)(hm:(m,some<|bM l)∈o0:=by repeat first|exact List.mem_cons_self|apply List.mem_cons_of_mem):∀z,some (bM l)=some z->z.l7=true/\∃x,(r m,some x)∈o0/\fm x z/\fI [] r x z:=mw hm q aja akD
theorem ajf(mc:Mt [] B)(h:fy<|ms++[[]])(w1:∀r,r=mu (Gh ms.length) 271 282->mF [] r (mJ ms.length++[.map<|some 279]) (mJ (ms++[[]]).length))(w2:∀r,r=mu (Gh ms.length) 271 282->xj r (Se ms) (bQ<|qT 272<|ms++[[]]))(k:IW 282 (Se ms) (ms++[[]]) (.ar (ms.length+1) 1) 100 (max Tryz.f100.ntmps 1) [1,1,1,1]=KA [] 100 Tryz.f100 ms cap [1,1,1,1] (ms++[[]]) (.ar (ms.length+1) 1) (.st 11<|.rn [(2,i0)] (aq++Se ms) [(2,i0)] (aq++bQ (gE (ms++[[]])<|.ar (ms.length+1) 1)) 282 279 .no):=by as_aux_lemma=>kernel_rfl)(h1:xh (Gh ms.length) 271 282 279 ((bQ<|gE (ms++[[]])<|.ar (ms.length+1) 1).map (·.1))=true:=by as_aux_lemma=>kernel_rfl)(h2:FA (Gh ms.length)=true:=by as_aux_lemma=>kernel_rfl)(q0:mu (Gh ms.length) 271 282 270=270:=by as_aux_lemma=>kernel_rfl)(q1:mu (Gh ms.length) 271 282 271=281:=by as_aux_lemma=>kernel_rfl)(k2:MK (ms++[[]]) (.ar (ms.length+1) 1)=KB [] 100 Tryz.f100 [1,1,1,1] (ms++[[]]) (.ar (ms.length+1) 1):=by as_aux_lemma=>kernel_rfl):
 SB B 100 (max Tryz.f100.ntmps 1) (aA Tryz.f100) [] ms cap (.int .i64 0) (ms++[[]]):=by
 have hl:(ms++[[]]).length=ms.length+1:=by rw[List.length_append];rfl
 have h7:=h.1.2;refine PV [1,1,1,1] mc h (.inl<|by rw[hl]) _ (YH (fun r hr=>⟨mw (mi 0) (rq hr q0) qM<|Ik (l:=[.slice (some (281,0)) (ms.length+1)<|.ar (ms.length+1) 1]) ⟨?_,trivial⟩ (by simp) rfl,mw (mi 1) (rq hr q1) qM<|Ik (w1 r hr) ?_<|Vi _,w2 r hr⟩) h1 h2) k k2
 ·rw[hl];exact(bA.slice<|rq hr q1).z
 ·rw[List.length_append,Vj];show ms.length+1<=8;omega
theorem acT(mc:Mt [] B)(h:fy ms)(hc:uI ms.length cap)(h6:ms.length<=6):SB B 100 (max Tryz.f100.ntmps 1) (aA Tryz.f100) [] ms cap (.int .i64 0)<|ms++[[]]:=by
  have h2:=Pu h ah
  rcases jc ⟨h.1.1,h6⟩ with⟨m0,rfl⟩|⟨m0,m1,rfl⟩|⟨m0,m1,m2,rfl⟩|⟨m0,m1,m2,m3,rfl⟩|⟨m0,m1,m2,m3,m4,rfl⟩|⟨m0,m1,m2,m3,m4,m5,rfl⟩
  all_goals rcases hc with rfl|⟨e,rfl⟩
  all_goals first
    |(cases e;done)
    | (refine ajf mc h2 (fun r hr=>?_) fun r hr=>?_
       · repeat' first|exact trivial|refine⟨(bA.map<|rq hr).z,?_⟩
       · repeat' first|exact trivial|refine⟨mw (n:=279) (mi 2) (rq hr) W3<|XN List.nodup_nil,?_⟩|refine⟨ZM<|rq hr,?_⟩)
theorem Vk{α:Type}{f g:α->AV}:∀{l:List α},(∀i∈l,lJ [] r (f i)<|g i)->mF [] r (l.map f) (l.map g)
 |[],_=>trivial
 |_::_,h=>⟨h _ List.mem_cons_self,Vk fun i hi=>h i<|List.mem_cons_of_mem _ hi⟩
theorem YI{r:Nat->Nat}{o0:List<|Nat×Option ae}:∀{ms:bB} {k:Nat},(∀p∈qT k ms,(p.1,some p.2)∈o0)->(∀i,i<ms.length->r (k+i)=k+i)->xj r o0 (bQ<|qT k ms)
 |[],_,_,_=>trivial
 |m::ms,k,h,q=>⟨ZM (m:=k) (q 0<|Nat.succ_pos _)<|h _ List.mem_cons_self,YI (fun p hp=>h p<|List.mem_cons_of_mem _ hp) fun i hi=>by have:=q (i+1)<|Nat.succ_lt_succ hi;rwa[show k+1+i=k+(i+1) by omega]⟩
theorem Vl:∀{l:List<|Nat×ae} {p:Nat×ae},p∈l->(p.1,some p.2)∈bQ l
 |_::l,p,h=>by
  rcases List.mem_cons.1 h with rfl|h
  ·exact List.mem_cons_self
  ·exact List.mem_cons_of_mem _<|Vl h
def ML:List<|Nat×Nat:=[(271,271),(272,272),(273,273),(274,274),(275,275),(276,276),(277,277)]
theorem XQ(hr:r=mu ML 271 279)(i:Nat)(h:i<6):r (272+i)=272+i:=by rcases(by omega:i=0\/i=1\/i=2\/i=3\/i=4\/i=5) with rfl|rfl|rfl|rfl|rfl|rfl<;>exact rq hr
def IX(ms:bB):List<|Nat×Option ae:=(270,some<|aJ kg [.slice (some (271,0)) ms.length<|.ar (ms.length+1) 1])::(271,some<|aJ kg<|mJ<|ms.length+1)::bQ (qT 272 ms)
theorem Wg{path:List Nat}(h:fy ms)(h6:ms.length<=6)(h1:xh ML 271 279 279 ((bQ<|gE ms<|.ar ms.length 1).map (·.1))=true:=by as_aux_lemma=>kernel_rfl):IW 279 (IX ms) ms (.ar ms.length 1) g nt path:=by refine YH (fun r hr=>⟨mw (mi 0) (rq hr) qM<|Ik (l:=[.slice (some (271,0)) ms.length<|.ar (ms.length+1) 1]) ⟨(Wd (rq hr) ah ah).z,trivial⟩ (by simp) rfl,mw (mi 1) (rq hr) qM ?_,YI (fun p hp=>List.mem_cons_of_mem _<|List.mem_cons_of_mem _<|Vl hp) fun i hi=>XQ hr i ah⟩) h1;show fI [] r (.cells ((mJ<|ms.length+1).map kg).flatten.length (Tr.fill ((mJ<|ms.length+1).map kg).flatten 0 .nil) [])<|.cells ((mJ ms.length).map kg).flatten.length (Tr.fill ((mJ ms.length).map kg).flatten 0 .nil) [];rw[KY,KY,show mJ (ms.length+1)=mJ ms.length++[.map<|some<|272+ms.length] by rw[mJ,List.range_succ,List.map_append];rfl];exact Uy (by rw[List.length_append,Vj];show ms.length+1<=top;unfold top;omega) (Vk fun i hi=>(bA.map<|XQ hr i (by have:=List.mem_range.1 hi;omega)).z)<|Vi _
theorem ajg(mc:Mt [] B)(h:fy ms.dropLast)(h6:ms.dropLast.length<=6)(h1:xh ML 271 279 279 ((bQ<|gE ms.dropLast<|.ar ms.dropLast.length 1).map (·.1))=true:=by as_aux_lemma=>kernel_rfl)(k:IW 279 (IX ms.dropLast) ms.dropLast (.ar ms.dropLast.length 1) 99 (max Tryz.f99.ntmps 1) [1,1,1]=KA [] 99 Tryz.f99 ms cap [1,1,1] ms.dropLast (.ar ms.dropLast.length 1) (.st 3<|.rg<|.go 1<|.il<|.rt 19<|.go 5<|.en<|.st 2<|.rn [(2,i0)] (aq++IX ms.dropLast) [(2,i0)] (aq++bQ (gE ms.dropLast<|.ar ms.dropLast.length 1)) 279 279 .no):=by as_aux_lemma=>kernel_rfl)(k2:MK ms.dropLast (.ar ms.dropLast.length 1)=KB [] 99 Tryz.f99 [1,1,1] ms.dropLast (.ar ms.dropLast.length 1):=by as_aux_lemma=>kernel_rfl):
 SB B 99 (max Tryz.f99.ntmps 1) (aA Tryz.f99) [] ms cap (.int .i64 0) ms.dropLast:=
 PV [1,1,1] mc h (.inl rfl) _ (Wg h h6 h1) k k2
theorem acU(mc:Mt [] B)(h:fy ms)(hc:uI ms.length cap)(h2:2<=ms.length)(h6:ms.length<=6):SB B 99 (max Tryz.f99.ntmps 1) (aA Tryz.f99) [] ms cap (.int .i64 0) ms.dropLast:=by
 have q:=Pv h h2;have q6:ms.dropLast.length<=6:=by rw[List.length_dropLast];omega
 rcases hc with rfl|⟨e,_⟩
 rotate_left
 ·omega
 rcases jc ⟨h.1.1,h6⟩ with⟨m0,rfl⟩|⟨m0,m1,rfl⟩|⟨m0,m1,m2,rfl⟩|⟨m0,m1,m2,m3,rfl⟩|⟨m0,m1,m2,m3,m4,rfl⟩|⟨m0,m1,m2,m3,m4,m5,rfl⟩
 ·simp at h2
 all_goals exact ajg mc q q6
def mcS(a b:Nat)(m1 m2:List<|Int×Int)(s:AS):AS:=fB b (some<|bM m2)<|fB a (some<|bM<|jf m1 m2)<|bc b<|bc a<|dL 270 dW eC s
def Ds(ms:bB):AS:=⟨fL<|aq++(270,some<|aJ kg [.slice (some (271,0)) (ms.length - 1)<|.ar ms.length 1])::(271,some<|aJ kg<|mJ ms.length)::bQ (qT 272 ms),279,279,[],[]⟩
abbrev ZN(ms:bB):AS:=mcS (272+(ms.length - 2)) (272+(ms.length - 1)) (yy ms.dropLast) (yy ms)<|Ds ms
theorem Ot:∀{ms:bB},(∀m∈ms,fZ m)->fZ (yy ms)
 |[],_=>List.nodup_nil
 |[m],h=>h m List.mem_cons_self
 |_::m::l,h=>Ot (ms:=m::l) fun q hq=>h q<|List.mem_cons_of_mem _ hq
theorem aht(mc:Mt [Dp] B)(h0:fy ms)(hn:2<=ms.length)(h:fy<|gU ms)(h6:(gU ms).length<=6)(h1:xh ML 271 279 279 ((bQ<|gE (gU ms)<|.ar (gU ms).length 1).map (·.1))=true:=by as_aux_lemma=>kernel_rfl)(hk:qk 270 dW eC (Ds ms)=true:=by as_aux_lemma=>kernel_rfl)(ha:Nat.blt (272+(ms.length - 2)) (dL 270 dW eC<|Ds ms).nx=true:=by as_aux_lemma=>kernel_rfl)(hb:Nat.blt (272+(ms.length - 1)) (dL 270 dW eC<|Ds ms).nx=true:=by as_aux_lemma=>kernel_rfl)(g1:(dL 270 dW eC<|Ds ms).h.get (272+(ms.length - 2))=some (bM<|yy ms.dropLast):=by as_aux_lemma=>kernel_rfl)(g2:(dL 270 dW eC<|Ds ms).h.get (272+(ms.length - 1))=some (bM<|yy ms):=by as_aux_lemma=>kernel_rfl)(k:(bh pg (sp [Dp]) FU 6 (.fn 109) [.map<|some<|272+(ms.length - 2),.map<|some<|272+(ms.length - 1)] (Ds ms)= .ok (.tuple []) (ZN ms)/\IW 279 (IX<|gU ms) (gU ms) (.ar (gU ms).length 1) 96 (max Tryz.f96.ntmps 1) [1,1,1,1])=KA [Dp] 96 Tryz.f96 ms cap [1,1,1,1] (gU ms) (.ar (gU ms).length 1) (.st 3<|.rg<|.go 1<|.il<|.rt 19<|.go 5<|.en<|.st 4<|.rg<|.go 13<|.cu (.tuple []) (ZN ms)<|.en<|.st 2<|.rn [(2,i0)] (aq++IX (gU ms)) [(2,i0)] (aq++bQ (gE (gU ms)<|.ar (gU ms).length 1)) 279 279 .no):=by as_aux_lemma=>kernel_rfl)(k2:MK (gU ms) (.ar (gU ms).length 1)=KB [Dp] 96 Tryz.f96 [1,1,1,1] (gU ms) (.ar (gU ms).length 1):=by as_aux_lemma=>kernel_rfl):
 SB B 96 (max Tryz.f96.ntmps 1) (aA Tryz.f96) [] ms cap (.int .i64 0) (gU ms):=
 have h7:=h0.1.2
 PV [1,1,1,1] mc h (.inl rfl) _ ⟨ae3 (P:=pg) (sp:=sp [Dp]) aZ hk ah ha hb L9 L9 g1 g2 (Ot fun m hm=>h0.2 m<|List.dropLast_subset _ hm)<|Ot h0.2,Wg h h6 h1⟩ k k2
theorem NI(mc:Mt [Dp] B)(h:fy ms)(hc:uI ms.length cap)(h2:2<=ms.length):SB B 96 (max Tryz.f96.ntmps 1) (aA Tryz.f96) [] ms cap (.int .i64 0)<|gU ms:=by
 have q:=JW h h2;have q6:(gU ms).length<=6:=by have:=Jj ms h2;have:=h.1.2;omega
 rcases hc with rfl|⟨e,_⟩
 rotate_left
 ·omega
 rcases(XP h.1).imp (fun q=>jc ⟨h.1.1,q⟩) id with(⟨m0,rfl⟩|⟨m0,m1,rfl⟩|⟨m0,m1,m2,rfl⟩|⟨m0,m1,m2,m3,rfl⟩|⟨m0,m1,m2,m3,m4,rfl⟩|⟨m0,m1,m2,m3,m4,m5,rfl⟩)|⟨m0,m1,m2,m3,m4,m5,m6,rfl⟩
 ·simp at h2
 all_goals exact aht mc h h2 q q6
def IY:Code:=aW pg 64 [1,1,0,1,0,0]
def Dt:Code:=aW pg 64 [1,1,0,1,0,1]
def tw:List<|Nat×AV:=[(3,(.ptr<|some (279,0))),(4,(.ptr<|some (280,0))),(5,(.ptr<|some (281,0))),(12,(.func (.func 105) [] [(.ptr<|some (282,0))]))]
def oG(n:Nat)(cap:cR)(x:Nat->Option ae)(v:Int)(w1 w2:AV):List<|Nat×Option ae:=aq++[(270,some<|Yw n cap),(271,some<|aJ kg<|mJ n),(272,x 0),(273,x 1),(274,x 2),(275,x 3),(276,x 4),(277,x 5),(279,some<|eP<|.int .i64 v),(280,some<|eP w1),(281,some<|eP w2),(282,some<|.cells 1 (Tr.fill [.ptr<|some (270,0)] 0 .nil) [])]
def sG(n:Nat)(cap:cR)(x:Nat->Option ae)(v:Int)(w1 w2:AV)(st:LoopState)(p:Option Code):AS:=aj (oG n cap x v w1 w2++[(283,some .defs),(284,some<|.loop st p 64 (aP tw) 22 [13] IY Dt 283)]) 285
abbrev rK(n:Nat)(cap:cR)(x:Nat->Option ae)(v:Int):AS:=sG n cap x v (.int .i64 0) (.bool false) .ready none
def pI(n:Nat)(cap:cR)(x:Nat->Option ae)(v:Int):Option Int->AS
 |none=>rK n cap x v
 |some z=>sG n cap x v (.int .i64 z) (.bool true) .done<|some .ret
def oI(b:Bool)(z:Int):Option Int:=match b with
 |true=>some z
 |false=>none
def bP(b:Bool)(p q:Prop):Prop:=match b with
 |true=>p
 |false=>q
theorem rgT{A L:Prop}{m:List<|Int×Int}{v:Int}(b:Bool)(a:A)(hh:lO m v=b)(l:L):A/\((lO m v=true->bP b L False)/\(lO m v=false->bP b False L)):=by subst hh;refine⟨a,fun h=>?_,fun h=>?_⟩<;>(rw[h];exact l)
abbrev zn(n:Nat)(cap:cR)(x:Nat->Option ae)(v:Int)(i:Nat)(s:AS)(y:AV):Prop:=bh pg (sp []) FU 5 (.round 284) [.map<|some<|272+i] (rK n cap x v)= .ok y s
theorem rgW{n:Nat}{cap:cR}{x:Nat->Option ae}{v:Int}{m:List<|Int×Int}(b:Bool)(hx:x i=some (bM m))(hh:lO m v=b)(k1:getLoop 284 (rK n cap x v)= .ok (.loop .ready none 64 (aP tw) 22 [13] IY Dt 283) (rK n cap x v):=by as_aux_lemma=>kernel_rfl)(k2:eh pg (bh pg (sp []) FU 4) 2 ⟨64,je [13] [.map<|some<|272+i]<|aP tw,22,[.code IY,.beginRound,.code Dt],[],some 284⟩ (rK n cap x v)= .ok (.go ⟨64,((je [13] [.map<|some<|272+i]<|aP tw).put 6<|some<|.map<|some<|272+i),22,[.code Dt],[],some 284⟩) (sG n cap x v (.int .i64 0) (.bool false) .busy none):=by as_aux_lemma=>kernel_rfl)(k:((x i=some (bM m))/\((lO m v=true->bP b ((none:Option Nat)=none/\([]:List Nat)=[]/\(some (.bool !b,pI n cap x v<|oI b<|getM m v):Option<|AV×AS)=some (.bool !b,pI n cap x v<|oI b<|getM m v)) False)/\(lO m v=false->bP b False ((none:Option Nat)=none/\([]:List Nat)=[]/\(some (.bool !b,pI n cap x v<|oI b<|getM m v):Option<|AV×AS)=some (.bool !b,pI n cap x v<|oI b<|getM m v)))))=wp (fp []) 900 4 (.fr 64 22 [.code Dt] ((je [13] [.map<|some<|272+i]<|aP tw).put 6<|some<|.map<|some<|272+i)<|sG n cap x v (.int .i64 0) (.bool false) .busy none) (.st 2<|.rg<|.go 2<|.Zh m (@Bool.rec (fun _=>Pl) .no (.go 5<|.en<|.st 5<|.cut .no) b)<|@Bool.rec (fun _=>Pl) (.go 5<|.en<|.st 5<|.cut .no) .no b) [] (fun _ _ _=>False)
 (fun fr s1 _=>fr.round=none/\fr.defers=[]/\zO pg (bh pg (sp []) FU 4) 284 fr s1=some (.bool !b,pI n cap x v<|oI b<|getM m v)):=by as_aux_lemma=>kernel_rfl):zn n cap x v i (pI n cap x v<|oI b<|getM m v)<|.bool !b:=
 DO k1 rfl (Chunk.ev 2 _ _ _ _ k2<|zH (E:=fp []) eJ rfl (fun fr s p h=>DN h.1 h.2.1 h.2.2) 900 _ (rgT b hx hh<|IN _ _) k)
theorem Wi{n:Nat}{cap:cR}{x:Nat->Option ae}{v:Int}{m:List<|Int×Int}(b:Bool)(hi:i<6)(hx:x i=some (bM m))(hh:lO m v=b):zn n cap x v i (pI n cap x v<|oI b<|getM m v)<|.bool !b:=by rcases(by omega:i=0\/i=1\/i=2\/i=3\/i=4\/i=5) with rfl|rfl|rfl|rfl|rfl|rfl<;>cases b<;>exact rgW _ hx hh
def pD(s0 sE:AS)(b:Bool):Nat->Nat->Pl
 |j,0=> @Bool.rec (fun _=>Pl) (.rt 11 .no) (.st j<|.rg<|.go 8<|.cy (.bool false) sE<|.go 1<|.en<|.rt 2 .no) b
 |j,k+1=>.st j<|.rg<|.go 8<|.cy (.bool true) s0<|.go 1<|.en<|pD s0 sE b 13 k
def TD(n:Nat)(cap:cR)(x:Nat->Option ae)(v z:Int)(b:Bool):Nat->Nat->Prop
 |i,0=>bP b (zn n cap x v (i - 1) (pI n cap x v<|some z) (.bool false)/\(AV.tuple []= .tuple []/\pI n cap x v (some z)=pI n cap x v (some z)))<|AV.tuple []= .tuple []/\rK n cap x v=rK n cap x v
 |i,k+1=>zn n cap x v (i - 1) (rK n cap x v) (.bool true)/\TD n cap x v z b (i - 1) k
def xB(ms:bB)(i:Nat):Option ae:=(ms[i]?).map bM
theorem Wj{n:Nat}{v:Int}(h6:ms.length<=6):∀i,i<=ms.length->∃k b z,((b=true/\k<i)\/(b=false/\k=i))/\gB ms v i=oI b z/\TD n cap (xB ms) v z b i k
 |0,_=>⟨0,false,0,.inr ⟨rfl,rfl⟩,rfl,rfl,rfl⟩
 |i+1,hi=>by
  have hx:xB ms i=some (bM<|ms.getD i []):=by unfold xB;rw[List.getD_eq_getElem?_getD,List.getElem?_eq_getElem ah];rfl
  cases hh:lO (ms.getD i []) v with
  |true=>exact⟨0,true,getM (ms.getD i []) v,.inl ⟨rfl,by omega⟩,by unfold gB;rw[hh];rfl,Wi true ah hx hh,rfl,rfl⟩
  |false=>obtain⟨k,b,z,h1,h2,h3⟩:=Wj (n:=n) h6 i ah;exact⟨k+1,b,z,h1.imp (fun h=>⟨h.1,by omega⟩) fun h=>⟨h.1,by omega⟩,by rw[←h2,gB,hh];rfl,Wi false ah hx hh,h3⟩
abbrev Sf(s0 sE:AS):Prop:=bh pg (sp []) FU 6 (.fn 105) [.yield 284,.ptr<|some (282,0)] s0= .ok (.tuple []) sE
theorem ZO{n:Nat}{x:Nat->Option ae}{v z:Int}{b:Bool}{k:Nat}(h:TD n cap x v z b n k)(q:TD n cap x v z b n k=wp (fp []) 900 5 (.fr 105 (max Tryz.f105.ntmps 2) (dt 105 []) (eg [.yield 284,.ptr<|some (282,0)])<|rK n cap x v) (pD (rK n cap x v) (pI n cap x v<|some z) b 12 k) (aA Tryz.f105) (fun y s _=>y= .tuple []/\s=pI n cap x v (oI b z)) (fun _ _ _=>False):=by as_aux_lemma=>kernel_rfl):Sf (rK n cap x v)<|pI n cap x v<|oI b z:=by obtain⟨y,s2,q1,rfl,rfl⟩:=mT.call (E:=fp []) (n:=5) (args:=[.yield 284,.ptr<|some (282,0)]) Tryz.func105 (xH Tryz.func105 cC)<|wc (R:=fun y s=>y= .tuple []/\s=pI n cap x v (oI b z)) (C:=fun _ _ _=>False) eJ rfl (fun _ _ _ h=>h.elim) 900 _ h q;exact q1
theorem afM{v:Int}(h:1<=ms.length/\ms.length<=6):Sf (rK ms.length cap (xB ms) v)<|pI ms.length cap (xB ms) v<|gB ms v ms.length:=by
 obtain⟨k,b,z,h1,h2,h3⟩:=Wj (n:=ms.length) (cap:=cap) (v:=v) h.2 ms.length<|Nat.le_refl _;rw[h2];revert h1 h3;generalize xB ms=x;generalize ms.length=n at h;intro h1 h3;rcases(by omega:n=1\/n=2\/n=3\/n=4\/n=5\/n=6) with rfl|rfl|rfl|rfl|rfl|rfl<;>rcases h1 with⟨rfl,h1⟩|⟨rfl,rfl⟩
 all_goals first
  |(rcases(by omega:k=0\/k=1\/k=2\/k=3\/k=4\/k=5) with rfl|rfl|rfl|rfl|rfl|rfl<;>first|(exfalso;omega)|exact ZO h3)
  |exact ZO h3
def Sg:List Item:=[.inBlock 0,.code<|aW pg 64 [1,1,1]]
def Du:AF:=⟨64,aP tw,max Tryz.f64.ntmps 2,.code (aW pg 64 [1,1,0,1,0])::Sg,[],none⟩
theorem ajh:aW pg 64 [1,1,0,1,0]= .rangeFunc (.tmp 12) #[13] IY Dt:=by kernel_rfl
def sZ(n:Nat)(cap:cR)(x:Nat->Option ae)(v:Int)(w1 w2:AV)(o:Option ae)(p:Option Code):AS:=aj (oG n cap x v w1 w2++[(283,o),(284,some<|.loop .exhausted p 64 (aP tw) 22 [13] IY Dt 283)]) 285
theorem afN{v:Int}{o:Option ae}(h:1<=ms.length/\ms.length<=6):∀m q,(m,q)∈gE ms cap->(sZ ms.length cap (xB ms) v w1 w2 o p).h.get m=some q:=fun m q hm=>by
 rcases jc h with⟨m0,rfl⟩|⟨m0,m1,rfl⟩|⟨m0,m1,m2,rfl⟩|⟨m0,m1,m2,m3,rfl⟩|⟨m0,m1,m2,m3,m4,rfl⟩|⟨m0,m1,m2,m3,m4,m5,rfl⟩
 all_goals
  simp only[gE,qT,List.mem_cons,List.not_mem_nil,or_false] at hm
  repeat' (rcases hm with hm|hm)
  all_goals kernel_rfl
theorem ZP{Y:AV}{v:Int}(mc:Mt [] B)(hb:fy ms)(h6:ms.length<=6)(hc:uI ms.length cap){sE:AS}(dn:Sf (rK ms.length cap (xB ms) v) sE)(h5:lh 284 sE= .ok p (sZ ms.length cap (xB ms) v w1 w2 (some .defs) p))(hd:yN pg (bh pg (sp []) FU 6) (aA Tryz.f64) 8 283 ⟨64,aP tw,max Tryz.f64.ntmps 2,andThen p Sg,[],none⟩ (sZ ms.length cap (xB ms) v w1 w2 (some .defs) p)=some (Y,sZ ms.length cap (xB ms) v w1 w2 none p)):
 av pg B 271 (mj XT pg (aA Tryz.f64) 3 Y<|cv ms) Du (aj (oG ms.length cap (xB ms) v (.int .i64 0)<|.bool false) 283):=by
 unfold Du;rw[ajh];exact av.chunk bU mc.2.2.1 mc.2.2.2 (GS (gv:=.func (.func 105) [] [.ptr<|some (282,0)]) (s1:=aj (oG ms.length cap (xB ms) v (.int .i64 0) (.bool false)++[(283,some .defs)]) 284) cC cC cC dn h5) (by show 271<=283;omega)<|(OS (l:=283) (k:=8) (fr:=⟨64,aP tw,max Tryz.f64.ntmps 2,andThen p Sg,[],none⟩) bU mc.2.2.1 mc.2.2.2 rfl rfl hd ⟨rfl,_,.buf _ hb cap hc,afN ⟨hb.1.1,h6⟩⟩).2.2 (by show 271<=285;omega)
theorem goG{v:Int}{y v':AV}(mc:Mt [] B)(H:av pg B 271 (mj XT pg (aA Tryz.f64) 3 y v') Du<|aj (oG ms.length cap (xB ms) v (.int .i64 0)<|.bool false) 283)(k:((tw.map (fun q=>some q.2)=tw.map (fun q=>some q.2))/\((oG ms.length cap (xB ms) v (.int .i64 0)<|.bool false).map (fun q=>q.2)=(oG ms.length cap (xB ms) v (.int .i64 0)<|.bool false).map (fun q=>q.2))/\(Du=Du/\aj (oG ms.length cap (xB ms) v (.int .i64 0)<|.bool false) 283=aj (oG ms.length cap (xB ms) v (.int .i64 0)<|.bool false) 283))=wp (rG []) 900 6 (.fr 64 (max Tryz.f64.ntmps 2) (dt 64 []) (eg [.ptr<|some (270,0),.int .i64 v])<|aj (aq++bQ (gE ms cap)) 279)
 (.st 9<|.rg<|.go 1<|.il<|.rt 5<|.en<|.st 1<|.ls tw (oG ms.length cap (xB ms) v (.int .i64 0)<|.bool false) 283 .no) (aA Tryz.f64) (fun Y s _=>nG 3 y v' s Y) (fun fr s1 _=>fr=Du/\s1=aj (oG ms.length cap (xB ms) v (.int .i64 0)<|.bool false) 283):=by as_aux_lemma=>kernel_rfl):
 av pg B 271 (mj XT pg (aA Tryz.f64) 3 y v') (sF 64 Tryz.f64 [.ptr<|some (270,0),.int .i64 v]) (aj (aq++bQ (gE ms cap)) 279):=
 IM mc (fun fr s1 _ hC=>by obtain⟨rfl,rfl⟩:=hC;exact H) _ ⟨rfl,rfl,rfl,rfl⟩ k cC
theorem aea{v:Int}(mc:Mt [] B)(hb:fy ms)(hc:uI ms.length cap)(h6:ms.length<=6):SB B 64 (max Tryz.f64.ntmps 2) (aA Tryz.f64) [.int .i64 v] ms cap (.tuple [.int .i64 (lu ms v).1,.bool (lu ms v).2]) ms:=by
 have dn:=afM (cap:=cap) (v:=v) ⟨hb.1.1,h6⟩;have H:av pg B 271 (mj XT pg (aA Tryz.f64) 3 (.tuple [.int .i64 (lu ms v).1,.bool (lu ms v).2])<|cv ms) Du<|aj (oG ms.length cap (xB ms) v (.int .i64 0)<|.bool false) 283:=by
  unfold lu;revert dn;cases gB ms v ms.length with
  |none=>exact fun dn=>ZP mc hb h6 hc dn (w1:=.int .i64 0) (w2:=.bool false) (p:=none) cC cC
  |some z=>exact fun dn=>ZP mc hb h6 hc dn (w1:=.int .i64 z) (w2:=.bool true) (p:=some .ret) cC cC
 rcases jc ⟨hb.1.1,h6⟩ with⟨m0,rfl⟩|⟨m0,m1,rfl⟩|⟨m0,m1,m2,rfl⟩|⟨m0,m1,m2,m3,rfl⟩|⟨m0,m1,m2,m3,m4,rfl⟩|⟨m0,m1,m2,m3,m4,m5,rfl⟩<;>exact goG mc H
end
section
variable {L:bV}
theorem G4{L0:bV}{fn:Func}{F:bB->List AV->Option (AV×bB)}(hP:bC pg)(h:aV L)(h0:aV L0)(ch:Tryz.prog.funcs[g]? =some fn)(H:∀a rest y a',F a rest=some (y,a')->max fn.ntmps (rest.length+1)<=top/\∀B cap,Mt L0 B->fy a->uI a.length cap->SB B g (max fn.ntmps<|rest.length+1) fn.results.toList rest a cap y a')(cw:fn.body=some (aW pg g []):=by kernel_rfl)(hn:(fn.name == "runtime.NumGoroutine")=false:=by kernel_rfl):aV<|(g,.tok 3<|eW cv F)::L:=by
 refine Eb rJ hP gL p7 ir gZ kI kl h h0 ch cw hn fun v rest y v' e=>?_;obtain⟨a,a',rfl,e1,rfl⟩:=BF e;obtain⟨q1,q2⟩:=H a rest y a' e1;refine⟨q1,fun L hx=>?_⟩;generalize hv:cv a=v at hx;cases hx with
 |buf b hb cap hc=>have:=xJ _ _ hv;subst this;exact⟨279,by omega,aL.1 aZ,ad8 hb,fun B mc=>q2 B cap mc hb hc⟩
def HK:bB->List AV->Option (AV×bB)
 |a,[.int .i64 v,.int .i64 x]=>if a.length<=6 then some (.int .i64 0,mH a v x) else none
 |_,_=>none
def Cv:bB->List AV->Option (AV×bB)
 |a,[.int .i64 v]=>if a.length<=6 then some (.tuple [.int .i64 (lu a v).1,.bool (lu a v).2],a) else none
 |_,_=>none
def KZ:bB->List AV->Option (AV×bB)
 |a,[]=>if a.length<7 then some (.int .i64 0,a++[[]]) else none
 |_,_=>none
def K0:bB->List AV->Option (AV×bB)
 |a,[]=>if 2<=a.length/\a.length<=6 then some (.int .i64 0,a.dropLast) else none
 |_,_=>none
def Kg:bB->List AV->Option (AV×bB)
 |a,[]=>if 2<=a.length then some (.int .i64 0,gU a) else none
 |_,_=>none
def HL:FuncId×KE:=(98,.tok 3<|eW cv HK)
def PW:FuncId×KE:=(100,.tok 3<|eW cv KZ)
def PX:FuncId×KE:=(99,.tok 3<|eW cv K0)
def Eg:FuncId×KE:=(96,.tok 3<|eW cv Kg)
def lp:FuncId×KE:=(64,.tok 3<|eW cv Cv)
theorem aeb(hP:bC pg)(h:aV L):aV<|HL::L:=G4 hP h cN Tryz.func98 fun a rest y a' e=>by unfold HK at e;split at e<;>(try split at e)<;>cases e;exact⟨aL.1 aZ,fun B cap mc hb hc=>ad9 mc hb hc ‹_›⟩
theorem acV(hP:bC pg)(h:aV L):aV<|PW::L:=G4 hP h cN Tryz.func100 fun a rest y a' e=>by unfold KZ at e;split at e<;>(try split at e)<;>cases e;exact⟨aL.1 aZ,fun B cap mc hb hc=>acT mc hb hc<|Nat.le_of_lt_succ ‹_›⟩
theorem acW(hP:bC pg)(h:aV L):aV<|PX::L:=G4 hP h cN Tryz.func99 fun a rest y a' e=>by unfold K0 at e;split at e<;>(try split at e)<;>cases e;rename_i q;exact⟨aL.1 aZ,fun B cap mc hb hc=>acU mc hb hc q.1 q.2⟩
theorem abY(hP:bC pg)(h:aV L):aV<|Eg::L:=G4 hP h (ahp hP cN) Tryz.func96 fun a rest y a' e=>by unfold Kg at e;split at e<;>(try split at e)<;>cases e;exact⟨aL.1 aZ,fun B cap mc hb hc=>NI mc hb hc ‹_›⟩
theorem JX(hP:bC pg)(h:aV L):aV<|lp::L:=G4 hP h cN Tryz.func64 fun a rest y a' e=>by unfold Cv at e;split at e<;>(try split at e)<;>cases e;exact⟨aL.1 aZ,fun B cap mc hb hc=>aea mc hb hc ‹_›⟩
def Qy:List AV->Option (Option AV×(AV->AV))
 |[]=>some (some<|cv [[]],fun p=>p)
 |_=>none
def EY:FuncId×KE:=(42,.new 3 Qy)
def oN:List<|Nat×Option ae:=[(270,some<|HW []),(271,some<|aJ kg [.map<|some 270]),(272,some<|aJ kg [.slice (some (271,0)) 1<|.known 1])]
theorem PY:fy [[]]:=⟨by show 1<=1/\1<=7;omega,fun m hm=>by rw[List.mem_singleton] at hm;subst hm;exact List.nodup_nil⟩
theorem ahu:ZH 270 273 279 [(0,.ptr<|some (272,0))] oN [(0,.ptr<|some (270,0))] (bQ<|gE [[]]<|.known 1) ⟨42,aP [(0,.ptr<|some (270,0))],max Tryz.f42.ntmps 0,(dt 42 [1,1]),[],none⟩<|aj (aq++bQ (gE [[]]<|.known 1)) 279:=⟨rfl,rfl,Cu (ps:=[(270,272),(271,271),(272,270)]) ah cC cC (fun r hr _=>⟨⟨by unfold top;omega,_,mi 0,(bA.ptr<|rq hr).z⟩,trivial⟩) fun r hr _=>⟨mw (mi 2) (rq hr) qM<|Ik (l:=[.slice (some (271,0)) 1<|.known 1]) ⟨(bA.slice<|rq hr).z,trivial⟩ (by simp) rfl,mw (mi 1) (rq hr) qM<|Ik (l:=[.map<|some 270]) ⟨(bA.map<|rq hr).z,trivial⟩ (by simp) rfl,mw (mi 0) (rq hr) W3<|XN List.nodup_nil,trivial⟩,rfl,rfl⟩
theorem aec(hP:bC pg)(h:aV L):aV<|EY::L:=by
 refine J8 rJ hP gL (aL.1 aZ) ir gZ h cN Tryz.func42 (body:=aW pg 42 []) aZ aZ fun args p e=>?_;unfold Qy at e;split at e<;>cases e;refine⟨aL.1 aZ,fun e0=>(by cases e0),fun v e0=>?_⟩;injection e0 with e0;subst e0
 refine⟨we.ptr,fun B mc=>?_⟩;rw[←gN];exact wC mc (C:=fun fr s1 _=>fr=⟨42,aP [(0,.ptr<|some (270,0))],max Tryz.f42.ntmps 0,(dt 42 [1,1]),[],none⟩/\s1=aj (aq++bQ (gE [[]]<|.known 1)) 279) (fun fr s1 _ hC=>by obtain⟨rfl,rfl⟩:=hC;exact wS mc (.rt 1 .no)<|Ra (ms:=[[]]) (cap:=.known 1) 279 PY (.inr ⟨rfl,rfl⟩)<|.ptr<|some (270,0)) (.st 4<|.rn [(0,.ptr<|some (272,0))] (aq++oN) [(0,.ptr<|some (270,0))] (aq++bQ (gE [[]]<|.known 1)) 273 279 .no) ahu
end
end
end iF
end
section
open Go Go.Rn Go.RowKit Go.Proofs
namespace iw
open cr fF cU dk dB gF fT ia ig iv
variable {st:VS} {T:Prop} {x7 x6 x5 x4 x3 x2 x1 x0:Int} {s:AS} {rest:List AV} {q lg G:Nat} {cap:cR} {L:bV}
noncomputable section
abbrev rL(L:bV):Env:=wA pg 270 eC dW L 273 true
def Il:FuncId×KE:=(85,.raw fun a b c=>wE a b c<|aY Al)
def l8(x0 x1 x2 x3 x4 x5 x6 x7:Int):List Int:=[x0,x1,x2,x3,x4,x5,x6,x7]
theorem evU{n m off len:Nat}{cs:List AV}{a b v:AV}(h1:(a.hi&&(b.hi&&HG len cap))=true)(hk:qk 270 dW eC s=true)(hm:Nat.blt m (dL 270 dW eC s).nx=true)(ht:Nat.blt m top=true)(h2:cellsOf ((dL 270 dW eC s).h.get m) off len=some cs)(h3:cs.all AV.gi=true)(h4:aY Al [a,.ab (nm cs) 0 len,b]=some v)(h5:v.yw=true):
 bh pg (sp [Il]) FU (n+1) (.fn 85) [a,.slice (some (m,off)) len cap,b] s= .ok v (bc m<|dL 270 dW eC s):=
 ad3 (P:=pg) (sp:=sp [Il]) aZ h1 hk hm ht h2 h3 h4 h5
theorem oe{y Y:AV}(e:Y=y)(h1:s.h.get 270=some (bu<|dZ st.R 271 272))(h2:s.h.get 271=some (.tok 3 st.u))(h3:s.h.get 272=some (bu st.row)):Y=y/\∀m o,(m,o)∈dQ 270 3 st->s.h.get m=some o:=by
 refine⟨e,fun m o hm=>?_⟩;simp only[dQ,List.mem_cons,List.not_mem_nil,or_false] at hm;rcases hm with hm|hm|hm<;>(injection hm with a b;subst a;subst b)
 ·exact h1
 ·exact h2
 ·exact h3
theorem ahv{e:Ex}{aG:List Int}(hg:dj aH 1 (.ab G q lg) aG):aY Al [.agg<|aM e,.ab (nm [.int .i64 x0,.int .i64 x1,.int .i64 x2,.int .i64 x3,.int .i64 x4,.int .i64 x5,.int .i64 x6,.int .i64 x7]) 0 8,.ab G q lg]=some (Ft<|Ak e (l8 x0 x1 x2 x3 x4 x5 x6 x7) aG):=ff Al.bS ⟨e,_,0,8,G,q,lg,l8 x0 x1 x2 x3 x4 x5 x6 x7,aG,rfl,dj.aD eI<|l8 x0 x1 x2 x3 x4 x5 x6 x7,hg,rfl⟩
noncomputable abbrev PZ(vars:Int)(G q lg:Nat)(x0 x1 x2 x3 x4 x5 x6 x7:Int)(len:Nat)(cap:cR)(steps:Int)(u:AV)(row:List AV)(op n:Int)(N L:Nat):List<|Nat×Option ae:=aq++[(270,some<|.cells 13 (Tr.fill [(i6 vars),(.ab G q lg),(i6 x0),(i6 x1),(i6 x2),(i6 x3),(i6 x4),(i6 x5),(i6 x6),(i6 x7),(.ptr<|some (271,0)),(.slice (some (272,0)) (len) cap),(i6 steps)] 0 .nil) []),(271,(some<|.tok 3 u)),(272,(some<|bu row)),(273,some<|.cells 3 (Tr.fill [(u8<|op),(i6 n),(.ab N 0 L)] 0 .nil) [])]
theorem aji{B:aI}{vars steps:Int}{len:Nat}{u:AV}{row:List AV}{N L:Nat}{op n z f:Int}(mc:Mt [Il] B)(hG:(((.agg [(u8<|op),(i6 n),(.ab N 0 L)]):AV).hi&&((.ab G q lg:AV).hi&&HG 8 (.known 8)))=true)(he:aY Al [(.agg [(u8<|op),(i6 n),(.ab N 0 L)]),.ab (nm [.int .i64 x0,.int .i64 x1,.int .i64 x2,.int .i64 x3,.int .i64 x4,.int .i64 x5,.int .i64 x6,.int .i64 x7]) 0 8,.ab G q lg]=some (.tuple [.int .i64 z,.int .i64 f])):av pg B 273 (ij 270 3 pg (aA Tryz.f61) (.int .i64 z) (⟨(⟨[.int .i64 vars,.ab G q lg,.int .i64 x0,.int .i64 x1,.int .i64 x2,.int .i64 x3,.int .i64 x4,.int .i64 x5,.int .i64 x6,.int .i64 x7],len,cap,[.int .i64 steps]⟩:RS),u,row⟩:VS)) (sF 61 Tryz.f61 [(.ptr<|some (270,0)),(.agg [(u8<|op),(i6 n),(.ab N 0 L)])])<|aj (aq++bQ (dQ 270 3 (⟨(⟨[.int .i64 vars,.ab G q lg,.int .i64 x0,.int .i64 x1,.int .i64 x2,.int .i64 x3,.int .i64 x4,.int .i64 x5,.int .i64 x6,.int .i64 x7],len,cap,[.int .i64 steps]⟩:RS),u,row⟩:VS))) 273:=l9 (E:=rL [Il]) eJ rfl bU mc.2.2.1 mc.2.2.2 900 (.st 3<|.rg<|.go 9<|.cu (.tuple [(i6 z),(i6 f)]) (bc 270<|dL 270 dW eC (⟨fL<|PZ vars G q lg x0 x1 x2 x3 x4 x5 x6 x7 len cap steps u row op n N L,274,274,[],[]⟩:AS))<|.go 5<|.en<|.rt 3 .no)<|ai (evU (n:=5) (m:=270) (off:=2) (len:=8) (cap:=.known 8) (cs:=[.int .i64 x0,.int .i64 x1,.int .i64 x2,.int .i64 x3,.int .i64 x4,.int .i64 x5,.int .i64 x6,.int .i64 x7]) (s:=(⟨fL<|PZ vars G q lg x0 x1 x2 x3 x4 x5 x6 x7 len cap steps u row op n N L,274,274,[],[]⟩:AS)) hG cn cn cn cn cn he cn)<|oe (st:=(⟨(⟨[.int .i64 vars,.ab G q lg,.int .i64 x0,.int .i64 x1,.int .i64 x2,.int .i64 x3,.int .i64 x4,.int .i64 x5,.int .i64 x6,.int .i64 x7],len,cap,[.int .i64 steps]⟩:RS),u,row⟩:VS)) (s:=aj (PZ vars G q lg x0 x1 x2 x3 x4 x5 x6 x7 len cap steps u row op n N L) 274) (show((i6 z):AV)=(.int .i64 z) from rfl) cn cn cn
open Classical in
def vR(R:VS->List AV->AV->Prop)(st:VS)(rest:List AV):Option AV:=if h:∃v,R st rest v then some h.choose else none
theorem Hl{R:VS->List AV->AV->Prop}{v:AV}(h:vR R st rest=some v):R st rest v:=by
 unfold vR at h;split at h
 ·rename_i q;injection h with h;rw[←h];exact q.choose_spec
 ·cases h
theorem EZ{R:VS->List AV->AV->Prop}(hd:∀st rest v v',R st rest v->R st rest v'->v=v'){v:AV}(h:R st rest v):vR R st rest=some v:=by unfold vR;have q:∃v,R st rest v:=⟨v,h⟩;rw[dif_pos q,hd _ _ _ _ q.choose_spec h]
structure MN where
 vars:Int
 G:Nat
 q:Nat
 lg:Nat
 aG:List Int
 x0:Int
 x1:Int
 x2:Int
 x3:Int
 x4:Int
 x5:Int
 x6:Int
 x7:Int
 steps:Int
def MN.l(a:MN):List Int:=l8 a.x0 a.x1 a.x2 a.x3 a.x4 a.x5 a.x6 a.x7
def MN.pre(a:MN):List AV:=[.int .i64 a.vars,.ab a.G a.q a.lg,.int .i64 a.x0,.int .i64 a.x1,.int .i64 a.x2,.int .i64 a.x3,.int .i64 a.x4,.int .i64 a.x5,.int .i64 a.x6,.int .i64 a.x7]
def MN.row(a:MN)(x y z:AV):List AV:=a.pre++[x,y,z]
abbrev vG(r:Nat):AS->AS:=XO 270 dW eC 270 271 r
abbrev vF(r:Nat)(st:VS):AS->AS:=LD 270 dW eC 3 270 271 r st
abbrev vQ(r:Nat)(st:VS):AS->Prop:=HJ 270 dW eC 3 270 271 r st
abbrev MM(st:VS)(r:Nat)(T:Prop):Prop:=(true=true/\true=true/\some (bu<|dZ st.R 271 r)=some (bu<|dZ st.R 271 r)/\some (ae.tok 3 st.u)=some (.tok 3 st.u)/\some (bu st.row)=some (bu st.row))/\T
abbrev MO(r:Nat):Bool:= !Nat.beq 270 271&&(!Nat.beq 270 r&& !Nat.beq 271 r)
abbrev MP(r:Nat):Bool:=Nat.blt 270 top&&(Nat.blt 271 top&&Nat.blt r top)
theorem ks(L:bV)(g r:Nat)(val:VS->List AV->Option AV)(rest:List AV)(st:VS)(y:AV)(ho:bR 10 st=true)(hv:val st rest=some y)(hr:rest.all AV.hi=true)(hy:y.hi=true)(t:T)(h1:sp L g=some (nC 10 3 val 270 eC dW):=by as_aux_lemma=>kernel_rfl)(h2:MO r=true:=by as_aux_lemma=>kernel_rfl)(h3:MP r=true:=by as_aux_lemma=>kernel_rfl)(h4:st.R.pre.length=10:=by rfl):(∀s,vQ r st s->bh pg (sp L) FU 6 (.fn g) (.ptr (some (270,0))::rest) s= .ok y (vG r s))/\MM st r T:=⟨aed (P:=pg) (F:=FU) (n:=5) h1 hr h2 h3 h4 ho hv hy,⟨rfl,rfl,rfl,rfl,rfl⟩,t⟩
theorem Be(L:bV)(g r:Nat)(val:VS->List AV->Option AV)(rest:List AV)(st:VS)(y:AV)(ho:bR 10 st=true)(hv:val st rest=some y)(t:T)(hr:rest.all AV.hi=true:=by as_aux_lemma=>kernel_rfl)(hy:y.hi=true:=by as_aux_lemma=>kernel_rfl)(h1:sp L g=some (nC 10 3 val 270 eC dW):=by as_aux_lemma=>kernel_rfl)(h2:MO r=true:=by as_aux_lemma=>kernel_rfl)(h3:MP r=true:=by as_aux_lemma=>kernel_rfl)(h4:st.R.pre.length=10:=by rfl):(∀s,vQ r st s->bh pg (sp L) FU 6 (.fn g) (.ptr (some (270,0))::rest) s= .ok y (vG r s))/\MM st r T:=ks L g r val rest st y ho hv hr hy t h1 h2 h3 h4
theorem ZQ(L:bV)(g r:Nat)(val:VS->List AV->Option (AV×VS))(rest:List AV)(st br:VS)(ho:bR 10 st=true)(hv:val st rest=some (.tuple [],br))(kP:bR 10 br=true)(hr:rest.all AV.hi=true)(t:T)(h1:sp L g=some (nB 10 3 val 270 eC dW):=by as_aux_lemma=>kernel_rfl)(h2:MO r=true:=by as_aux_lemma=>kernel_rfl)(h3:MP r=true:=by as_aux_lemma=>kernel_rfl)(h4:st.R.pre.length=10:=by rfl):(∀s,vQ r st s->bh pg (sp L) FU 6 (.fn g) (.ptr (some (270,0))::rest) s= .ok (.tuple []) (vF r br s))/\MM st r T:=⟨Pt (P:=pg) (F:=FU) (n:=5) h1 hr h2 h3 h4 ho hv rfl kP,⟨rfl,rfl,rfl,rfl,rfl⟩,t⟩
theorem xk(L:bV)(g r:Nat)(val:VS->List AV->Option (AV×VS))(rest:List AV)(st br:VS)(ho:bR 10 st=true)(hv:val st rest=some (.tuple [],br))(kP:bR 10 br=true)(t:T)(hr:rest.all AV.hi=true:=by as_aux_lemma=>kernel_rfl)(h1:sp L g=some (nB 10 3 val 270 eC dW):=by as_aux_lemma=>kernel_rfl)(h2:MO r=true:=by as_aux_lemma=>kernel_rfl)(h3:MP r=true:=by as_aux_lemma=>kernel_rfl)(h4:st.R.pre.length=10:=by rfl):(∀s,vQ r st s->bh pg (sp L) FU 6 (.fn g) (.ptr (some (270,0))::rest) s= .ok (.tuple []) (vF r br s))/\MM st r T:=ZQ L g r val rest st br ho hv kP hr t h1 h2 h3 h4
def tz(st:VS)(a:MN):Prop:=st.R.pre=a.pre/\st.R.post=[.int .i64 a.steps]/\dj aH 1 (.ab a.G a.q a.lg) a.aG
theorem tz.inj{a b:MN}(h:tz st a)(k:tz st b):a=b:=by obtain⟨h1,h2,h3⟩:=h;obtain⟨k1,k2,k3⟩:=k;rw[h1] at k1;rw[h2] at k2;obtain⟨a1,a2,a3,a4,a5,c0,c1,c2,c3,c4,c5,c6,c7,a6⟩:=a;obtain⟨b1,b2,b3,b4,b5,d0,d1,d2,d3,d4,d5,d6,d7,b6⟩:=b;simp only[MN.pre,List.cons.injEq,AV.int.injEq,AV.ab.injEq,true_and,_root_.and_true] at k1 k2;obtain⟨rfl,⟨rfl,rfl,rfl⟩,rfl,rfl,rfl,rfl,rfl,rfl,rfl,rfl⟩:=k1;subst k2;have e5:a5=b5:=dj.inj rW h3 k3;subst e5;rfl
def jH(st:VS)(rest:List AV)(v:AV):Prop:=∃(a:MN) (e:Ex),tz st a/\rest=[.agg<|aM e]/\v= .int .i64 (Ak e a.l a.aG).1
theorem jH.bS(st:VS)(rest:List AV)(v v':AV)(h:jH st rest v)(h':jH st rest v'):v=v':=by obtain⟨a,e,h1,rfl,rfl⟩:=h;obtain⟨a',e',k1,h2,rfl⟩:=h';simp only[List.cons.injEq,AV.agg.injEq,_root_.and_true] at h2;rw[nU _ _ h2,h1.inj k1]
def iN:FuncId×KE:=(61,.raw<|nC 10 3<|vR jH)
theorem yQ:270+3<=top:=aL.1 aZ
theorem afO(hP:bC pg)(h:aV L):aV<|Il::L:=by
 refine afG hP gL p7 ir gZ h (V5 hP<|Vb hP 6 cN) Tryz.func85 (body:=aW pg 85 []) aZ aZ fun args v e=>?_;obtain⟨⟨op,n,l⟩,M,p,lm,G,q,lg,lo,aG,rfl,i1,i2,rfl⟩:=gf e;refine⟨aL.1 aZ,fun B mc=>?_⟩;rw[←gN];have c:=PO (e:=.mk op n l);have d:bit (eQ 6<|.mk op n l)=1->_:=fun h=>Pp (k:=6) (e:=.mk op n l) i1 i2 (by rw[←xS (eQ 6<|.mk op n l)];exact decide_eq_true h);have key:=ag5 (x:=bit<|eQ 6<|.mk op n l) (u:=(lM 6 (.mk op n l) lo aG).1) (f:=(lM 6 (.mk op n l) lo aG).2) (N:=nm<|dz l) (L:=l.length) (op:=op) (n:=n) mc (by rw[xS];rw[aM] at c;exact c) (fun h=>by have:=d h;rw[aM] at this;exact this);unfold Ak;rw[aM];cases q:eQ 6 (.mk op n l) with
 |true=>rw[q,if_pos (show bit true=1 from rfl)] at key;rw[if_pos rfl];exact key
 |false=>rw[q,if_neg (show ¬(bit false=1) by decide)] at key;rw[if_neg (by intro h;cases h)];exact key
theorem Eh(hP:bC pg)(h:aV L):aV<|iN::L:=by refine GG hP gL yQ ir gZ kI kl h (afO hP cN) Tryz.func61 (body:=aW pg 61 []) aZ aZ fun st rest y e _=>?_;obtain⟨a,⟨op,n,l⟩,⟨h1,h2,h3⟩,rfl,rfl⟩:=Hl e;refine⟨aL.1 aZ,fun B mc=>?_⟩;obtain⟨⟨pre,len,cap,post⟩,u,row⟩:=st;simp only at h1 h2;subst h1;subst h2;have q:=ahv (e:=.mk op n l) (x0:=a.x0) (x1:=a.x1) (x2:=a.x2) (x3:=a.x3) (x4:=a.x4) (x5:=a.x5) (x6:=a.x6) (x7:=a.x7) h3;rw[aM] at q ⊢;exact aji mc (and_true.2 ⟨by rw[←aM];exact Co _,and_true.2 ⟨h3.hi,rfl⟩⟩) q
end
end iw
end
section
open Go Go.Rn Go.RowKit Go.Proofs
namespace iG
open cr fF cU dk dB gF fT ia ig iv iw
noncomputable abbrev Cd(a:MN)(len:Nat)(cap:cR)(u:AV)(row:List AV):VS:=(⟨(⟨a.pre,len,cap,[.int .i64 a.steps]⟩:RS),u,row⟩:VS)
theorem ajj{B:aI}{a:MN}{len:Nat}{cap:cR}{u:AV}{row:List AV}{N L:Nat}{op n z v f:Int}(mc:Mt [iN,Me] B)(hO:bR 10 (Cd a len cap u row)=true)(hA:([(.agg [(u8<|op),(i6 n),(.ab N 0 L)])]:List AV).all AV.hi=true)(hz:vR jH (Cd a len cap u row) [(.agg [(u8<|op),(i6 n),(.ab N 0 L)])]=some (.int .i64 z))(hv:bp (aY CL) [.int .i64 z,.int .i64 a.vars]=some (.tuple [.int .i64 v,.int .i64 f])):av pg B 273 (ij 270 3 pg (aA Tryz.f63) (.int .i64 v)<|Cd a len cap u row) (sF 63 Tryz.f63 [(.ptr<|some (270,0)),(.agg [(u8<|op),(i6 n),(.ab N 0 L)])])<|aj (aq++bQ (dQ 270 3<|Cd a len cap u row)) 273:=l9 (E:=rL [iN,Me]) eJ rfl bU mc.2.2.1 mc.2.2.2 900 (.st 3<|.rg<|.go 2<|.cg (i6 z) (vG 272) (vQ 272<|Cd a len cap u row)<|.go 4<|.kn (.tuple [(i6 v),(i6 f)])<|.go 5<|.en<|.rt 3 .no)<|ks [iN,Me] 61 272 (vR jH) [(.agg [(u8<|op),(i6 n),(.ab N 0 L)])] (Cd a len cap u row) (i6 z) hO hz hA cn<|ai hv<|oe (st:=(Cd a len cap u row)) (s:=aj (aq++[(270,some<|.cells 13 (Tr.fill (a.row (.ptr<|some (271,0)) (.slice (some (272,0)) (len) cap)<|i6 a.steps) 0 .nil) []),(271,(some<|.tok 3 u)),(272,(some<|bu row)),(273,some<|.cells 3 (Tr.fill [(u8<|op),(i6 n),(.ab N 0 L)] 0 .nil) [])]) 274) (show((i6 v):AV)=(.int .i64 v) from rfl) cn cn cn
def og(st:VS)(rest:List AV)(v:AV):Prop:=∃(a:MN) (e:Ex) (x f:Int),tz st a/\rest=[.agg<|aM e]/\a.vars<=1099511627776/\uJ (Ak e a.l a.aG).1 a.vars= .tuple [.int .i64 x,.int .i64 f]/\v= .int .i64 x
theorem og.bS(st:VS)(rest:List AV)(v v':AV)(h:og st rest v)(h':og st rest v'):v=v':=by obtain⟨a,e,x,f,h1,rfl,_,h2,rfl⟩:=h;obtain⟨a',e',x',f',k1,k0,_,k2,rfl⟩:=h';simp only[List.cons.injEq,AV.agg.injEq,_root_.and_true] at k0;have e1:=h1.inj k1;subst e1;rw[←nU _ _ k0,h2] at k2;simp only[AV.tuple.injEq,List.cons.injEq,AV.int.injEq,true_and] at k2;rw[k2.1]
noncomputable def jG:FuncId×KE:=(63,.raw<|nC 10 3<|vR og)
theorem G5(hP:bC pg){L:bV}(h:aV L):aV<|jG::L:=by
 refine GG hP gL yQ ir gZ kI kl h (Eh hP<|afi hP cN) Tryz.func63 (body:=aW pg 63 []) aZ aZ fun st rest y e eo=>?_;obtain⟨a,⟨op,n,l⟩,x,f,hM,rfl,hm,hx,rfl⟩:=Hl e;refine⟨aL.1 aZ,fun B mc=>?_⟩;have hz:vR jH st [.agg<|aM<|.mk op n l]=some _:=EZ jH.bS ⟨a,_,hM,rfl,rfl⟩;obtain⟨h1,h2,h3⟩:=hM;obtain⟨⟨pre,len,cap,post⟩,u,row⟩:=st;simp only at h1 h2;subst h1;subst h2;have hA:([AV.agg<|aM<|.mk op n l]:List AV).all AV.hi=true:=by rw[List.all_cons,Co];rfl
 have hv:bp (aY CL) [.int .i64 (Ak (.mk op n l) a.l a.aG).1,.int .i64 a.vars]=some (.tuple [.int .i64 x,.int .i64 f]):=fu (ff CL.bS ⟨_,_,rfl,hm,hx.symm⟩) rfl rfl;rw[aM] at hz hA ⊢;exact ajj mc eo hA hz hv
end iG
end
section
open Go Go.Rn Go.RowKit Go.Proofs
namespace iT
open cr fF cU dM dk dB gF fT ia ig iv iw iG iF
variable {cap:cR} {u:AV} {to a9 n2 kind:Int} {a:MN} {N4 N3 N2 N L4 L3 L2 L:Nat} {B:aI}
theorem VT(l:List AV){k:Nat}(h:k<13)(hl:l.length=13:=by rfl):l[k]? =some (l.getD k<|.tuple []):=by rw[List.getD_eq_getElem?_getD,List.getElem?_eq_getElem ah];rfl
theorem VU{pre post:List AV}{len i r1 r2:Nat}{c:AV}(h:i<pre.length):aJ kG ((dZ ⟨pre,len,cap,post⟩ r1 r2).set i c)=bu (dZ ⟨pre.set i c,len,cap,post⟩ r1 r2):=by
 have e:(dZ ⟨pre,len,cap,post⟩ r1 r2).set i c=dZ ⟨pre.set i c,len,cap,post⟩ r1 r2:=by unfold dZ;exact List.set_append_left _ _ h
 rw[e];unfold aJ bu;rw[Cq]
noncomputable abbrev WW(a:MN)(len:Nat)(cap:cR)(to z:Int)(u:AV)(row:List AV)(kind op n:Int)(N L:Nat)(a9 n2:Int)(N2 L2 N3 L3 N4 L4:Nat):List<|Nat×Option ae:=aq++[(270,(some<|aJ kG<|((a.row (.ptr<|some (271,0)) (.slice (some (272,0)) (len) cap)<|i6 a.steps):List AV).set (2+to.toNat)<|i6 z)),(271,(some<|.tok 3 u)),(272,(some<|bu row)),(273,some<|.cells 10 (Tr.fill [(u8<|kind),(i6 to),(u8<|op),(i6 n),(.ab N 0 L),(u8<|a9),(i6 n2),(.ab N2 0 L2),(.ab N3 0 L3),(.ab N4 0 L4)] 0 .nil) [])]
noncomputable abbrev mX(a:MN)(len:Nat)(cap:cR)(u:AV)(row:List AV):VS:=(⟨(⟨a.pre,len,cap,[.int .i64 a.steps]⟩:RS),u,row⟩:VS)
noncomputable abbrev yl(op n:Int)(N L:Nat):List AV:=[(.agg [(u8<|op),(i6 n),(.ab N 0 L)])]
theorem ajk{len:Nat}{row:List AV}{op n:Int}{z:Int}(mc:Mt [iN] B)(hO:bR 10 (mX a len cap u row)=true)(h0:0<=to)(h8:to<8)(hA:((yl op n N L):List AV).all AV.hi=true)(hz:vR jH (mX a len cap u row) (yl op n N L)=some (.int .i64 z)):av pg B 273 (ij 270 3 pg (aA Tryz.f74) (.tuple []) (⟨⟨(a.pre:List AV).set (2+to.toNat)<|.int .i64 z,len,cap,[.int .i64 a.steps]⟩,u,row⟩:VS)) (sF 74 Tryz.f74 [(.ptr<|some (270,0)),(.agg [(u8<|kind),(i6 to),(u8<|op),(i6 n),(.ab N 0 L),(u8<|a9),(i6 n2),(.ab N2 0 L2),(.ab N3 0 L3),(.ab N4 0 L4)])])<|aj (aq++bQ (dQ 270 3<|mX a len cap u row)) 273:=l9 (E:=rL [iN]) eJ rfl bU mc.2.2.1 mc.2.2.2 900 (.st 2<|.rg<|.go 6<|.cg (i6 z) (vG 272) (vQ 272<|mX a len cap u row)<|.go 2<|.De<|.s8 (aJ kG<|((a.row (.ptr<|some (271,0)) (.slice (some (272,0)) (len) cap)<|i6 a.steps):List AV).set (2+to.toNat)<|i6 z)<|.en<|.rt 1 .no)<|ks [iN] 61 272 (vR jH) (yl op n N L) (mX a len cap u row) (i6 z) hO hz hA cn Zs
theorem ahw{len:Nat}{row:List AV}{op n:Int}{z v:Int}{fb:Bool}(mc:Mt [jG,lp] B)(hO:bR 10 (mX a len cap u row)=true)(h0:0<=to)(h8:to<8)(hA:((yl op n N L):List AV).all AV.hi=true)(hv:vR og (mX a len cap u row) (yl op n N L)=some (.int .i64 v))(hg:gQ (eW cv Cv) u [.int .i64 v]=some (.tuple [.int .i64 z,.bool fb],u)):av pg B 273 (ij 270 3 pg (aA Tryz.f75) (.tuple []) (⟨⟨(a.pre:List AV).set (2+to.toNat)<|.int .i64 z,len,cap,[.int .i64 a.steps]⟩,u,row⟩:VS)) (sF 75 Tryz.f75 [(.ptr<|some (270,0)),(.agg [(u8<|kind),(i6 to),(u8<|op),(i6 n),(.ab N 0 L),(u8<|a9),(i6 n2),(.ab N2 0 L2),(.ab N3 0 L3),(.ab N4 0 L4)])])<|aj (aq++bQ (dQ 270 3<|mX a len cap u row)) 273:=l9 (E:=rL [jG,lp]) eJ rfl bU mc.2.2.1 mc.2.2.2 900 (.st 2<|.rg<|.go 6<|.ld [(.ptr<|some (271,0))]<|.go 3<|.cg (i6 v) (vG 272) (vQ 272<|mX a len cap u row)<|.kt (.tuple [(i6 z),(.bool fb)]) u<|.go 5<|.De<|.s8 (aJ kG<|((a.row (.ptr<|some (271,0)) (.slice (some (272,0)) (len) cap)<|i6 a.steps):List AV).set (2+to.toNat)<|i6 z)<|.en<|.rt 1 .no)<|ai Yk<|ks [jG,lp] 63 272 (vR og) (yl op n N L) (mX a len cap u row) (i6 v) hO hv hA cn<|ai hg Zs
theorem afP{len:Nat}{row:List AV}{op n:Int}{z v:Int}{u':AV}(mc:Mt [jG,iN,HL] B)(hO:bR 10 (mX a len cap u row)=true)(hA:((yl op n N L):List AV).all AV.hi=true)(hB:([(.agg [(u8<|a9),(i6 n2),(.ab N2 0 L2)])]:List AV).all AV.hi=true)(hv:vR og (mX a len cap u row) (yl op n N L)=some (.int .i64 v))(hz:vR jH (mX a len cap u row) [(.agg [(u8<|a9),(i6 n2),(.ab N2 0 L2)])]=some (.int .i64 z))(hp:gQ (eW cv HK) u [.int .i64 v,.int .i64 z]=some ((.int .i64 0:AV),u')):av pg B 273 (ij 270 3 pg (aA Tryz.f76) (.tuple []) (⟨(⟨a.pre,len,cap,[.int .i64 a.steps]⟩:RS),u',row⟩:VS)) (sF 76 Tryz.f76 [(.ptr<|some (270,0)),(.agg [(u8<|kind),(i6 to),(u8<|op),(i6 n),(.ab N 0 L),(u8<|a9),(i6 n2),(.ab N2 0 L2),(.ab N3 0 L3),(.ab N4 0 L4)])])<|aj (aq++bQ (dQ 270 3<|mX a len cap u row)) 273:=l9 (E:=rL [jG,iN,HL]) eJ rfl bU mc.2.2.1 mc.2.2.2 900 (.st 2<|.rg<|.go 3<|.ld [(.ptr<|some (271,0))]<|.go 3<|.cg (i6 v) (vG 272) (vQ 272<|mX a len cap u row)<|.go 3<|.cg (i6 z) (vG 272) (vQ 272<|mX a len cap u row)<|.kt i0 u'<|.en<|.rt 1 .no)<|ai Yk<|ks [jG,iN,HL] 63 272 (vR og) (yl op n N L) (mX a len cap u row) (i6 v) hO hv hA cn<|ks [jG,iN,HL] 61 272 (vR jH) [(.agg [(u8<|a9),(i6 n2),(.ab N2 0 L2)])] (mX a len cap u row) (i6 z) hO hz hB cn<|ai hp<|oe (st:=(⟨(⟨a.pre,len,cap,[.int .i64 a.steps]⟩:RS),u',row⟩:VS)) (s:=aj (aq++[(270,(some<|aJ kG<|a.row (.ptr<|some (271,0)) (.slice (some (272,0)) (len) cap)<|i6 a.steps)),(271,(some<|.tok 3 u')),(272,(some<|bu row)),(273,some<|.cells 10 (Tr.fill [(u8<|kind),(i6 to),(u8<|op),(i6 n),(.ab N 0 L),(u8<|a9),(i6 n2),(.ab N2 0 L2),(.ab N3 0 L3),(.ab N4 0 L4)] 0 .nil) [])]) 274) (show((.tuple []):AV)= .tuple [] from rfl) (cn) cn cn
end iT
end
section
open Go Go.Rn Go.RowKit Go.Proofs
namespace iU
open cr fF cU dM dk dB gF fT ia ig iv iw iG iT iF
variable {L:bV} {st:VS} {rest:List AV}
noncomputable section
open Classical in
def ey(R:VS->List AV->AV×VS->Prop)(st:VS)(rest:List AV):Option<|AV×VS:=if h:∃v,R st rest v then some h.choose else none
theorem Kh{R:VS->List AV->AV×VS->Prop}{v:AV×VS}(h:ey R st rest=some v):R st rest v:=by
 unfold ey at h;split at h
 ·rename_i q;injection h with h;rw[←h];exact q.choose_spec
 ·cases h
theorem K2{R:VS->List AV->AV×VS->Prop}(hd:∀st rest v v',R st rest v->R st rest v'->v=v'){v:AV×VS}(h:R st rest v):ey R st rest=some v:=by unfold ey;have q:∃v,R st rest v:=⟨v,h⟩;rw[dif_pos q,hd _ _ _ _ q.choose_spec h]
def wv(st:VS)(i z:Int):VS:=⟨⟨st.R.pre.set (2+i.toNat)<|.int .i64 z,st.R.len,st.R.cap,st.R.post⟩,st.u,st.row⟩
def akH(st:VS)(u:AV):VS:=⟨st.R,u,st.row⟩
def AL(st:VS)(rest:List AV)(p:AV×VS):Prop:=∃(a:MN) (kind to:Int) (ea eb:Ex) (body other:List St) (z:Int),bR 10 st=true/\tz st a/\rest=[.agg<|ba<|.mk kind to ea eb body other]/\0<=to/\to<8/\vR jH st [.agg<|aM ea]=some (.int .i64 z)/\p=(.tuple [],wv st to z)
def Ap(st:VS)(rest:List AV)(p:AV×VS):Prop:=∃(a:MN) (kind to:Int) (ea eb:Ex) (body other:List St) (v z:Int) (fb:Bool),bR 10 st=true/\tz st a/\rest=[.agg<|ba<|.mk kind to ea eb body other]/\0<=to/\to<8/\vR og st [.agg<|aM ea]=some (.int .i64 v)/\gQ (eW cv Cv) st.u [.int .i64 v]=some (.tuple [.int .i64 z,.bool fb],st.u)/\p=(.tuple [],wv st to z)
def z9(st:VS)(rest:List AV)(p:AV×VS):Prop:=∃(a:MN) (kind to:Int) (ea eb:Ex) (body other:List St) (v z:Int) (u':AV),bR 10 st=true/\tz st a/\rest=[.agg<|ba<|.mk kind to ea eb body other]/\vR og st [.agg<|aM ea]=some (.int .i64 v)/\vR jH st [.agg<|aM eb]=some (.int .i64 z)/\gQ (eW cv HK) st.u [.int .i64 v,.int .i64 z]=some ((.int .i64 0:AV),u')/\p=(.tuple [],akH st u')
theorem Pw{k t k' t':Int}{a b a' b':Ex}{l m l' m':List St}(h:([.agg<|ba<|.mk k t a b l m]:List AV)=[.agg<|ba<|.mk k' t' a' b' l' m']):St.mk k t a b l m= .mk k' t' a' b' l' m':=by simp only[List.cons.injEq,AV.agg.injEq,_root_.and_true] at h;exact Od _ _ h
theorem AL.bS(st:VS)(rest:List AV)(v v':AV×VS)(h:AL st rest v)(h':AL st rest v'):v=v':=by
 obtain⟨a,k,t,ea,eb,l,m,z,_,_,rfl,_,_,h1,rfl⟩:=h;obtain⟨a',k',t',ZR,ZS,l',m',z',_,_,k0,_,_,k1,rfl⟩:=h';have e:=Pw k0;injection e with e1 e2 e3 e4 e5 e6
 subst e2;subst e3;rw[h1] at k1;simp only[Option.some.injEq,AV.int.injEq,true_and] at k1;rw[k1]
theorem Ap.bS(st:VS)(rest:List AV)(v v':AV×VS)(h:Ap st rest v)(h':Ap st rest v'):v=v':=by
 obtain⟨a,k,t,ea,eb,l,m,x,z,fb,_,_,rfl,_,_,h1,h2,rfl⟩:=h;obtain⟨a',k',t',ZR,ZS,l',m',x',z',fb',_,_,k0,_,_,k1,k2,rfl⟩:=h';have e:=Pw k0;injection e with e1 e2 e3 e4 e5 e6
 subst e2;subst e3;rw[h1] at k1;simp only[Option.some.injEq,AV.int.injEq,true_and] at k1;subst k1;rw[h2] at k2;simp only[Option.some.injEq,Prod.mk.injEq,AV.tuple.injEq,List.cons.injEq,AV.int.injEq,true_and,_root_.and_true] at k2;rw[k2.1]
theorem z9.bS(st:VS)(rest:List AV)(v v':AV×VS)(h:z9 st rest v)(h':z9 st rest v'):v=v':=by
 obtain⟨a,k,t,ea,eb,l,m,x,z,u,_,_,rfl,h1,h2,h3,rfl⟩:=h;obtain⟨a',k',t',ZR,ZS,l',m',x',z',u',_,_,k0,k1,k2,k3,rfl⟩:=h';have e:=Pw k0;injection e with e1 e2 e3 e4 e5 e6
 subst e3;subst e4;rw[h1] at k1;rw[h2] at k2;simp only[Option.some.injEq,AV.int.injEq,true_and] at k1 k2;subst k1;subst k2;rw[h3] at k3;simp only[Option.some.injEq,Prod.mk.injEq,true_and] at k3;rw[k3]
def Rb:FuncId×KE:=(74,.raw<|nB 10 3<|ey AL)
def Qz:FuncId×KE:=(75,.raw<|nB 10 3<|ey Ap)
def P0:FuncId×KE:=(76,.raw<|nB 10 3<|ey z9)
theorem Ez(e:Ex):([AV.agg<|aM e]:List AV).all AV.hi=true:=by rw[List.all_cons,Co];rfl
theorem afQ(hP:bC pg)(h:aV L):aV<|Rb::L:=by
 refine JV hP gL yQ ir gZ kI kl h (Eh hP cN) Tryz.func74 (body:=aW pg 74 []) aZ aZ fun st rest y br e=>?_;obtain⟨a,kind,to,⟨op,n,l⟩,⟨a9,n2,l2⟩,body,other,z,ho,⟨h1,h2,h3⟩,rfl,h0,h8,hz,hp⟩:=Kh e;injection hp with jb fP
 subst jb;subst fP;refine⟨aL.1 aZ,fun B mc=>?_⟩;have hA:=Ez<|.mk op n l;obtain⟨⟨pre,len,cap,post⟩,u,row⟩:=st;simp only at h1 h2;subst h1;subst h2;rw[aM] at hz hA;rw[ba,aM,aM];exact ajk mc ho h0 h8 hA hz
theorem aee(hP:bC pg)(h:aV L):aV<|Qz::L:=by
 refine JV hP gL yQ ir gZ kI kl h (G5 hP<|JX hP cN) Tryz.func75 (body:=aW pg 75 []) aZ aZ fun st rest y br e=>?_;obtain⟨a,kind,to,⟨op,n,l⟩,⟨a9,n2,l2⟩,body,other,v,z,fb,ho,⟨h1,h2,h3⟩,rfl,h0,h8,hv,hg,hp⟩:=Kh e;injection hp with jb fP
 subst jb;subst fP;refine⟨aL.1 aZ,fun B mc=>?_⟩;have hA:=Ez<|.mk op n l;obtain⟨⟨pre,len,cap,post⟩,u,row⟩:=st;simp only at h1 h2;subst h1;subst h2;rw[aM] at hv hA;rw[ba,aM,aM];exact ahw mc ho h0 h8 hA hv hg
theorem acY(hP:bC pg)(h:aV L):aV<|P0::L:=by
 refine JV hP gL yQ ir gZ kI kl h (G5 hP<|Eh hP<|aeb hP cN) Tryz.func76 (body:=aW pg 76 []) aZ aZ fun st rest y br e=>?_;obtain⟨a,kind,to,⟨op,n,l⟩,⟨a9,n2,l2⟩,body,other,v,z,u',ho,⟨h1,h2,h3⟩,rfl,hv,hz,hq,hp⟩:=Kh e;injection hp with jb fP
 subst jb;subst fP;refine⟨aL.1 aZ,fun B mc=>?_⟩;have hA:=Ez<|.mk op n l;have hB:=Ez<|.mk a9 n2 l2;obtain⟨⟨pre,len,cap,post⟩,u,row⟩:=st;simp only at h1 h2;subst h1;subst h2;rw[aM] at hv hA hz hB;rw[ba,aM,aM];exact afP mc ho hA hB hv hz hq
end
end iU
end
section
open Go Go.Rn Go.RowKit Go.Proofs
namespace jI
open cr fF cU dM dk dB gF fT ia ig iv iw iG iT iU iF
variable {vg:VS} {u' u:AV} {fs:List Fr} {c:Nat} {a:MN} {B:aI}
noncomputable section
def aB(l:List Fr)(z:Int):Fr:=l.getD z.toNat default
theorem qX{l:List Fr}{z:Int}(h0:0<=z)(h:z<(l.length:Int)):l[z.toNat]? =some (aB l z):=by
 have hz:z.toNat<l.length:=by omega
 unfold aB;rw[List.getD_eq_getElem?_getD,List.getElem?_eq_getElem hz];rfl
theorem Ou:fH<=273:=aL.1 aZ
theorem QA{st:VS}{y Y:AV}{s:AS}(h:vg=st)(e:Y=y)(h1:s.h.get 270=some (bu<|dZ st.R 271 272))(h2:s.h.get 271=some (.tok 3 st.u))(h3:s.h.get 272=some (bu st.row)):Y=y/\∀m o,(m,o)∈dQ 270 3 vg->s.h.get m=some o:=by subst h;exact oe e h1 h2 h3
noncomputable abbrev EA(a:MN)(n c:Nat)(u:AV)(fs:List Fr):List<|Nat×Option ae:=aq++[(270,some<|.cells 13 (Tr.fill (a.row (.ptr<|some (271,0)) (.slice (some (272,0)) (n)<|.ar c 13)<|i6 a.steps) 0 .nil) []),(271,(some<|.tok 3 u)),(272,(some<|aJ aS<|fs.set ((n:Int) - 1).toNat ({(aB fs<|(n:Int) - 1) with au:=0,turns:=((aB fs<|(n:Int) - 1).turns - 1)}:Fr)))]
noncomputable abbrev Ce(a:MN)(n c:Nat)(u:AV)(fs:List Fr):VS:=(⟨⟨a.pre,n,(.ar c 13),[.int .i64 a.steps]⟩,u,((fs.set ((n:Int) - 1).toNat ({(aB fs<|(n:Int) - 1) with au:=0,turns:=((aB fs<|(n:Int) - 1).turns - 1)}:Fr)).map aS).flatten⟩:VS)
noncomputable abbrev Hm(a:MN)(n c:Nat)(u:AV)(fs:List Fr):List<|Nat×Option ae:=aq++[(270,some<|.cells 13 (Tr.fill (a.row (.ptr<|some (271,0)) (.slice (some (272,0)) ((((n:Int) - 1)).toNat)<|.ar c 13)<|i6 a.steps) 0 .nil) []),(271,(some<|.tok 3 u)),(272,(some<|aJ aS fs))]
noncomputable abbrev Ho(a:MN)(n c:Nat)(u':AV)(fs:List Fr):List<|Nat×Option ae:=aq++[(270,some<|.cells 13 (Tr.fill (a.row (.ptr<|some (271,0)) (.slice (some (272,0)) ((((n:Int) - 1)).toNat)<|.ar c 13)<|i6 a.steps) 0 .nil) []),(271,(some<|.tok 3 u')),(272,(some<|aJ aS fs))]
noncomputable abbrev Hp(a:MN)(n c:Nat)(u:AV)(fs:List Fr):List<|Nat×Option ae:=aq++[(270,some<|.cells 13 (Tr.fill (a.row (.ptr<|some (271,0)) (.slice (some (272,0)) (n)<|.ar c 13)<|i6 a.steps) 0 .nil) []),(271,(some<|.tok 3 u)),(272,(some<|aJ aS fs))]
noncomputable abbrev vV(a:MN)(n c:Nat)(u:AV)(fs:List Fr):VS:=(⟨⟨a.pre,n,(.ar c 13),[.int .i64 a.steps]⟩,u,(fs.map aS).flatten⟩:VS)
noncomputable abbrev Hr(a:MN)(n c:Nat)(u:AV)(fs:List Fr):AS:=aj (aq++bQ (dQ 270 3 (⟨⟨a.pre,((n:Int) - 1).toNat,(.ar c 13),[.int .i64 a.steps]⟩,u,(fs.map aS).flatten⟩:VS))) 273
noncomputable abbrev Hs(a:MN)(n c:Nat)(u':AV)(fs:List Fr):AS:=aj (aq++bQ (dQ 270 3 (⟨⟨a.pre,((n:Int) - 1).toNat,(.ar c 13),[.int .i64 a.steps]⟩,u',(fs.map aS).flatten⟩:VS))) 273
noncomputable abbrev P1(fs:List Fr)(n:Nat):Fr:=({(aB fs<|(n:Int) - 1) with au:=(aB fs<|(n:Int) - 1).au,turns:=((aB fs<|(n:Int) - 1).turns - 1)}:Fr)
theorem E3{n:Nat}(mc:Mt [Eg] B)(hn:n<=fs.length)(hc:n<=c)(hf:fs.length<=1000000)(hR:fs.length*13<=top)(ay:0<=(aB fs<|(n:Int) - 1).turns/\(aB fs<|(n:Int) - 1).turns<=1000000)(hm:(0<(n:Int)/\¬((aB fs<|(n:Int) - 1).au<(((aB fs<|(n:Int) - 1).block.length:Nat):Int))/\¬(0<(aB fs<|(n:Int) - 1).turns)/\(aB fs<|(n:Int) - 1).aU=true)->gQ (eW cv Kg) u []=some ((.int .i64 0:AV),u'))(E0:¬(0<(n:Int))->vg=(vV a n c u fs))(E1:0<(n:Int)->(aB fs<|(n:Int) - 1).au<(((aB fs<|(n:Int) - 1).block.length:Nat):Int)->vg=(vV a n c u fs))(E2:0<(n:Int)->¬((aB fs<|(n:Int) - 1).au<(((aB fs<|(n:Int) - 1).block.length:Nat):Int))->0<(aB fs<|(n:Int) - 1).turns->0<(((aB fs<|(n:Int) - 1).block.length:Nat):Int)->vg=(Ce a n c u fs))(H1:(0<(n:Int)/\¬((aB fs<|(n:Int) - 1).au<(((aB fs<|(n:Int) - 1).block.length:Nat):Int))/\0<(aB fs<|(n:Int) - 1).turns/\¬(0<(((aB fs<|(n:Int) - 1).block.length:Nat):Int)))->av pg B 273 (ij 270 3 pg (aA Tryz.f72) (.tuple []) vg) (⟨72,aP [(0,.ptr<|some (270,0))],(max Tryz.f72.ntmps 1),[.code<|aW pg 72 [0,0],.inLoop<|aW pg 72 [0,0],.inBlock 0],[],none⟩:AF) (aj (aq++bQ (dQ 270 3<|Ce a n c u fs)) 273))(H2:(0<(n:Int)/\¬((aB fs<|(n:Int) - 1).au<(((aB fs<|(n:Int) - 1).block.length:Nat):Int))/\¬(0<(aB fs<|(n:Int) - 1).turns)/\(aB fs<|(n:Int) - 1).aU=true)->av pg B 273 (ij 270 3 pg (aA Tryz.f72) (.tuple []) vg) (⟨72,aP [(0,.ptr<|some (270,0))],(max Tryz.f72.ntmps 1),[.code<|aW pg 72 [0,0],.inLoop<|aW pg 72 [0,0],.inBlock 0],[],none⟩:AF) (Hs a n c u' fs))(H3:(0<(n:Int)/\¬((aB fs<|(n:Int) - 1).au<(((aB fs<|(n:Int) - 1).block.length:Nat):Int))/\¬(0<(aB fs<|(n:Int) - 1).turns)/\(aB fs<|(n:Int) - 1).aU=false)->av pg B 273 (ij 270 3 pg (aA Tryz.f72) (.tuple []) vg) (⟨72,aP [(0,.ptr<|some (270,0))],(max Tryz.f72.ntmps 1),[.code<|aW pg 72 [0,0],.inLoop<|aW pg 72 [0,0],.inBlock 0],[],none⟩:AF) (Hr a n c u fs)):av pg B 273 (ij 270 3 pg (aA Tryz.f72) (.tuple []) vg) (⟨72,aP [(0,.ptr<|some (270,0))],(max Tryz.f72.ntmps 1),[.code<|aW pg 72 [0,0],.inLoop<|aW pg 72 [0,0],.inBlock 0],[],none⟩:AF)<|aj (aq++bQ (dQ 270 3<|vV a n c u fs)) 273:=
 yb (E:=rL [Eg]) (C:=(fun fr s1 _=>fr=(⟨72,aP [(0,.ptr<|some (270,0))],(max Tryz.f72.ntmps 1),[.code<|aW pg 72 [0,0],.inLoop<|aW pg 72 [0,0],.inBlock 0],[],none⟩:AF)/\(((0<(n:Int)/\¬((aB fs<|(n:Int) - 1).au<(((aB fs<|(n:Int) - 1).block.length:Nat):Int))/\0<(aB fs<|(n:Int) - 1).turns/\¬(0<(((aB fs<|(n:Int) - 1).block.length:Nat):Int)))/\s1=(aj (aq++bQ (dQ 270 3<|Ce a n c u fs)) 273))\/((0<(n:Int)/\¬((aB fs<|(n:Int) - 1).au<(((aB fs<|(n:Int) - 1).block.length:Nat):Int))/\¬(0<(aB fs<|(n:Int) - 1).turns)/\(aB fs<|(n:Int) - 1).aU=true)/\s1=(Hs a n c u' fs))\/((0<(n:Int)/\¬((aB fs<|(n:Int) - 1).au<(((aB fs<|(n:Int) - 1).block.length:Nat):Int))/\¬(0<(aB fs<|(n:Int) - 1).turns)/\(aB fs<|(n:Int) - 1).aU=false)/\s1=(Hr a n c u fs))))) eJ rfl bU mc.2.2.1 mc.2.2.2 Ou rfl mc.1 (fun fr s1 p hC=>by
  obtain⟨rfl,hC⟩:=hC;rcases hC with⟨h,rfl⟩|⟨h,rfl⟩|⟨h,rfl⟩
  ·exact H1 h
  ·exact H2 h
  ·exact H3 h) 900 (.st 2<|.rg<|.go 5<|.fk (.en<|.st 4<|.rg<|.go 9<|.vl (i6<|(n:Int) - 1)<|.ix<|.go 1<|.en<|.st 3<|.rg<|.go 3<|.ld [(i6<|(aB fs<|(n:Int) - 1).au)]<|.go 3<|.ld [(.ab (nm ((aB fs<|(n:Int) - 1).block.map ba).flatten) 0 (aB fs<|(n:Int) - 1).block.length)]<|.go 1<|.fk (.go 1<|.en<|.rt 2 .no)<|.go 1<|.en<|.st 2<|.rg<|.go 3<|.ld [(i6<|(aB fs<|(n:Int) - 1).turns)]<|.fk (.go 1<|.en<|.st 2<|.rg<|.go 5<|.ld [(i6<|(aB fs<|(n:Int) - 1).turns)]<|.vl (i6<|(aB fs<|(n:Int) - 1).turns - 1)<|.go 2<|.s8 (aJ aS<|fs.set ((n:Int) - 1).toNat<|P1 fs n)<|.go 2<|.s8 (aJ aS<|fs.set ((n:Int) - 1).toNat ({(aB fs<|(n:Int) - 1) with au:=0,turns:=((aB fs<|(n:Int) - 1).turns - 1)}:Fr))<|.en<|.st 2<|.rg<|.go 3<|.ld [(.ab (nm ((aB fs<|(n:Int) - 1).block.map ba).flatten) 0 (aB fs<|(n:Int) - 1).block.length)]<|.go 1<|.fk (.en<|.rt 2 .no)<|.en<|.st 4<|.ls [(0,.ptr<|some (270,0))] (EA a n c u fs) 273 .no)<|.go 1<|.en<|.st 2<|.rg<|.go 3<|.Zg ((aB fs<|(n:Int) - 1).aU) (.go 1<|.en<|.st 1<|.rg<|.go 4<|.kt i0 u'<|.en<|.st 1<|.rg<|.go 10<|.vl (i6<|(n:Int) - 1)<|.so<|.go 3<|.en<|.st 2<|.ls [(0,.ptr<|some (270,0))] (Ho a n c u' fs) 273 .no)<|.go 1<|.en<|.st 3<|.rg<|.go 10<|.vl (i6<|(n:Int) - 1)<|.so<|.go 3<|.en<|.st 2<|.ls [(0,.ptr<|some (270,0))] (Hm a n c u fs) 273 .no)<|.en<|.rt 3 .no)
  (ax ((n:Int)>0) (fun _=>(ai (wI<|(n:Int) - 1)
  (eZ ((n:Int) - 1) (n:Int)
  (ai (nr jy hR (qX (l:=fs) (z:=((n:Int) - 1)) ah ah) 1 1 rfl)
  (ai (nr jy hR (qX (l:=fs) (z:=((n:Int) - 1)) ah ah) 0 1 rfl)
  (ax ((aB fs<|(n:Int) - 1).au<(((aB fs<|(n:Int) - 1).block.length:Nat):Int)) (fun _=>(QA (st:=(vV a n c u fs)) (s:=aj (Hp a n c u fs) 273) (E1 ah ah) (show((.tuple []):AV)= .tuple [] from rfl) cC cC cC))
  (fun _=>(ai (nr jy hR (qX (l:=fs) (z:=((n:Int) - 1)) ah ah) 2 1 rfl)
  (ax ((aB fs<|(n:Int) - 1).turns>0) (fun _=>(ai (nr jy hR (qX (l:=fs) (z:=((n:Int) - 1)) ah ah) 2 1 rfl)
  (ai (wI<|(aB fs<|(n:Int) - 1).turns - 1)
  (ai (Em jy hR (qX (l:=fs) (z:=((n:Int) - 1)) ah ah) (c':=(P1 fs n)) (r:=[(i6<|((aB fs<|(n:Int) - 1).turns - 1))]) 2 rfl rfl rfl)
  (ai (aeW jy hR (qX (l:=fs) (z:=((n:Int) - 1)) ah ah) (c:=(P1 fs n)) (c':=({(aB fs<|(n:Int) - 1) with au:=0,turns:=((aB fs<|(n:Int) - 1).turns - 1)}:Fr)) (r:=[i0]) 1 rfl rfl rfl)
  (ai (aeV jy hR (qX (l:=fs) (z:=((n:Int) - 1)) ah ah) (c:=({(aB fs<|(n:Int) - 1) with au:=0,turns:=((aB fs<|(n:Int) - 1).turns - 1)}:Fr)) 0 1 rfl)
  (ax ((((aB fs<|(n:Int) - 1).block.length:Nat):Int)>0) (fun _=>(QA (st:=(Ce a n c u fs)) (s:=aj (EA a n c u fs) 273) (E2 ah ah ah ah) (show((.tuple []):AV)= .tuple [] from rfl) cC cC cC))
  (fun _=>(ai (mS [(0,.ptr<|some (270,0))])<|ai (mO<|EA a n c u fs)<|ai (rX (⟨72,aP [(0,.ptr<|some (270,0))],(max Tryz.f72.ntmps 1),[.code<|aW pg 72 [0,0],.inLoop<|aW pg 72 [0,0],.inBlock 0],[],none⟩:AF)) (show((0<(n:Int)/\¬((aB fs<|(n:Int) - 1).au<(((aB fs<|(n:Int) - 1).block.length:Nat):Int))/\0<(aB fs<|(n:Int) - 1).turns/\¬(0<(((aB fs<|(n:Int) - 1).block.length:Nat):Int)))/\(aj (EA a n c u fs) 273)=(aj (aq++bQ (dQ 270 3<|Ce a n c u fs)) 273))\/((0<(n:Int)/\¬((aB fs<|(n:Int) - 1).au<(((aB fs<|(n:Int) - 1).block.length:Nat):Int))/\¬(0<(aB fs<|(n:Int) - 1).turns)/\(aB fs<|(n:Int) - 1).aU=true)/\(aj (EA a n c u fs) 273)=(Hs a n c u' fs))\/((0<(n:Int)/\¬((aB fs<|(n:Int) - 1).au<(((aB fs<|(n:Int) - 1).block.length:Nat):Int))/\¬(0<(aB fs<|(n:Int) - 1).turns)/\(aB fs<|(n:Int) - 1).aU=false)/\(aj (EA a n c u fs) 273)=(Hr a n c u fs)) from Or.inl<|ai (show(0<(n:Int)/\¬((aB fs<|(n:Int) - 1).au<(((aB fs<|(n:Int) - 1).block.length:Nat):Int))/\0<(aB fs<|(n:Int) - 1).turns/\¬(0<(((aB fs<|(n:Int) - 1).block.length:Nat):Int))) from⟨by omega,by omega,by omega,by omega⟩) cC))))))))))
  (fun _=>(ai (nr jy hR (qX (l:=fs) (z:=((n:Int) - 1)) ah ah) 3 1 rfl) (tfb ((aB fs<|(n:Int) - 1).aU) (fun h5=>(ai (hm ⟨by omega,by omega,by omega,h5⟩)
  (ai (wI<|(n:Int) - 1)
  (ai (show(0:Int)=0 from rfl)<|ai (show 0<=((n:Int) - 1) from ah) (ai (show((n:Int) - 1)<=Int.ofNat (jC n<|.ar c 13) from(show((n:Int) - 1)<=(c:Int) from by omega))
  (ai (mS [(0,.ptr<|some (270,0))])<|ai (mO<|Ho a n c u' fs)<|ai (rX (⟨72,aP [(0,.ptr<|some (270,0))],(max Tryz.f72.ntmps 1),[.code<|aW pg 72 [0,0],.inLoop<|aW pg 72 [0,0],.inBlock 0],[],none⟩:AF)) (show((0<(n:Int)/\¬((aB fs<|(n:Int) - 1).au<(((aB fs<|(n:Int) - 1).block.length:Nat):Int))/\0<(aB fs<|(n:Int) - 1).turns/\¬(0<(((aB fs<|(n:Int) - 1).block.length:Nat):Int)))/\(aj (Ho a n c u' fs) 273)=(aj (aq++bQ (dQ 270 3<|Ce a n c u fs)) 273))\/((0<(n:Int)/\¬((aB fs<|(n:Int) - 1).au<(((aB fs<|(n:Int) - 1).block.length:Nat):Int))/\¬(0<(aB fs<|(n:Int) - 1).turns)/\(aB fs<|(n:Int) - 1).aU=true)/\(aj (Ho a n c u' fs) 273)=(Hs a n c u' fs))\/((0<(n:Int)/\¬((aB fs<|(n:Int) - 1).au<(((aB fs<|(n:Int) - 1).block.length:Nat):Int))/\¬(0<(aB fs<|(n:Int) - 1).turns)/\(aB fs<|(n:Int) - 1).aU=false)/\(aj (Ho a n c u' fs) 273)=(Hr a n c u fs)) from Or.inr<|Or.inl<|ai (show(0<(n:Int)/\¬((aB fs<|(n:Int) - 1).au<(((aB fs<|(n:Int) - 1).block.length:Nat):Int))/\¬(0<(aB fs<|(n:Int) - 1).turns)/\(aB fs<|(n:Int) - 1).aU=true) from⟨by omega,by omega,by omega,h5⟩) cC)))))))
  (fun h5=>(ai (wI<|(n:Int) - 1)
  (ai (show(0:Int)=0 from rfl)<|ai (show 0<=((n:Int) - 1) from ah) (ai (show((n:Int) - 1)<=Int.ofNat (jC n<|.ar c 13) from(show((n:Int) - 1)<=(c:Int) from by omega))
  (ai (mS [(0,.ptr<|some (270,0))])<|ai (mO<|Hm a n c u fs)<|ai (rX (⟨72,aP [(0,.ptr<|some (270,0))],(max Tryz.f72.ntmps 1),[.code<|aW pg 72 [0,0],.inLoop<|aW pg 72 [0,0],.inBlock 0],[],none⟩:AF)) (show((0<(n:Int)/\¬((aB fs<|(n:Int) - 1).au<(((aB fs<|(n:Int) - 1).block.length:Nat):Int))/\0<(aB fs<|(n:Int) - 1).turns/\¬(0<(((aB fs<|(n:Int) - 1).block.length:Nat):Int)))/\(aj (Hm a n c u fs) 273)=(aj (aq++bQ (dQ 270 3<|Ce a n c u fs)) 273))\/((0<(n:Int)/\¬((aB fs<|(n:Int) - 1).au<(((aB fs<|(n:Int) - 1).block.length:Nat):Int))/\¬(0<(aB fs<|(n:Int) - 1).turns)/\(aB fs<|(n:Int) - 1).aU=true)/\(aj (Hm a n c u fs) 273)=(Hs a n c u' fs))\/((0<(n:Int)/\¬((aB fs<|(n:Int) - 1).au<(((aB fs<|(n:Int) - 1).block.length:Nat):Int))/\¬(0<(aB fs<|(n:Int) - 1).turns)/\(aB fs<|(n:Int) - 1).aU=false)/\(aj (Hm a n c u fs) 273)=(Hr a n c u fs)) from Or.inr<|Or.inr<|ai (show(0<(n:Int)/\¬((aB fs<|(n:Int) - 1).au<(((aB fs<|(n:Int) - 1).block.length:Nat):Int))/\¬(0<(aB fs<|(n:Int) - 1).turns)/\(aB fs<|(n:Int) - 1).aU=false) from⟨by omega,by omega,by omega,h5⟩) cC))))))))))))))))))
  (fun _=>(QA (st:=(vV a n c u fs)) (s:=aj (Hp a n c u fs) 273) (E0 ah) (show((.tuple []):AV)= .tuple [] from rfl) cC cC cC)))
abbrev frS:AF:=(⟨72,aP [(0,.ptr<|some (270,0))],(max Tryz.f72.ntmps 1),[.code<|aW pg 72 [0,0],.inLoop<|aW pg 72 [0,0],.inBlock 0],[],none⟩:AF)
abbrev MQ(a:MN)(n c:Nat)(u:AV)(fs:List Fr):VS:=(vV a n c u fs)
theorem ahx{n:Nat}{u':AV}(mc:Mt [Eg] B)(H:av pg B 273 (ij 270 3 pg (aA Tryz.f72) (.tuple []) vg) (⟨72,aP [(0,.ptr<|some (270,0))],(max Tryz.f72.ntmps 1),[.code<|aW pg 72 [0,0],.inLoop<|aW pg 72 [0,0],.inBlock 0],[],none⟩:AF)<|aj (aq++bQ (dQ 270 3<|vV a n c u fs)) 273):av pg B 273 (ij 270 3 pg (aA Tryz.f72) (.tuple []) vg) (sF 72 Tryz.f72 [.ptr<|some (270,0)])<|aj (aq++bQ (dQ 270 3<|vV a n c u fs)) 273:=
 yb (E:=rL [Eg]) (C:=(fun fr s1 _=>fr=(⟨72,aP [(0,.ptr<|some (270,0))],(max Tryz.f72.ntmps 1),[.code<|aW pg 72 [0,0],.inLoop<|aW pg 72 [0,0],.inBlock 0],[],none⟩:AF)/\s1=(aj (aq++bQ (dQ 270 3<|vV a n c u fs)) 273))) eJ rfl bU mc.2.2.1 mc.2.2.2 Ou rfl mc.1 (fun fr s1 p hC=>by
  obtain⟨rfl,rfl⟩:=hC;exact H) 900 (.st 2<|.ls [(0,.ptr<|some (270,0))] (Hp a n c u fs) 273 .no)
  (ai (mS [(0,.ptr<|some (270,0))])<|ai (mO<|Hp a n c u fs)<|ai (rX (⟨72,aP [(0,.ptr<|some (270,0))],(max Tryz.f72.ntmps 1),[.code<|aW pg 72 [0,0],.inLoop<|aW pg 72 [0,0],.inBlock 0],[],none⟩:AF)) (show(aj (Hp a n c u fs) 273)=(aj (aq++bQ (dQ 270 3<|vV a n c u fs)) 273) from cC))
end
end jI
end
section
open Go Go.Rn Go.RowKit Go.Proofs
namespace jO
open cr fF cU dM dk dB gF fT ia ig iv iw iG iT iU jI iF
variable {fs:List Fr}
def oT:Nat->Nat->List Fr->bB->Option (Nat×List Fr×bB)
  |0,_,_,_=>none
  | k +1,n,fs,b=>if n=0 then some (n,fs,b) else
    let f:=aB fs<|(n:Int) - 1
    if f.au<(f.block.length:Int) then some (n,fs,b)
    else if 0<f.turns then
      let dc:=fs.set ((n:Int) - 1).toNat {f with au:=0,turns:=f.turns - 1}
      if 0<(f.block.length:Int) then some (n,dc,b) else oT k n dc b
    else if f.aU=true then(if 2<=b.length then oT k ((n:Int) - 1).toNat fs (gU b) else none)
    else oT k ((n:Int) - 1).toNat fs b
def iy(fs:List Fr):Prop:=∀f∈fs,(0<=f.turns/\f.turns<=1000000)/\f.kept.length=8
theorem iy.at(h:iy fs)(z:Int):0<=(aB fs z).turns/\(aB fs z).turns<=1000000:=by
 unfold aB;by_cases q:z.toNat<fs.length
 ·rw[List.getD_eq_getElem?_getD,List.getElem?_eq_getElem q];exact(h _<|List.getElem_mem q).1
 ·rw[List.getD_eq_getElem?_getD,List.getElem?_eq_none ah];show(0:Int)<=0/\(0:Int)<=1000000;omega
theorem iy.kept(h:iy fs){z:Int}(h0:0<=z)(hz:z<(fs.length:Int)):(aB fs z).kept.length=8:=(h _<|List.mem_of_getElem?<|qX h0 hz).2
theorem iy.set(h:iy fs){i:Nat}{f:Fr}(hf:(0<=f.turns/\f.turns<=1000000)/\f.kept.length=8):iy<|fs.set i f:=fun g hg=>by
 rcases List.mem_or_eq_of_mem_set hg with q|q
 ·exact h g q
 ·rw[q];exact hf
theorem NI{b:bB}(h:fy b)(h2:2<=b.length):gQ (eW cv Kg) (cv b) []=some ((.int .i64 0:AV),cv<|gU b):=by
 unfold gQ;rw[BP xJ];show(match ([]:List AV).all AV.hi with
  |true=>((if 2<=List.length b then some ((AV.int .i64 0:AV),gU b) else none).map (fun p:AV×bB=>((p.1,cv p.2):AV×AV))).bind fun p:AV×AV=>match p.1.hi with
   |true=>some p
   |false=>none
  |false=>none)=_
 rw[if_pos h2];rfl
theorem Jv{B:aI}(mc:Mt [Eg] B){a:MN}{c:Nat}{n':Nat}{dc:List Fr}{b':bB}:∀(k n:Nat) (fs:List Fr) (b:bB),oT k n fs b=some (n',dc,b')->fy b->iy fs->n<=fs.length->n<=c->fs.length<=1000000->
 av pg B 273 (ij 270 3 pg (aA Tryz.f72) (.tuple [])<|MQ a n' c (cv b') dc) frS (aj (aq++bQ (dQ 270 3<|MQ a n c (cv b) fs)) 273)
 |0,n,fs,b,h,_,_,_,_,_=>by cases h
 |k+1,n,fs,b,h,hb,hf,hn,hc,hl=>by
  unfold oT at h;have ay:=hf.at<|(n:Int) - 1;have HR:n≠0->∀f:Fr,f={aB fs ((n:Int) - 1) with au:=0,turns:=(aB fs<|(n:Int) - 1).turns - 1}->0<(aB fs<|(n:Int) - 1).turns->iy (fs.set ((n:Int) - 1).toNat f):=fun py f e h0=>hf.set (by subst e;refine⟨?_,hf.kept (z:=(n:Int) - 1) ah ah⟩;show 0<=(aB fs<|(n:Int) - 1).turns - 1/\(aB fs<|(n:Int) - 1).turns - 1<=1000000;omega);by_cases n0:n=0
  ·rw[if_pos n0] at h;injection h with h;injection h with e1 h;injection h with e2 e3
   subst e1;subst e2;subst e3;exact E3 (u':=.tuple []) mc hn hc hl (by have:top=549755813888:=rfl;omega) ay (fun q=>absurd q.1 ah) (fun _=>rfl) (fun _ _=>rfl) (fun q _ _ _=>absurd q ah) (fun q=>absurd q.1 ah) (fun q=>absurd q.1 ah) fun q=>absurd q.1 ah
  ·rw[if_neg n0] at h;simp only at h;have hz:((n:Int) - 1).toNat<=n:=by omega
   have hr:fs.length*13<=top:=by have:top=549755813888:=rfl;omega
   by_cases a1:(aB fs<|(n:Int) - 1).au<(((aB fs<|(n:Int) - 1).block.length:Nat):Int)
   ·rw[if_pos a1] at h;injection h with h;injection h with e1 h;injection h with e2 e3
    subst e1;subst e2;subst e3;exact E3 (u':=.tuple []) mc hn hc hl hr ay (fun q=>absurd a1 q.2.1) (fun _=>rfl) (fun _ _=>rfl) (fun _ q _ _=>absurd a1 q) (fun q=>absurd a1 q.2.1) (fun q=>absurd a1 q.2.1) fun q=>absurd a1 q.2.1
   ·rw[if_neg a1] at h;by_cases a2:0<(aB fs<|(n:Int) - 1).turns
    ·rw[if_pos a2] at h;by_cases a3:0<(((aB fs<|(n:Int) - 1).block.length:Nat):Int)
     ·rw[if_pos a3] at h;injection h with h;injection h with e1 h;injection h with e2 e3
      subst e1;subst e2;subst e3;exact E3 (u':=.tuple []) mc hn hc hl hr ay (fun q=>absurd a2 q.2.2.1) (fun q=>absurd q ah) (fun _ q=>absurd q a1) (fun _ _ _ _=>rfl) (fun q=>absurd a3 q.2.2.2) (fun q=>absurd a2 q.2.2.1) fun q=>absurd a2 q.2.2.1
     ·rw[if_neg a3] at h;have ih:=Jv (c:=c) (a:=a) mc k n _ b h hb (HR n0 _ rfl a2) (by rw[List.length_set];exact hn) hc (by rw[List.length_set];exact hl);exact E3 (u':=.tuple []) mc hn hc hl hr ay (fun q=>absurd a2 q.2.2.1) (fun q=>absurd q ah) (fun _ q=>absurd q a1) (fun _ _ _ q=>absurd q a3) (fun _=>ih) (fun q=>absurd a2 q.2.2.1) fun q=>absurd a2 q.2.2.1
    ·rw[if_neg a2] at h;by_cases a4:(aB fs<|(n:Int) - 1).aU=true
     ·rw[if_pos a4] at h;by_cases a5:2<=b.length
      ·rw[if_pos a5] at h;have ih:=Jv (c:=c) (a:=a) mc k _ fs _ h (JW hb a5) hf ah ah hl;exact E3 (u':=cv<|gU b) mc hn hc hl hr ay (fun _=>NI hb a5) (fun q=>absurd q ah) (fun _ q=>absurd q a1) (fun _ _ q _=>absurd q a2) (fun q=>absurd q.2.2.1 a2) (fun _=>ih) (fun q=>by rw[a4] at q;cases q.2.2.2)
      ·rw[if_neg a5] at h;cases h
     ·rw[if_neg a4] at h;have ih:=Jv (c:=c) (a:=a) mc k _ fs b h hb hf ah ah hl;exact E3 (u':=.tuple []) mc hn hc hl hr ay (fun q=>absurd q.2.2.2 a4) (fun q=>absurd q ah) (fun _ q=>absurd q a1) (fun _ _ q _=>absurd q a2) (fun q=>absurd q.2.2.1 a2) (fun q=>absurd q.2.2.2 a4) fun _=>ih
theorem Nm:∀(k m n:Nat) (fs:List Fr) (b:bB) (r:Nat×List Fr×bB),oT k n fs b=some r->k<=m->oT m n fs b=some r
 |0,_,_,_,_,_,h,_=>by cases h
 |k+1,0,_,_,_,_,_,hm=>by omega
 |k+1,m+1,n,fs,b,r,h,hm=>by
  have ih:=fun n fs b h=>Nm k m n fs b r h ah;unfold oT at h ⊢;simp only at h ⊢;split at h
  ·rename_i q;rw[if_pos q];exact h
  ·rename_i q;rw[if_neg q];split at h
   ·rename_i q;rw[if_pos q];exact h
   ·rename_i q;rw[if_neg q];split at h
    ·rename_i q;rw[if_pos q];split at h
     ·rename_i q;rw[if_pos q];exact h
     ·rename_i q;rw[if_neg q];exact ih _ _ _ h
    ·rename_i q;rw[if_neg q];split at h
     ·rename_i q;rw[if_pos q];split at h
      ·rename_i q;rw[if_pos q];exact ih _ _ _ h
      ·cases h
     ·rename_i q;rw[if_neg q];exact ih _ _ _ h
theorem K3:∀l:List Int,l.length=8->l=[l.getD 0 0,l.getD 1 0,l.getD 2 0,l.getD 3 0,l.getD 4 0,l.getD 5 0,l.getD 6 0,l.getD 7 0]
 |[a,b,c,d,e,f,g,h],_=>rfl
theorem acZ(f g:Fr)(hf:f.kept.length=8)(hg:g.kept.length=8)(h:aS f=aS g):f=g:=by
 obtain⟨a1,a2,a3,a4,a5,a6⟩:=f;obtain⟨b1,b2,b3,b4,b5,b6⟩:=g;simp only[aS,eight,List.cons_append,List.nil_append,List.cons.injEq,AV.int.injEq,AV.bool.injEq,true_and,_root_.and_true] at h;obtain⟨h1,rfl,rfl,rfl,c0,c1,c2,c3,c4,c5,c6,c7,h6⟩:=h;rw[Oi h1,VX h6];have e:a5=b5:=by rw[K3 a5 hf,K3 b5 hg,c0,c1,c2,c3,c4,c5,c6,c7]
 rw[e]
theorem GV:∀(l m:List Fr),iy l->iy m->(l.map aS).flatten=(m.map aS).flatten->l=m
 |[],[],_,_,_=>rfl
 |[],y::m,_,_,h=>by have:=congrArg List.length h;simp only[List.map_nil,List.flatten_nil,List.length_nil,List.map_cons,List.flatten_cons,List.length_append,jy] at this;omega
 |x::l,[],_,_,h=>by have:=congrArg List.length h;simp only[List.map_nil,List.flatten_nil,List.length_nil,List.map_cons,List.flatten_cons,List.length_append,jy] at this;omega
 |x::l,y::m,hl,hm,h=>by rw[List.map_cons,List.map_cons,List.flatten_cons,List.flatten_cons] at h;obtain⟨e1,e2⟩:=List.append_inj h (by rw[jy,jy]);rw[acZ x y (hl x List.mem_cons_self).2 (hm y List.mem_cons_self).2 e1,GV l m (fun f hf=>hl f<|List.mem_cons_of_mem _ hf) (fun f hf=>hm f<|List.mem_cons_of_mem _ hf) e2]
def fh(st:VS)(rest:List AV)(p:AV×VS):Prop:=∃(a:MN) (n c k n':Nat) (fs dc:List Fr) (b b':bB),tz st a/\rest=[]/\st.R.len=n/\st.R.cap= .ar c 13/\st.u=cv b/\st.row=(fs.map aS).flatten/\fy b/\iy fs/\n<=fs.length/\n<=c/\fs.length<=1000000/\oT k n fs b=some (n',dc,b')/\p=(.tuple [],⟨⟨st.R.pre,n',.ar c 13,st.R.post⟩,cv b',(dc.map aS).flatten⟩)
theorem fh.bS(st:VS)(rest:List AV)(v v':AV×VS)(h:fh st rest v)(h':fh st rest v'):v=v':=by
 obtain⟨a,n,c,k,n',fs,dc,b,b',_,_,e1,e2,e3,e4,_,f1,_,_,_,s1,rfl⟩:=h;obtain⟨a1,m,d,j,m',gs,gs',b1,Zo,_,_,g1,g2,g3,g4,_,f2,_,_,_,s2,rfl⟩:=h';rw[e1] at g1;subst g1;rw[e2] at g2;injection g2 with g2
 subst g2;rw[e3] at g3;have e:=xJ _ _ g3;subst e;rw[e4] at g4;have e:=GV _ _ f1 f2 g4;subst e;have q1:=Nm k (max k j) _ _ _ _ s1<|Nat.le_max_left _ _;have q2:=Nm j (max k j) _ _ _ _ s2<|Nat.le_max_right _ _;rw[q1] at q2;injection q2 with q2;injection q2 with q2 q3;injection q3 with q3 q4
 rw[q2,q3,q4]
noncomputable def zR:FuncId×KE:=(72,.raw<|nB 10 3<|ey fh)
theorem TM(hP:bC pg){L:bV}(h:aV L):aV<|zR::L:=by
 refine JV hP gL yQ ir gZ kI kl h (abY hP<|cN) Tryz.func72 (body:=aW pg 72 []) aZ aZ fun st rest y br e=>?_;obtain⟨a,n,c,k,n',fs,dc,b,b',⟨h1,h2,h3⟩,rfl,e1,e2,e3,e4,hb,hf,hn,hc,hl,hs,hp⟩:=Kh e;injection hp with jb fP
 subst jb;subst fP;refine⟨aL.1 aZ,fun B mc=>?_⟩;obtain⟨⟨pre,len,cap,post⟩,u,row⟩:=st;simp only at h1 h2 e1 e2 e3 e4;subst h1;subst h2;subst e1;subst e2;subst e3;subst e4;exact ahx (u':=.tuple []) mc<|Jv mc k _ fs b hs hb hf hn hc hl
end jO
end
section
open Go Go.Rn Go.RowKit Go.Proofs
namespace kL
open cr fF cU dM dk dB gF fT ia ig iv iw iG iT iU jI jO iF uK
variable {j nt:Nat} {s:AS} {t:Tr AV} {T:Prop} {K:List Item}
noncomputable section
def zt:Code:=aW pg 62 [1,0,1,0,0]
def lV:Code:=aW pg 62 [1,0,1,0,1]
def pJ:List<|Nat×AV:=[(2,(.ptr<|some (273,0))),(9,(.func (.func 104) [] [(.ptr<|some (274,0))]))]
def KI:List Item:=[.inBlock 0,.code<|aW pg 62 [1,1]]
def iq(st:LoopState)(p:Option Code):ae:=.loop st p 62 (aP pJ) 15 [10,11] zt lV 275
def oW(o0 o1 o2:ae)(r:Int)(sl:AV)(lo:ae)(js:List<|Nat×Option ae):List<|Nat×Option ae:=aq++([(270,some o0),(271,some o1),(272,some o2),(273,some<|.cells 1 (Tr.fill [.int .i64 r] 0 .nil) []),(274,some<|.cells 1 (Tr.fill [sl] 0 .nil) []),(275,some .defs),(276,some lo)]++js)
abbrev fp(L:bV):Env:=wA pg 270 eC dW L 270 false
def QB(P:Program)(SG:aO)(rs:List ResultVar)(k l:Nat)(fr:AF)(s:AS):Option<|AV×Option ae×Option ae×Option ae:=match yN P SG rs k l fr s with
 |some (v,s2)=>some (v,s2.h.get 270,s2.h.get 271,s2.h.get 272)
 |none=>none
theorem ac0{P:Program}{SG:aO}{l:Nat}{B:aI}{U k:Nat}{rs:List ResultVar}{fr:AF}{v:AV}{R:AV->AS->Prop}{o0 o1 o2:ae}(bU:P.follows .mixedOrders=true)(hc:fR P B SG)(hl:∀t a,SF<|SG t a)(h1:fr.round=none)(h2:fr.defers=[])(h:QB P SG rs k l fr s=some (v,some o0,some o1,some o2))(hR:∀s2:AS,s2.h.get 270=some o0->s2.h.get 271=some o1->s2.h.get 272=some o2->R v s2):GD P SG B U (Fin P rs R) l fr s:=by
 unfold QB at h;split at h
 ·rename_i v2 s2 e;injection h with h;injection h with h3 h;injection h with h4 h;injection h with h5 h6
  subst h3;exact OS bU hc hl h1 h2 e<|hR _ h4 h5 h6
 ·cases h
abbrev bX(cs:List AV):Option ae:=some<|.cells 13 (Tr.fill cs 0 .nil) []
def Sh:List AV:=[.slice none 0<|.known 0,.int .i64 0,.int .i64 0,.bool false,.int .i64 0,.int .i64 0,.int .i64 0,.int .i64 0,.int .i64 0,.int .i64 0,.int .i64 0,.int .i64 0,.slice none 0<|.known 0]
theorem YJ(f:Fr):wa (bX Sh) 0 (aS f)=bX (aS f):=by have e:=Oh f;show(match (Nat.ble (0+13) 13&&(Nat.ble 13 top&&(aS f).all AV.cj)) with|true=>some (ae.cells 13 (Tr.fill (aS f) 0<|Tr.fill Sh 0 .nil) [])|false=>none)=_;rw[e];kernel_rfl
def kz(fs:List Fr):Nat->Int
 |0=> -1
 |n+1=>if(aB fs (n:Int)).aU=true then(n:Int) else kz fs n
theorem ajl{l:List Fr}{z:Int}{b:Bool}(h:(aB l z).aU=b)(h0:0<=z)(h1:z<(l.length:Int)):l[z.toNat]? =some ({aB l z with aU:=b}:Fr):=by subst h;exact qX h0 h1
def RW(B:aI)(R:AV->AS->Prop)(v:AV)(s:AS):Prop:=v= .tuple []/\∃p s4,lh 276 s= .ok p s4/\av pg B 273 (Fin pg (aA Tryz.f62) R) ⟨62,aP pJ,15,andThen p KI,[275],none⟩ s4
def jsL(b:Nat->Option ae)(j:Nat):List<|Nat×Option ae:=(List.range j).map fun k=>(277+k,b k)
def uN(b:Nat->Option ae)(j:Nat)(o:Option ae)(k:Nat):Option ae:=match Nat.beq k j with
 |true=>o
 |false=>b k
def rI(t:Bool)(i:Int):Int:=match t with
 |true=>i
 |false=>0
def Si(t:Bool):ae:=match t with
 |true=>iq .done<|some .ret
 |false=>iq .ready none
abbrev sJ(o0 o1 o2:ae)(r:Int)(sl:AV)(lo:ae)(b:Nat->Option ae)(j:Nat):AS:=aj (oW o0 o1 o2 r sl lo<|jsL b j)<|277+j
abbrev Gi(i:Int)(cs:List AV)(m:Nat):Tr AV:=aP [(2,(.ptr<|some (273,0))),(3,(i6 i)),(4,(.ptr<|some (m,0))),(9,(.func (.func 104) [] [(.ptr<|some (274,0))])),(10,(i6 i)),(11,(.agg cs))]
section
variable {o0 o1 o2:ae} {sl:AV} {f:Fr} {i:Int} {b:Nat->Option ae} {B:aI} {R:AV->AS->Prop} {fs:List Fr} {n c:Nat} {d:Nat->AV}
abbrev sA(o0 o1 o2:ae)(sl:AV)(b:Nat->Option ae)(j:Nat):AS:=sJ o0 o1 o2 0 sl (iq .ready none) b j
abbrev sE(o0 o1 o2:ae)(sl:AV)(f:Fr)(i:Int)(b:Nat->Option ae)(t:Bool)(j:Nat):AS:=sJ o0 o1 o2 (rI t i) sl (Si t) (uN b j<|bX<|aS {f with aU:=t})<|j+1
abbrev Rc(o0 o1 o2:ae)(sl:AV)(f:Fr)(i:Int)(b:Nat->Option ae)(t:Bool)(j:Nat):Prop:=bh pg (sp []) FU 5 (.round 276) [.int .i64 i,.agg<|aS {f with aU:=t}] (sA o0 o1 o2 sl b j)= .ok (.bool !t) (sE o0 o1 o2 sl f i b t j)
theorem Mh(t:Bool)(j:Nat)(k1:getLoop 276 (sA o0 o1 o2 sl b j)= .ok (.loop .ready none 62 (aP pJ) 15 [10,11] zt lV 275) (sA o0 o1 o2 sl b j):=by as_aux_lemma=>kernel_rfl)(k2:((wa (bX Sh) 0 (aS {f with aU:=t})=bX (aS {f with aU:=t}))/\((⟨62,Gi i (aS {f with aU:=t})<|277+j,15,[.beginRound,.code lV],[],none⟩:AF)=⟨62,Gi i (aS {f with aU:=t})<|277+j,15,[.beginRound,.code lV],[],none⟩/\sJ o0 o1 o2 0 sl (iq .ready none) (uN b j<|bX<|aS {f with aU:=t}) (j+1)=sJ o0 o1 o2 0 sl (iq .ready none) (uN b j<|bX<|aS {f with aU:=t}) (j+1)))=
 wp (fp []) 900 4 (.fr 62 15 [.code zt,.beginRound,.code lV] (je [10,11] [.int .i64 i,.agg<|aS {f with aU:=t}]<|aP pJ)<|sA o0 o1 o2 sl b j) (.st 2<|.rg<|.go 1<|.s8 (.cells 13 (Tr.fill (aS {f with aU:=t}) 0 .nil) [])<|.en<|.cut .no) [] (fun _ _ _=>False) (fun fr s1 _=>fr=⟨62,Gi i (aS {f with aU:=t})<|277+j,15,[.beginRound,.code lV],[],none⟩/\s1=sJ o0 o1 o2 0 sl (iq .ready none) (uN b j<|bX<|aS {f with aU:=t}) (j+1)):=by as_aux_lemma=>kernel_rfl)(k3:eh pg (bh pg (sp []) FU 4) 1 ⟨62,Gi i (aS {f with aU:=t})<|277+j,15,[.beginRound,.code lV],[],some 276⟩ (sJ o0 o1 o2 0 sl (iq .ready none) (uN b j<|bX<|aS {f with aU:=t})<|j+1)= .ok (.go ⟨62,Gi i (aS {f with aU:=t})<|277+j,15,[.code lV],[],some 276⟩) (sJ o0 o1 o2 0 sl (iq .busy none) (uN b j<|bX<|aS {f with aU:=t})<|j+1):=by as_aux_lemma=>kernel_rfl)(k4:((none:Option Nat)=none/\([]:List Nat)=[]/\(some (.bool !t,sE o0 o1 o2 sl f i b t j):Option<|AV×AS)=some (.bool !t,sE o0 o1 o2 sl f i b t j))=
 wp (fp []) 900 4 (.fr 62 15 [.code lV] (Gi i (aS {f with aU:=t})<|277+j)<|sJ o0 o1 o2 0 sl (iq .busy none) (uN b j<|bX<|aS {f with aU:=t})<|j+1) (.st 6<|.cut .no) [] (fun _ _ _=>False) (fun fr s1 _=>fr.round=none/\fr.defers=[]/\zO pg (bh pg (sp []) FU 4) 276 fr s1=some (.bool !t,sE o0 o1 o2 sl f i b t j)):=by as_aux_lemma=>kernel_rfl):Rc o0 o1 o2 sl f i b t j:=
 DO k1 rfl (zH (E:=fp []) eJ rfl (fun fr s p h=>by obtain⟨rfl,rfl⟩:=h;exact⟨rfl,rfl,Chunk.ev 1 _ _ _ _ k3<|zH (E:=fp []) eJ rfl (fun fr s p h=>DN h.1 h.2.1 h.2.2) 900 _ (IN _ _) k4⟩) 900 _ ⟨YJ _,rfl,rfl⟩ k2)
theorem OU(t:Bool)(hj:j<6):Rc o0 o1 o2 sl f i b t j:=by rcases(by omega:j=0\/j=1\/j=2\/j=3\/j=4\/j=5) with rfl|rfl|rfl|rfl|rfl|rfl<;>cases t<;>exact Mh _ _
def nD:Nat->Nat
 |0=>3
 |_=>15
abbrev fJ(j:Nat)(i:Int)(d:Nat->AV):AF:=⟨104,aP<|[(0,(.yield 276)),(1,(.ptr<|some (274,0))),(3,(.int .i64 i))]++(List.range<|nD j).map fun k=>(4+k,d k),19,[.code<|aW pg 104 [1,0,0],.inLoop<|aW pg 104 [1,0,0],.inBlock 0],[],none⟩
abbrev fW(B:aI)(R:AV->AS->Prop)(fr:AF)(s:AS):Prop:=mT (fp []) 5 (aA Tryz.f104) (RW B R) fr s
theorem Dv{B:aI}{R:AV->AS->Prop}{f:Nat}{FR:AF}{S1:AS}(H:fW B R FR S1)(p:Pl)(x:T)(h:T=wp (fp []) 900 5 (.fr f nt K t s) p (aA Tryz.f104) (fun v s _=>RW B R v s) (fun fr s1 _=>fr=FR/\s1=S1):=by as_aux_lemma=>kernel_rfl):fW B R ⟨f,t,nt,K,[],none⟩ s:=wc (C:=fun fr s1 _=>fr=FR/\s1=S1) eJ rfl (fun fr s1 p h=>by obtain⟨rfl,rfl⟩:=h;exact H) 900 p x h
theorem MR{B:aI}{R:AV->AS->Prop}{f:Nat}(p:Pl)(x:T)(h:T=wp (fp []) 900 5 (.fr f nt K t s) p (aA Tryz.f104) (fun v s _=>RW B R v s) (fun _ _ _=>False):=by as_aux_lemma=>kernel_rfl):fW B R ⟨f,t,nt,K,[],none⟩ s:=wc (C:=fun _ _ _=>False) eJ rfl (fun _ _ _ h=>h.elim) 900 p x h
abbrev iP(n c:Nat):AV:=.slice (some (272,0)) n<|.ar c 13
theorem ZT(t:Bool)(mc:Mt [] B){v:Int}(hR:∀s2:AS,s2.h.get 270=some o0->s2.h.get 271=some o1->s2.h.get 272=some (aJ aS fs)->R (.int .i64 v) s2)(p:Option Code)(k1:lh 276 (sJ o0 o1 (aJ aS fs) (rI t i) (iP n c) (Si t) b j)= .ok p (sJ o0 o1 (aJ aS fs) (rI t i) (iP n c) (iq .exhausted p) b j):=by as_aux_lemma=>kernel_rfl)(k2:QB pg (bh pg (sp []) FU 6) (aA Tryz.f62) 8 275 ⟨62,aP pJ,15,andThen p KI,[],none⟩ (sJ o0 o1 (aJ aS fs) (rI t i) (iP n c) (iq .exhausted p) b j)=some (.int .i64 v,some o0,some o1,some<|aJ aS fs):=by as_aux_lemma=>kernel_rfl):RW B R (.tuple [])<|sJ o0 o1 (aJ aS fs) (rI t i) (iP n c) (Si t) b j:=⟨rfl,p,_,k1,(ac0 (l:=275) (k:=8) (fr:=⟨62,aP pJ,15,andThen p KI,[],none⟩) (v:=.int .i64 v) (o0:=o0) (o1:=o1) (o2:=aJ aS fs) bU mc.2.2.1 mc.2.2.2 rfl rfl k2 hR).2.2 (by show 273<=277+j;omega)⟩
theorem MS(hi:i<0)(hL:RW B R (.tuple [])<|sA o0 o1 (aJ aS fs) (iP n c) b j)(k:((i>=0->False)/\(¬i>=0->RW B R (.tuple []) (sA o0 o1 (aJ aS fs) (iP n c) b j)))=wp (fp []) 900 5 (.fr 104 19 (fJ j i d).todo (fJ j i d).tmps<|sA o0 o1 (aJ aS fs) (iP n c) b j) (.st 2<|.rg<|.go 1<|.fk (.no)<|.en<|.rt 3 .no) (aA Tryz.f104) (fun v s _=>RW B R v s) (fun _ _ _=>False):=by as_aux_lemma=>kernel_rfl):fW B R (fJ j i d)<|sA o0 o1 (aJ aS fs) (iP n c) b j:=MR _ ⟨fun h=>by omega,fun _=>hL⟩ k
abbrev Sj(o0 o1:ae)(fs:List Fr)(n c:Nat)(i:Int)(b:Nat->Option ae)(t:Bool)(j:Nat)(P:Prop):Prop:=((i>=0->((0:Int)<=i/\i<(n:Int)/\(cellsOf (some<|aJ aS fs) (i.toNat*13+0) 13=some (((aS {(aB fs i) with aU:=t}).drop 0).take 13)/\(Rc o0 o1 (aJ aS fs) (iP n c) (aB fs i) i b t j/\P))))/\(¬i>=0->False))
theorem ZU{t:Bool}{P:Prop}(hj:j<6)(hi:0<=i/\i<n/\n<=fs.length)(hR:fs.length*13<=top)(da:(aB fs i).aU=t)(x:P):Sj o0 o1 fs n c i b t j P:=⟨fun _=>⟨hi.1,hi.2.1,nr jy hR (ajl (l:=fs) (z:=i) da hi.1 ah) 0 13 rfl,OU t hj,x⟩,fun h=>h hi.1⟩
theorem MT(hj:j<6)(hi:0<=i/\i<n/\n<=fs.length)(hR:fs.length*13<=top)(da:(aB fs i).aU=true)(hL:RW B R (.tuple [])<|sE o0 o1 (aJ aS fs) (iP n c) (aB fs i) i b true j)(k:Sj o0 o1 fs n c i b true j (RW B R (.tuple [])<|sE o0 o1 (aJ aS fs) (iP n c) (aB fs i) i b true j)=wp (fp []) 900 5 (.fr 104 19 (fJ j i d).todo (fJ j i d).tmps<|sA o0 o1 (aJ aS fs) (iP n c) b j) (.st 2<|.rg<|.go 1<|.fk (.en<|.st 5<|.rg<|.go 4<|.ix<|.ld (aS {(aB fs i) with aU:=true})<|.cy (.bool false) (sE o0 o1 (aJ aS fs) (iP n c) (aB fs i) i b true j)<|.go 1<|.en<|.rt 2 .no)<|.no) (aA Tryz.f104) (fun v s _=>RW B R v s) (fun _ _ _=>False):=by as_aux_lemma=>kernel_rfl):fW B R (fJ j i d)<|sA o0 o1 (aJ aS fs) (iP n c) b j:=MR _ (ZU hj hi hR da hL) k
def dN(d:Nat->AV)(fs:List Fr)(n c:Nat)(i:Int)(k:Nat):AV:=[d 0,d 1,d 2,.int .i64 i,.bool true,.int .i64 i,.int .i64<|i - 1,.yield 276,.int .i64 i,iP n c,.int .i64 i,.ptr<|some (272,i.toNat*13+0),.agg<|aS {(aB fs i) with aU:=false},.bool true,.bool false].getD k<|.bool false
theorem MU(hj:j<6)(hi:0<=i/\i<n/\n<=fs.length)(hf:fs.length<=1000000)(hR:fs.length*13<=top)(da:(aB fs i).aU=false)(H:fW B R (fJ (j+1) (i - 1)<|dN d fs n c i)<|sE o0 o1 (aJ aS fs) (iP n c) (aB fs i) i b false j)(k:Sj o0 o1 fs n c i b false j ((AV.int .i64 (IntKind.wrap .i64<|i - 1)= .int .i64 (i - 1))/\(fJ (j+1) (i - 1) (dN d fs n c i)=fJ (j+1) (i - 1) (dN d fs n c i)/\sE o0 o1 (aJ aS fs) (iP n c) (aB fs i) i b false j=sE o0 o1 (aJ aS fs) (iP n c) (aB fs i) i b false j))=wp (fp []) 900 5 (.fr 104 19 (fJ j i d).todo (fJ j i d).tmps<|sA o0 o1 (aJ aS fs) (iP n c) b j) (.st 2<|.rg<|.go 1<|.fk (.en<|.st 5<|.rg<|.go 4<|.ix<|.ld (aS {(aB fs i) with aU:=false})<|.cy (.bool true) (sE o0 o1 (aJ aS fs) (iP n c) (aB fs i) i b false j)<|.go 1<|.en<|.st 3<|.rg<|.go 1<|.vl (i6<|i - 1)<|.go 1<|.en<|.st 1<|.cut .no)<|.no) (aA Tryz.f104) (fun v s _=>RW B R v s) (fun fr s1 _=>fr=fJ (j+1) (i - 1) (dN d fs n c i)/\s1=sE o0 o1 (aJ aS fs) (iP n c) (aB fs i) i b false j):=by as_aux_lemma=>kernel_rfl):fW B R (fJ j i d)<|sA o0 o1 (aJ aS fs) (iP n c) b j:=Dv H _ (ZU hj hi hR da ⟨wI _,rfl,rfl⟩) k
theorem BT(mc:Mt [] B)(hl:n<=fs.length)(hf:fs.length<=1000000):∀(m j:Nat) (b:Nat->Option ae) (d:Nat->AV),j+m<=6->m<=n->(∀s2:AS,s2.h.get 270=some o0->s2.h.get 271=some o1->s2.h.get 272=some (aJ aS fs)->R (i6<|kz fs m) s2)->fW B R (fJ j ((m:Int) - 1) d) (sA o0 o1 (aJ aS fs) (iP n c) b j)
 |0,j,b,d,h6,_,hQ=>by rcases(by omega:j=0\/j=1\/j=2\/j=3\/j=4\/j=5\/j=6) with rfl|rfl|rfl|rfl|rfl|rfl|rfl<;>exact MS ah<|ZT (i:=0) false mc hQ none
 |m+1,j,b,d,h6,hn,hQ=>by
  have hR:fs.length*13<=top:=by have:top=549755813888:=rfl;omega
  have e:(((m+1:Nat):Int) - 1)=(m:Int):=by omega
  rw[e];cases da:(aB fs (m:Int)).aU with
  |true=>rw[show kz fs (m+1)=(m:Int) from if_pos da] at hQ;rcases(by omega:j=0\/j=1\/j=2\/j=3\/j=4\/j=5) with rfl|rfl|rfl|rfl|rfl|rfl<;>exact MT ah ⟨by omega,by omega,hl⟩ hR da<|ZT true mc hQ<|some .ret
  |false=>rw[show kz fs (m+1)=kz fs m from if_neg (by rw[da];intro q;cases q)] at hQ;have ih:=fun b d=>BT mc hl hf m (j+1) b d ah ah hQ;rcases(by omega:j=0\/j=1\/j=2\/j=3\/j=4\/j=5) with rfl|rfl|rfl|rfl|rfl|rfl<;>exact MU ah ⟨by omega,by omega,hl⟩ hf hR da<|ih _ _
def d0(n c k:Nat):AV:=[iP n c,.int .i64 (n:Int),.int .i64<|(n:Int) - 1].getD k<|.bool false
theorem akI(hn:n<=1000000)(H:fW B R (fJ 0 ((n:Int) - 1)<|d0 n c)<|sA o0 o1 (aJ aS fs) (iP n c) b 0):fW B R (sF 104 Tryz.f104 [.yield 276,.ptr<|some (274,0)])<|sA o0 o1 (aJ aS fs) (iP n c) b 0:=Dv H (.st 1<|.rg<|.go 2<|.vl (i6<|(n:Int) - 1)<|.go 1<|.en<|.st 2<|.cut .no)<|ai (wI<|(n:Int) - 1)<|ai (rX<|fJ 0 ((n:Int) - 1)<|d0 n c)<|rX<|sA o0 o1 (aJ aS fs) (iP n c) b 0
end
theorem yr:aW pg 62 [1,0,1,0]= .rangeFunc (.tmp 9) #[10,11] zt lV:=by kernel_rfl
abbrev ZV(a:MN)(n c:Nat):ae:=.cells 13 (Tr.fill (a.row (.ptr<|some (271,0)) (iP n c)<|i6 a.steps) 0 .nil) []
abbrev IZ(a:MN)(n c:Nat)(u:AV)(fs:List Fr):List<|Nat×Option ae:=aq++[(270,some<|ZV a n c),(271,some<|.tok 3 u),(272,some<|aJ aS fs),(273,some<|.cells 1 (Tr.fill [.int .i64 0] 0 .nil) []),(274,some<|.cells 1 (Tr.fill [iP n c] 0 .nil) [])]
abbrev pL:AF:=⟨62,aP pJ,15,.code (aW pg 62 [1,0,1,0])::KI,[],none⟩
abbrev jx(a:MN)(n c:Nat)(u:AV)(fs:List Fr):VS:=⟨⟨a.pre,n,.ar c 13,[.int .i64 a.steps]⟩,u,(fs.map aS).flatten⟩
theorem ahy{B:aI}{a:MN}{n c:Nat}{u:AV}{fs:List Fr}(mc:Mt [] B)(ZW:n<=6)(hl:n<=fs.length)(hf:fs.length<=1000000):av pg B 273 (ij 270 3 pg (aA Tryz.f62) (i6<|kz fs n)<|jx a n c u fs) (sF 62 Tryz.f62 [.ptr<|some (270,0)])<|aj (aq++bQ (dQ 270 3<|jx a n c u fs)) 273:=by refine yb (E:=rL []) (C:=fun fr s1 _=>fr=pL/\s1=aj (IZ a n c u fs) 275) eJ rfl bU mc.2.2.1 mc.2.2.2 Ou rfl mc.1 (fun fr s1 p hC=>?_) 900 (.st 4<|.rg<|.go 4<|.il<|.rt 5<|.en<|.st 1<|.ls pJ (IZ a n c u fs) 275 .no)<|ai (mS pJ)<|ai (mO<|IZ a n c u fs)<|ai (rX pL)<|rX<|aj (IZ a n c u fs) 275;obtain⟨rfl,rfl⟩:=hC;unfold pL;rw[yr];obtain⟨v,s2,h1,rfl,p,s4,h5,H⟩:=mT.call (E:=(fp [])) (n:=5) Tryz.func104 (xH Tryz.func104 cC)<|akI (b:=fun _=>none) (c:=c) ah<|BT (o0:=ZV a n c) (o1:=.tok 3 u) (R:=fun(y1:AV) (s':AS)=>y1= .int .i64 (kz fs n)/\∀m o,(m,o)∈dQ 270 3 (jx a n c u fs)->s'.h.get m=some o) mc hl hf n 0 _ _ ah (Nat.le_refl n) fun s2 a b d=>oe rfl a b d;exact av.chunk bU mc.2.2.1 mc.2.2.2 (GS (gv:=.func (.func 104) [] [.ptr<|some (274,0)]) (s1:=aj (IZ a n c u fs++[(275,some .defs)]) 276) cC cC cC h1 h5) (by show 273<=275;omega) H
def sa(st:VS)(rest:List AV)(v:AV):Prop:=∃(a:MN) (n c:Nat) (fs:List Fr),tz st a/\rest=[]/\st.R.len=n/\st.R.cap= .ar c 13/\st.row=(fs.map aS).flatten/\iy fs/\n<=6/\n<=fs.length/\fs.length<=1000000/\v= .int .i64 (kz fs n)
theorem sa.bS(st:VS)(rest:List AV)(v v':AV)(h:sa st rest v)(h':sa st rest v'):v=v':=by obtain⟨a,n,c,fs,_,_,rfl,_,e4,f1,_,_,_,rfl⟩:=h;obtain⟨a1,m,d,gs,_,_,rfl,_,g4,f2,_,_,_,rfl⟩:=h';rw[e4] at g4;rw[GV _ _ f1 f2 g4]
def mC:FuncId×KE:=(62,.raw<|nC 10 3<|vR sa)
theorem NJ(hP:bC pg){L:bV}(h:aV L):aV<|mC::L:=by refine GG hP gL yQ ir gZ kI kl h cN Tryz.func62 (body:=aW pg 62 []) aZ aZ fun st rest y e _=>?_;obtain⟨a,n,c,fs,⟨h1,h2,h3⟩,rfl,e1,e2,e4,_,ZW,hl,hf,rfl⟩:=Hl e;refine⟨aL.1 aZ,fun B mc=>?_⟩;obtain⟨⟨pre,len,cap,post⟩,u,row⟩:=st;simp only at h1 h2 e1 e2 e4;subst h1;subst h2;subst e1;subst e2;subst e4;exact ahy mc ZW hl hf
end
end kL
end
section
open Go Go.Rn Go.RowKit Go.Proofs
namespace lv
open cr fF cU dM dk dB gF fT ia ig iv iw iG iT iU jI jO kL iF
variable {fs:List Fr} {u:AV} {to a9 nn n2 kind:Int} {c N4 N3 N2 N L4 L3 L2 L:Nat} {a:MN} {B:aI}
noncomputable section
def E4(o:Option St):AV:=match o with
 |none=>.tuple [.agg [.int .u8 0,.int .i64 0,.int .u8 0,.int .i64 0,.slice none 0<|.known 0,.int .u8 0,.int .i64 0,.slice none 0<|.known 0,.slice none 0<|.known 0,.slice none 0<|.known 0],.bool false]
 |some s=>.tuple [.agg<|ba s,.bool true]
def AM(fs:List Fr)(n:Nat):Fr:=aB fs<|(n:Int) - 1
def sr(fs:List Fr)(n:Nat)(o:Option St):Prop:=(n=0/\o=none)\/(1<=n/\0<=(AM fs n).au/\∃s,(AM fs n).block[(AM fs n).au.toNat]? =some s/\o=some s)
theorem sr.bS{n:Nat}{o o':Option St}(h:sr fs n o)(h':sr fs n o'):o=o':=by
 rcases h with⟨a,b⟩|⟨a,_,s,b,e⟩<;>rcases h' with⟨a',b'⟩|⟨a',_,s',b',e'⟩
 ·rw[b,b']
 ·omega
 ·omega
 ·rw[b] at b';injection b' with b';rw[e,e',b']
noncomputable abbrev EB(a:MN)(n c:Nat)(u:AV)(fs:List Fr):VS:=(⟨⟨a.pre,n,(.ar c 13),[.int .i64 a.steps]⟩,u,(fs.map aS).flatten⟩:VS)
noncomputable abbrev EC(kind to op nn:Int)(N L:Nat)(a9 n2:Int)(N2 L2 N3 L3 N4 L4:Nat):List AV:=[(u8<|kind),(i6 to),(u8<|op),(i6 nn),(.ab N 0 L),(u8<|a9),(i6 n2),(.ab N2 0 L2),(.ab N3 0 L3),(.ab N4 0 L4)]
theorem akJ{n:Nat}{op:Int}(mc:Mt [] B)(h1:1<=n)(hn:n<=fs.length)(hf:fs.length<=1000000)(hR:fs.length*13<=top)(ay:0<=(aB fs<|(n:Int) - 1).au/\(aB fs<|(n:Int) - 1).au<(((aB fs<|(n:Int) - 1).block.length:Nat):Int))(hx:cx FU (nm ((aB fs<|(n:Int) - 1).block.map ba).flatten) (0+(aB fs<|(n:Int) - 1).au.toNat*10+0) 10=some (EC kind to op nn N L a9 n2 N2 L2 N3 L3 N4 L4)):av pg B 273 (ij 270 3 pg (aA Tryz.f60) (.tuple [.agg<|EC kind to op nn N L a9 n2 N2 L2 N3 L3 N4 L4,.bool true])<|EB a n c u fs) (sF 60 Tryz.f60 [.ptr<|some (270,0)])<|aj (aq++bQ (dQ 270 3<|EB a n c u fs)) 273:=l9 (E:=rL []) eJ rfl bU mc.2.2.1 mc.2.2.2 900 (.st 4<|.rg<|.go 5<|.fk (.no)<|.en<|.st 3<|.rg<|.go 9<|.vl (i6<|(n:Int) - 1)<|.ix<|.ld (aS<|aB fs<|(n:Int) - 1)<|.go 1<|.s8 (.cells 13 (Tr.fill (aS<|aB fs<|(n:Int) - 1) 0 .nil) [])<|.en<|.st 1<|.rg<|.go 4<|.eG<|.eH (EC kind to op nn N L a9 n2 N2 L2 N3 L3 N4 L4)<|.go 2<|.en<|.rt 1 .no)<|ax ((n:Int)=0) eN fun _=>(ai (wI<|(n:Int) - 1)<|eZ ((n:Int) - 1) (n:Int)<|ai (nr jy hR (qX (l:=fs) (z:=((n:Int) - 1)) ah ah) 0 13 rfl)<|ai (YJ<|aB fs<|(n:Int) - 1)<|eZ ((aB fs<|(n:Int) - 1).au) (((aB fs<|(n:Int) - 1).block.length:Nat):Int)<|ai (show top<=nm ((aB fs<|(n:Int) - 1).block.map ba).flatten from cV _)<|ai hx<|oe (st:=(EB a n c u fs)) (s:=aj (aq++[(270,some<|.cells 13 (Tr.fill (a.row (.ptr<|some (271,0)) (.slice (some (272,0)) (n)<|.ar c 13)<|i6 a.steps) 0 .nil) []),(271,(some<|.tok 3 u)),(272,(some<|aJ aS fs)),(273,some<|.cells 10 (Tr.fill (EC kind to op nn N L a9 n2 N2 L2 N3 L3 N4 L4) 0 .nil) []),(274,some<|.cells 13 (Tr.fill (aS<|aB fs<|(n:Int) - 1) 0 .nil) [])]) 275) (show((.tuple [(.agg<|EC kind to op nn N L a9 n2 N2 L2 N3 L3 N4 L4),(.bool true)]):AV)=(.tuple [.agg<|EC kind to op nn N L a9 n2 N2 L2 N3 L3 N4 L4,.bool true]) from rfl) cn cn cn)
noncomputable abbrev W4:AV:=.tuple [.agg [.int .u8 0,.int .i64 0,.int .u8 0,.int .i64 0,.slice none 0<|.known 0,.int .u8 0,.int .i64 0,.slice none 0<|.known 0,.slice none 0<|.known 0,.slice none 0<|.known 0],.bool false]
theorem akK{n:Nat}{N L N2 L2 N3 L3 N4 L4:Nat}{kind to op nn a9 n2:Int}(mc:Mt [] B)(h1:n=0):av pg B 273 (ij 270 3 pg (aA Tryz.f60) W4<|EB a n c u fs) (sF 60 Tryz.f60 [.ptr<|some (270,0)])<|aj (aq++bQ (dQ 270 3<|EB a n c u fs)) 273:=l9 (E:=rL []) eJ rfl bU mc.2.2.1 mc.2.2.2 900 (.st 4<|.rg<|.go 5<|.fk (.en<|.rt 4 .no)<|.no)<|ax ((n:Int)=0) (fun _=>(oe (st:=(EB a n c u fs)) (s:=aj (aq++[(270,some<|.cells 13 (Tr.fill (a.row (.ptr<|some (271,0)) (.slice (some (272,0)) (n)<|.ar c 13)<|i6 a.steps) 0 .nil) []),(271,(some<|.tok 3 u)),(272,(some<|aJ aS fs)),(273,some<|.cells 10 (Tr.fill [(u8<|.ofNat 0),i0,(u8<|.ofNat 0),i0,(.slice none 0<|.known 0),(u8<|.ofNat 0),i0,(.slice none 0<|.known 0),(.slice none 0<|.known 0),(.slice none 0<|.known 0)] 0 .nil) [])]) 274) (show((.tuple [(.agg [(u8<|.ofNat 0),i0,(u8<|.ofNat 0),i0,(.slice none 0<|.known 0),(u8<|.ofNat 0),i0,(.slice none 0<|.known 0),(.slice none 0<|.known 0),(.slice none 0<|.known 0)]),(.bool false)]):AV)=W4 from rfl) cn cn cn)) eN
def jj(st:VS)(rest:List AV)(v:AV):Prop:=∃(a:MN) (n c:Nat) (fs:List Fr) (o:Option St),tz st a/\rest=[]/\st.R.len=n/\st.R.cap= .ar c 13/\st.row=(fs.map aS).flatten/\iy fs/\n<=fs.length/\fs.length<=1000000/\sr fs n o/\v=E4 o
theorem jj.bS(st:VS)(rest:List AV)(v v':AV)(h:jj st rest v)(h':jj st rest v'):v=v':=by obtain⟨a,n,c,fs,o,_,_,rfl,_,e4,f1,_,_,s1,rfl⟩:=h;obtain⟨a1,m,d,gs,o',_,_,rfl,_,g4,f2,_,_,s2,rfl⟩:=h';rw[e4] at g4;have e:=GV _ _ f1 f2 g4;subst e;rw[s1.bS s2]
def mI:FuncId×KE:=(60,.raw<|nC 10 3<|vR jj)
theorem OV(hP:bC pg){L:bV}(h:aV L):aV<|mI::L:=by
 refine GG hP gL yQ ir gZ kI kl h cN Tryz.func60 (body:=aW pg 60 []) aZ aZ fun st rest y e _=>?_;obtain⟨a,n,c,fs,o,⟨h1,h2,h3⟩,rfl,e1,e2,e4,_,hl,hf,hS,rfl⟩:=Hl e;refine⟨aL.1 aZ,fun B mc=>?_⟩;obtain⟨⟨pre,len,cap,post⟩,u,row⟩:=st;simp only at h1 h2 e1 e2 e4;subst h1;subst h2;subst e1;subst e2;subst e4;rcases hS with⟨q,rfl⟩|⟨q,q0,s,q1,rfl⟩
 ·exact akK (N:=0) (L:=0) (N2:=0) (L2:=0) (N3:=0) (L3:=0) (N4:=0) (L4:=0) (kind:=0) (to:=0) (op:=0) (nn:=0) (a9:=0) (n2:=0) mc q
 ·obtain⟨kind,to,⟨oa,na,la⟩,⟨ob,nb,lb⟩,bd,el⟩:=s;have cF:=(List.getElem?_eq_some_iff.1 q1).1;have hx:=yc lF q1 0 10<|Nat.le_refl _;rw[show(AM fs len).au.toNat*10+0=0+(AM fs len).au.toNat*10+0 by omega,show((ba<|.mk kind to (.mk oa na la) (.mk ob nb lb) bd el).drop 0).take 10=ba (.mk kind to (.mk oa na la) (.mk ob nb lb) bd el) by rw[List.drop_zero];exact List.take_of_length_le (by rw[lF.len];omega)] at hx;rw[show E4 (some<|.mk kind to (.mk oa na la) (.mk ob nb lb) bd el)= .tuple [.agg<|ba<|.mk kind to (.mk oa na la) (.mk ob nb lb) bd el,.bool true] from rfl];rw[ba,aM,aM] at hx ⊢;exact akJ mc q hl hf (by have:top=549755813888:=rfl;omega) ⟨q0,by unfold AM at cF q0;omega⟩ hx
end
end lv
end
section
open Go Go.Rn Go.RowKit Go.Proofs
namespace mm
open cr fF cU dM dk dB gF fT ia ig iv iw iG iT iU jI jO kL lv iF
variable {wi to a9 nn n2 kind gx:Int} {u Y:AV} {fs:List Fr} {c N4 N3 N2 N L4 L3 L2 L:Nat} {a:MN} {B:aI}
noncomputable abbrev fj(a:MN)(n c:Nat)(u:AV)(fs:List Fr):VS:=(⟨⟨a.pre,n,(.ar c 13),[.int .i64 a.steps]⟩,u,(fs.map aS).flatten⟩:VS)
noncomputable abbrev K4:List AV:=[(u8<|.ofNat 0),i0,(u8<|.ofNat 0),i0,(.slice none 0<|.known 0),(u8<|.ofNat 0),i0,(.slice none 0<|.known 0),(.slice none 0<|.known 0),(.slice none 0<|.known 0)]
noncomputable abbrev KD(n c:Nat):AV:=.slice (some (272,0)) (n)<|.ar c 13
theorem ajm{n:Nat}{N L N2 L2 N3 L3 N4 L4:Nat}{kind to op nn a9 n2:Int}{z v wi gx:Int}(mc:Mt [mI,iN,jG,lp,mC] B)(hO:bR 10 (fj a n c u fs)=true)(hs:vR jj (fj a n c u fs) []=some (.tuple [(.agg K4),(.bool false)]))(E0:(.agg [.int .u8 3,.int .i64 0,.int .i64 0]:AV)=Y):av pg B 273 (ij 270 3 pg (aA Tryz.f38) Y<|fj a n c u fs) (sF 38 Tryz.f38 [.ptr<|some (270,0)])<|aj (aq++bQ (dQ 270 3<|fj a n c u fs)) 273:=l9 (E:=rL [mI,iN,jG,lp,mC]) eJ rfl bU mc.2.2.1 mc.2.2.2 900 (.st 8<|.rg<|.go 1<|.cg (.tuple [(.agg K4),(.bool false)]) (vG 272) (vQ 272<|fj a n c u fs)<|.go 6<|.en<|.rt 8 .no)<|ks [mI,iN,jG,lp,mC] 60 272 (vR jj) [] (fj a n c u fs) (.tuple [(.agg K4),(.bool false)]) hO hs rfl cn<|oe (st:=(fj a n c u fs)) (s:=aj (aq++[(270,some<|.cells 13 (Tr.fill (a.row (.ptr<|some (271,0)) (KD n c)<|i6 a.steps) 0 .nil) []),(271,(some<|.tok 3 u)),(272,(some<|aJ aS fs)),(273,some<|.cells 3 (Tr.fill [(u8<|.ofNat 3),i0,i0] 0 .nil) []),(274,some<|.cells 10 (Tr.fill K4 0 .nil) [])]) 275) (show(.agg [(u8<|.ofNat 3),i0,i0])=Y from E0) cn cn cn
noncomputable abbrev agR(a:MN)(n c:Nat)(u:AV)(fs:List Fr)(kind to op nn:Int)(N L:Nat)(a9 n2:Int)(N2 L2 N3 L3 N4 L4:Nat):List<|Nat×Option ae:=aq++[(270,some<|.cells 13 (Tr.fill (a.row (.ptr<|some (271,0)) (.slice (some (272,0)) (n)<|.ar c 13)<|i6 a.steps) 0 .nil) []),(271,(some<|.tok 3 u)),(272,(some<|aJ aS fs)),(273,some<|.cells 3 (Tr.fill [(u8<|.ofNat 1),i0,i0] 0 .nil) []),(274,some<|.cells 10 (Tr.fill [(u8<|kind),(i6 to),(u8<|op),(i6 nn),(.ab N 0 L),(u8<|a9),(i6 n2),(.ab N2 0 L2),(.ab N3 0 L3),(.ab N4 0 L4)] 0 .nil) [])]
noncomputable abbrev ue(kind to op nn:Int)(N L:Nat)(a9 n2:Int)(N2 L2 N3 L3 N4 L4:Nat):List AV:=[(u8<|kind),(i6 to),(u8<|op),(i6 nn),(.ab N 0 L),(u8<|a9),(i6 n2),(.ab N2 0 L2),(.ab N3 0 L3),(.ab N4 0 L4)]
noncomputable abbrev yd(op nn:Int)(N L:Nat):List AV:=[(.agg [(u8<|op),(i6 nn),(.ab N 0 L)])]
theorem ajn{n:Nat}{op:Int}{z v:Int}(mc:Mt [mI,iN,jG,lp,mC] B)(hO:bR 10 (fj a n c u fs)=true)(hs:vR jj (fj a n c u fs) []=some (.tuple [(.agg<|ue kind to op nn N L a9 n2 N2 L2 N3 L3 N4 L4),(.bool true)]))(hY:((.tuple [(.agg<|ue kind to op nn N L a9 n2 N2 L2 N3 L3 N4 L4),(.bool true)]):AV).hi=true)(hA:((yd op nn N L):List AV).all AV.hi=true)(hz:vR jH (fj a n c u fs) (yd op nn N L)=some (.int .i64 z))(hv:vR og (fj a n c u fs) (yd op nn N L)=some (.int .i64 v))(hw:vR sa (fj a n c u fs) []=some (.int .i64 wi))(hg:gQ (eW cv Cv) u [.int .i64 v]=some (.tuple [.int .i64 gx,.bool true],u))(E8:kind=8->(.agg [.int .u8 3,.int .i64 0,.int .i64 z]:AV)=Y)(E6:kind=6->wi<0->(.agg [.int .u8 4,.int .i64 0,.int .i64 0]:AV)=Y)(EI:kind≠8->(kind=6->0<=wi)->(kind=kind)->(.agg [.int .u8 1,.int .i64 0,.int .i64 0]:AV)=Y):av pg B 273 (ij 270 3 pg (aA Tryz.f38) Y<|fj a n c u fs) (sF 38 Tryz.f38 [.ptr<|some (270,0)])<|aj (aq++bQ (dQ 270 3<|fj a n c u fs)) 273:=l9 (E:=rL [mI,iN,jG,lp,mC]) eJ rfl bU mc.2.2.1 mc.2.2.2 900 (.st 8<|.rg<|.go 1<|.cg (.tuple [(.agg<|ue kind to op nn N L a9 n2 N2 L2 N3 L3 N4 L4),(.bool true)]) (vG 272) (vQ 272<|fj a n c u fs)<|.go 6<|.en<|.st 6<|.rg<|.go 2<|.fk (.go 1<|.en<|.st 2<|.rg<|.go 3<|.cg (i6 z) (vG 272) (vQ 272<|fj a n c u fs)<|.go 2<|.en<|.rt 1 .no)<|.go 1<|.en<|.st 2<|.rg<|.go 2<|.fk (.go 2<|.cg (i6 wi) (vG 272) (vQ 272<|fj a n c u fs)<|.fk (.go 2<|.en<|.rt 4 .no)<|.go 2<|.en<|.st 2<|.rg<|.go 2<|.fk (.go 1<|.en<|.st 2<|.rg<|.go 3<|.cg (i6 v) (vG 272) (vQ 272<|fj a n c u fs)<|.go 1<|.en<|.st 1<|.rg<|.go 5<|.kt (.tuple [(i6 gx),(.bool true)]) u<|.go 5<|.en<|.rt 8 .no)<|.go 1<|.en<|.rt 6 .no)<|.go 6<|.en<|.st 2<|.rg<|.go 2<|.fk (.go 1<|.en<|.st 2<|.rg<|.go 3<|.cg (i6 v) (vG 272) (vQ 272<|fj a n c u fs)<|.go 1<|.en<|.st 1<|.rg<|.go 5<|.kt (.tuple [(i6 gx),(.bool true)]) u<|.go 5<|.en<|.rt 8 .no)<|.go 1<|.en<|.rt 6 .no)<|ks [mI,iN,jG,lp,mC] 60 272 (vR jj) [] (fj a n c u fs) (.tuple [(.agg<|ue kind to op nn N L a9 n2 N2 L2 N3 L3 N4 L4),(.bool true)]) hO hs rfl hY<|ax (kind=8) Yg fun _=>(ax (kind=6) (fun _=>(ks [mI,iN,jG,lp,mC] 62 272 (vR sa) [] (fj a n c u fs) (i6 wi) hO hw rfl cn<|ax (wi<0) Yj Yn)) Yn)
theorem ajo{n:Nat}{op:Int}{z v:Int}(mc:Mt [mI,iN,jG,lp,mC] B)(hO:bR 10 (fj a n c u fs)=true)(hs:vR jj (fj a n c u fs) []=some (.tuple [(.agg<|ue kind to op nn N L a9 n2 N2 L2 N3 L3 N4 L4),(.bool true)]))(hY:((.tuple [(.agg<|ue kind to op nn N L a9 n2 N2 L2 N3 L3 N4 L4),(.bool true)]):AV).hi=true)(hA:((yd op nn N L):List AV).all AV.hi=true)(hz:vR jH (fj a n c u fs) (yd op nn N L)=some (.int .i64 z))(hv:vR og (fj a n c u fs) (yd op nn N L)=some (.int .i64 v))(hw:vR sa (fj a n c u fs) []=some (.int .i64 wi))(hg:gQ (eW cv Cv) u [.int .i64 v]=some (.tuple [.int .i64 gx,.bool false],u))(E8:kind=8->(.agg [.int .u8 3,.int .i64 0,.int .i64 z]:AV)=Y)(E6:kind=6->wi<0->(.agg [.int .u8 4,.int .i64 0,.int .i64 0]:AV)=Y)(E2:kind=2->(.agg [.int .u8 2,.int .i64 v,.int .i64 0]:AV)=Y)(EI:kind≠8->(kind=6->0<=wi)->(kind≠2)->(.agg [.int .u8 1,.int .i64 0,.int .i64 0]:AV)=Y):av pg B 273 (ij 270 3 pg (aA Tryz.f38) Y<|fj a n c u fs) (sF 38 Tryz.f38 [.ptr<|some (270,0)])<|aj (aq++bQ (dQ 270 3<|fj a n c u fs)) 273:=l9 (E:=rL [mI,iN,jG,lp,mC]) eJ rfl bU mc.2.2.1 mc.2.2.2 900 (.st 8<|.rg<|.go 1<|.cg (.tuple [(.agg<|ue kind to op nn N L a9 n2 N2 L2 N3 L3 N4 L4),(.bool true)]) (vG 272) (vQ 272<|fj a n c u fs)<|.go 6<|.en<|.st 6<|.rg<|.go 2<|.fk (.go 1<|.en<|.st 2<|.rg<|.go 3<|.cg (i6 z) (vG 272) (vQ 272<|fj a n c u fs)<|.go 2<|.en<|.rt 1 .no)<|.go 1<|.en<|.st 2<|.rg<|.go 2<|.fk (.go 2<|.cg (i6 wi) (vG 272) (vQ 272<|fj a n c u fs)<|.fk (.go 2<|.en<|.rt 4 .no)<|.go 2<|.en<|.st 2<|.rg<|.go 2<|.fk (.go 1<|.en<|.st 2<|.rg<|.go 3<|.cg (i6 v) (vG 272) (vQ 272<|fj a n c u fs)<|.go 1<|.en<|.st 1<|.rg<|.go 5<|.kt (.tuple [(i6 gx),(.bool false)]) u<|.go 5<|.en<|.rt 6 .no)<|.go 1<|.en<|.rt 6 .no)<|.go 6<|.en<|.st 2<|.rg<|.go 2<|.fk (.go 1<|.en<|.st 2<|.rg<|.go 3<|.cg (i6 v) (vG 272) (vQ 272<|fj a n c u fs)<|.go 1<|.en<|.st 1<|.rg<|.go 5<|.kt (.tuple [(i6 gx),(.bool false)]) u<|.go 5<|.en<|.rt 6 .no)<|.go 1<|.en<|.rt 6 .no)<|ks [mI,iN,jG,lp,mC] 60 272 (vR jj) [] (fj a n c u fs) (.tuple [(.agg<|ue kind to op nn N L a9 n2 N2 L2 N3 L3 N4 L4),(.bool true)]) hO hs rfl hY<|ax (kind=8) Yg fun _=>(ax (kind=6) (fun _=>(ks [mI,iN,jG,lp,mC] 62 272 (vR sa) [] (fj a n c u fs) (i6 wi) hO hw rfl cn<|ax (wi<0) Yj fun _=>(ax (kind=2) Yf fun _=>MA))) fun _=>(ax (kind=2) Yf fun _=>MA))
end mm
end
section
open Go Go.Rn Go.RowKit Go.Proofs
namespace jV
open cr fF cU dM dk dB gF fT ia ig iv iw iG iT iU jI jO kL lv mm iF
variable {to kind i:Int} {el bd:List St} {eb ea:Ex} {n':Nat} {dc:List Fr} {b':bB}
noncomputable section
abbrev dy(a:MN)(n c:Nat)(fs:List Fr)(b:bB):VS:=⟨⟨a.pre,n,.ar c 13,[.int .i64 a.steps]⟩,cv b,(fs.map aS).flatten⟩
structure eA (a:MN) (n c:Nat) (fs:List Fr) (b:bB):Prop where
 aG:dj aH 1 (.ab a.G a.q a.lg) a.aG
 buf:fy b
 oB:iy fs
 nP:n<=fs.length
 rM:n<=c
 len:fs.length<=1000000
 vars:1<=a.vars/\a.vars<=32
section
variable {a:MN} {n c:Nat} {fs:List Fr} {b:bB}
theorem eA.xm(h:eA a n c fs b):tz (dy a n c fs b) a:=⟨rfl,rfl,h.aG⟩
theorem W5(fs:List Fr):(fs.map aS).flatten.length=fs.length*13:=by
 have:=tJ (K:=13) (l:=fs.map aS) fun c hc=>by obtain⟨a,_,rfl⟩:=List.mem_map.1 hc;exact jy a
 rw[this,List.length_map]
theorem Wk(fs:List Fr):(fs.map aS).flatten.all AV.cq=true:=by rw[List.all_eq_true];intro c hc;obtain⟨y,hy,hc⟩:=List.mem_flatten.1 hc;obtain⟨g,_,rfl⟩:=List.mem_map.1 hy;exact U6 g c hc
theorem eA.bR(h:eA a n c fs b):bR 10 (dy a n c fs b)=true:=by
 have ht:top=549755813888:=rfl;have e1:tu (dy a n c fs b).R=true:=by have g:=h.aG.cq;unfold tu;show((a.pre).all AV.cq&&([AV.int .i64 a.steps]).all AV.cq)=true;unfold MN.pre;simp only[List.all_cons,List.all_nil,g];rfl
 refine and_true.2 ⟨e1,and_true.2 ⟨Wk fs,and_true.2 ⟨aL.2 (by show 13<=top;omega),aL.2 ?_⟩⟩⟩;show(fs.map aS).flatten.length<=top;rw[W5];have:=h.len;omega
theorem afR{a':MN}{c':Nat}(h:eA a n c fs b)(h':eA a' n' c' dc b')(e:dy a n c fs b=dy a' n' c' dc b'):a=a'/\n=n'/\c=c'/\fs=dc/\b=b':=by
 have e1:=h.xm;rw[e] at e1;have ea:=e1.inj h'.xm;injection e with e2 e3 e4
 injection e2 with e5 e6 e7 e8
 injection e7 with e7
 exact⟨ea,e6,e7,GV _ _ h.oB h'.oB e4,xJ _ _ e3⟩
def fq(a:MN)(e:Ex):Int:=(Ak e a.l a.aG).1
def iV(x m:Int):Int:=if m<1 then 0 else if Int.tmod x m<0 then Int.tmod x m+m else Int.tmod x m
theorem ahz(x m:Int):uJ x m= .tuple [.int .i64<|iV x m,.int .i64 (if m<1 then 1 else 0)]:=by
 unfold uJ iV
 repeat' split
 all_goals first|rfl|omega
theorem afS{x m:Int}(h:1<=m):0<=iV x m/\iV x m<m:=by
 unfold iV;rw[if_neg ah];have h1:=Int.tmod_lt_of_pos x (show 0<m by omega);have h2: - m<Int.tmod x m:=by have:=Int.lt_tmod_of_pos x (show 0<m by omega);omega
 split<;>omega
theorem K5(h:eA a n c fs b)(e:Ex):vR jH (dy a n c fs b) [.agg<|aM e]=some (i6<|fq a e):=EZ jH.bS ⟨a,e,h.xm,rfl,rfl⟩
theorem P2(h:eA a n c fs b)(e:Ex):vR og (dy a n c fs b) [.agg<|aM e]=some (i6<|iV (fq a e) a.vars):=EZ og.bS ⟨a,e,_,_,h.xm,rfl,by have:=h.vars;omega,ahz _ _,rfl⟩
theorem Uz(h:eA a n c fs b)(h6:n<=6):vR sa (dy a n c fs b) []=some (i6<|kz fs n):=EZ sa.bS ⟨a,n,c,fs,h.xm,rfl,rfl,rfl,rfl,h.oB,h6,h.nP,h.len,rfl⟩
theorem Wl(h:eA a n c fs b){o:Option St}(hs:sr fs n o):vR jj (dy a n c fs b) []=some (E4 o):=EZ jj.bS ⟨a,n,c,fs,o,h.xm,rfl,rfl,rfl,rfl,h.oB,h.nP,h.len,hs,rfl⟩
theorem Wm{b:bB}(b6:b.length<=6)(v:Int):gQ (eW cv Cv) (cv b) [.int .i64 v]=some (.tuple [.int .i64 (lu b v).1,.bool (lu b v).2],cv b):=by
 unfold gQ;rw[BP xJ];show(match ([.int .i64 v]:List AV).all AV.hi with
  |true=>((if b.length<=6 then some (AV.tuple [.int .i64 (lu b v).1,.bool (lu b v).2],b) else none).map (fun p:AV×bB=>((p.1,cv p.2):AV×AV))).bind fun p:AV×AV=>match p.1.hi with
   |true=>some p
   |false=>none
  |false=>none)=_
 rw[if_pos b6];rfl
theorem afT{b:bB}(b6:b.length<=6)(v x:Int):gQ (eW cv HK) (cv b) [.int .i64 v,.int .i64 x]=some ((.int .i64 0:AV),cv<|mH b v x):=by
 unfold gQ;rw[BP xJ];show(match ([.int .i64 v,.int .i64 x]:List AV).all AV.hi with
  |true=>((if b.length<=6 then some ((AV.int .i64 0:AV),mH b v x) else none).map (fun p:AV×bB=>((p.1,cv p.2):AV×AV))).bind fun p:AV×AV=>match p.1.hi with
   |true=>some p
   |false=>none
  |false=>none)=_
 rw[if_pos b6];rfl
theorem ac1(h:eA a n c fs b){k:Nat}(hs:oT k n fs b=some (n',dc,b')):ey fh (dy a n c fs b) []=some (.tuple [],dy a n' c dc b'):=K2 fh.bS ⟨a,n,c,k,n',fs,dc,b,b',h.xm,rfl,rfl,rfl,rfl,rfl,h.buf,h.oB,h.nP,h.rM,h.len,hs,rfl⟩
end
def MN.iu(a:MN)(i z:Int):MN:=match i.toNat with
 |0=>{a with x0:=z}
 |1=>{a with x1:=z}
 |2=>{a with x2:=z}
 |3=>{a with x3:=z}
 |4=>{a with x4:=z}
 |5=>{a with x5:=z}
 |6=>{a with x6:=z}
 |7=>{a with x7:=z}
 |_=>a
section
variable {a:MN} {n c:Nat} {fs:List Fr} {b:bB}
theorem Wn(h0:0<=i)(h8:i<8):i=0\/i=1\/i=2\/i=3\/i=4\/i=5\/i=6\/i=7:=by omega
theorem P3{i z:Int}(h0:0<=i)(h8:i<8):wv (dy a n c fs b) i z=dy (MN.iu a i z) n c fs b:=by rcases Wn h0 h8 with rfl|rfl|rfl|rfl|rfl|rfl|rfl|rfl<;>rfl
theorem ac2{z:Int}:(MN.iu a i z).vars=a.vars/\(MN.iu a i z).G=a.G/\(MN.iu a i z).q=a.q/\(MN.iu a i z).lg=a.lg/\(MN.iu a i z).aG=a.aG/\(MN.iu a i z).steps=a.steps:=by unfold MN.iu;split<;>exact⟨rfl,rfl,rfl,rfl,rfl,rfl⟩
theorem eA.iu{z:Int}(h:eA a n c fs b):eA (MN.iu a i z) n c fs b:=by
 obtain⟨e1,e2,e3,e4,e5,_⟩:=ac2 (a:=a) (i:=i) (z:=z);refine⟨?_,h.buf,h.oB,h.nP,h.rM,h.len,?_⟩
 ·rw[e2,e3,e4,e5];exact h.aG
 ·rw[e1];exact h.vars
theorem ahA(h:eA a n c fs b)(h0:0<=to)(h8:to<8):ey AL (dy a n c fs b) [.agg<|ba<|.mk kind to ea eb bd el]=some (.tuple [],dy (MN.iu a to<|fq a ea) n c fs b):=K2 AL.bS ⟨a,kind,to,ea,eb,bd,el,fq a ea,h.bR,h.xm,rfl,h0,h8,K5 h ea,by rw[P3 h0 h8]⟩
theorem afU(h:eA a n c fs b)(b6:b.length<=6)(h0:0<=to)(h8:to<8):ey Ap (dy a n c fs b) [.agg<|ba<|.mk kind to ea eb bd el]=some (.tuple [],dy (MN.iu a to (lu b<|iV (fq a ea) a.vars).1) n c fs b):=K2 Ap.bS ⟨a,kind,to,ea,eb,bd,el,iV (fq a ea) a.vars,(lu b<|iV (fq a ea) a.vars).1,(lu b<|iV (fq a ea) a.vars).2,h.bR,h.xm,rfl,h0,h8,P2 h ea,Wm b6 _,by rw[P3 h0 h8]⟩
theorem aef(h:eA a n c fs b)(b6:b.length<=6):ey z9 (dy a n c fs b) [.agg<|ba<|.mk kind to ea eb bd el]=some (.tuple [],dy a n c fs<|mH b (iV (fq a ea) a.vars)<|fq a eb):=K2 z9.bS ⟨a,kind,to,ea,eb,bd,el,iV (fq a ea) a.vars,fq a eb,cv<|mH b (iV (fq a ea) a.vars)<|fq a eb,h.bR,h.xm,rfl,P2 h ea,K5 h eb,afT b6 _ _,rfl⟩
def wF(a:MN)(w:Int)(b:bB):Option St->Int×Int×Int
 |none=>(3,0,0)
 |some (.mk kind _ ea _ _ _)=>if kind=8 then(3,0,fq a ea) else if kind=6/\w<0 then(4,0,0) else if kind=2/\(lu b<|iV (fq a ea) a.vars).2=false then(2,iV (fq a ea) a.vars,0) else(1,0,0)
def AN(q:Int×Int×Int):AV:=.agg [.int .u8 q.1,.int .i64 q.2.1,.int .i64 q.2.2]
theorem GH{w:Int}:wF a w b (some<|.mk kind to ea eb bd el)=if kind=8 then(3,0,fq a ea) else if kind=6/\w<0 then(4,0,0) else if kind=2/\(lu b<|iV (fq a ea) a.vars).2=false then(2,iV (fq a ea) a.vars,0) else(1,0,0):=rfl
theorem Wo{B:aI}(mc:Mt [mI,iN,jG,lp,mC] B){o:Option St}(h:eA a n c fs b)(h6:n<=6)(b6:b.length<=6)(hs:sr fs n o):
 av pg B 273 (ij 270 3 pg (aA Tryz.f38) (AN<|wF a (kz fs n) b o)<|dy a n c fs b) (sF 38 Tryz.f38 [.ptr<|some (270,0)]) (aj (aq++bQ (dQ 270 3<|dy a n c fs b)) 273):=by
 have hn:=Wl h hs;cases o with
 |none=>exact ajm (N:=0) (L:=0) (N2:=0) (L2:=0) (N3:=0) (L3:=0) (N4:=0) (L4:=0) (kind:=0) (to:=0) (op:=0) (nn:=0) (a9:=0) (n2:=0) (z:=0) (v:=0) (wi:=0) (gx:=0) mc h.bR hn rfl
 |some s=>
  obtain⟨kind,to,ea,eb,bd,el⟩:=s;have hz:=K5 h ea;have hv:=P2 h ea;have hw:=Uz h h6;have hg:=Wm b6<|iV (fq a ea) a.vars;have hA:=Ez ea;have hY:(E4 (some<|.mk kind to ea eb bd el):AV).hi=true:=by show([AV.agg<|ba<|.mk kind to ea eb bd el,.bool true].all AV.wV)=true;have e:(AV.agg<|ba<|.mk kind to ea eb bd el).wV=true:=Xx _;rw[List.all_cons,e];rfl
  have k8:kind=8->wF a (kz fs n) b (some<|.mk kind to ea eb bd el)=(3,0,fq a ea):=fun q=>if_pos q;have k6:kind=6->kz fs n<0->wF a (kz fs n) b (some<|.mk kind to ea eb bd el)=(4,0,0):=fun q r=>by rw[GH,if_neg ah,if_pos ⟨q,r⟩]
  obtain⟨op,nn,la⟩:=ea;obtain⟨a9,n2,lb⟩:=eb;unfold E4 at hn hY;rw[aM] at hz hv hA;simp only[ba,aM] at hn hY;cases hb:(lu b<|iV (fq a<|.mk op nn la) a.vars).2 with
  |true=>
   rw[hb] at hg;refine ajn mc h.bR hn hY hA hz hv hw hg (fun q=>?_) (fun q r=>?_) fun q r _=>?_
   ·rw[k8 q];rfl
   ·rw[k6 q r];rfl
   ·rw[GH,if_neg q,if_neg (fun z=>by have:=r z.1;omega),if_neg (fun z=>by rw[hb] at z;cases z.2)];rfl
  |false=>
   rw[hb] at hg;refine ajo mc h.bR hn hY hA hz hv hw hg (fun q=>?_) (fun q r=>?_) (fun q=>?_) fun q r z=>?_
   ·rw[k8 q];rfl
   ·rw[k6 q r];rfl
   ·rw[GH,if_neg ah,if_neg (fun z=>by omega),if_pos ⟨q,hb⟩];rfl
   ·rw[GH,if_neg q,if_neg (fun z=>by have:=r z.1;omega),if_neg fun y=>z y.1];rfl
def lR(st:VS)(rest:List AV)(v:AV):Prop:=∃(a:MN) (n c:Nat) (fs:List Fr) (b:bB) (o:Option St),st=dy a n c fs b/\eA a n c fs b/\rest=[]/\n<=6/\b.length<=6/\sr fs n o/\v=AN (wF a (kz fs n) b o)
theorem lR.bS(st:VS)(rest:List AV)(v v':AV)(h:lR st rest v)(h':lR st rest v'):v=v':=by obtain⟨a,n,c,fs,b,o,rfl,m1,_,_,_,s1,rfl⟩:=h;obtain⟨a',n',c',dc,b',o',e,m2,_,_,_,s2,rfl⟩:=h';obtain⟨rfl,rfl,rfl,rfl,rfl⟩:=afR m1 m2 e;rw[s1.bS s2]
def Re:FuncId×KE:=(38,.raw<|nC 10 3<|vR lR)
theorem afV(hP:bC pg){L:bV}(h:aV L):aV<|Re::L:=by refine GG hP gL yQ ir gZ kI kl h (OV hP<|Eh hP<|G5 hP<|JX hP<|NJ hP cN) Tryz.func38 (body:=aW pg 38 []) aZ aZ fun st rest y e _=>?_;obtain⟨a,n,c,fs,b,o,rfl,m1,rfl,h6,b6,s1,rfl⟩:=Hl e;exact⟨aL.1 aZ,fun B mc=>Wo mc m1 h6 b6 s1⟩
theorem ahB(h:eA a n c fs b)(h6:n<=6)(b6:b.length<=6){o:Option St}(hs:sr fs n o):vR lR (dy a n c fs b) []=some (AN<|wF a (kz fs n) b o):=EZ lR.bS ⟨a,n,c,fs,b,o,rfl,h,rfl,h6,b6,hs,rfl⟩
end
end
end jV
end
section
open Go Go.Rn Go.RowKit Go.Proofs
namespace oq
open cr fF cU dM dk dB gF fT ia ig iv iw iG iT iU jI jO iF
theorem aoE{fs:List Fr}{n:Nat}{f:Fr}{cs:List AV}{X:Prop}(hc:aS f=cs)(hn:n<=fs.length)(hl:fs.length<=1000000)(x:X):
 ((.known n:cR)= .known n/\1<=1/\some (aJ aS fs)=some (.cells (fs.map aS).flatten.length (Tr.fill (fs.map aS).flatten 0 .nil) [])/\some (ae.cells cs.length (Tr.fill cs 0 .nil) [])=some (.cells cs.length (Tr.fill cs 0 .nil) [])/\(fs.map aS).flatten.length<=top/\cs.length<=top/\n*13<=(fs.map aS).flatten.length/\1*13<=cs.length/\(fs.map aS).flatten.take (n*13)++cs.take (1*13)=((fs.take n++[f]).map aS).flatten/\((fs.take n++[f]).map aS).flatten.all AV.cj=true/\2*(n+1)*136+4096*136<=room/\((fs.take n++[f]).map aS).flatten.length<=top/\X):=by
 have ht:top=549755813888:=rfl;have e1:∀l:List Fr,(l.map aS).flatten.length=l.length*13:=fun l=>by
  have:=tJ (K:=13) (l:=l.map aS) fun c hc=>by obtain⟨a,_,rfl⟩:=List.mem_map.1 hc;exact jy a
  rw[this,List.length_map]
 have e2:cs.length=13:=by rw[←hc];exact jy f
 have e3:∀(l:List Fr) (k:Nat),(l.map aS).flatten.take (k*13)=((l.take k).map aS).flatten:=by
  intro l;induction l with
  |nil=>intro k;simp
  |cons x l ih=>
   intro k;cases k with
   |zero=>simp
   |succ k=>rw[List.map_cons,List.flatten_cons,List.take_succ_cons,List.map_cons,List.flatten_cons, ←ih k,List.take_append,jy,List.take_of_length_le (by rw[jy];omega),show(k+1)*13 - 13=k*13 by omega]
 refine⟨rfl,Nat.le_refl 1,rfl,rfl,by rw[e1];omega,by omega,by rw[e1];omega,by omega,?_,?_,?_,?_,x⟩
 ·rw[e3,List.map_append,List.flatten_append];congr 1;rw[List.take_of_length_le (l:=cs) ah, ←hc];simp
 ·rw[List.all_eq_true];intro c hc;obtain⟨y,hy,hc⟩:=List.mem_flatten.1 hc;obtain⟨g,_,rfl⟩:=List.mem_map.1 hy;exact List.all_eq_true.1 (Oh g) c hc
 ·unfold room;omega
 ·rw[e1,List.length_append,List.length_take];show(min n fs.length+1)*13<=top;omega
end oq
end
section
open Go Go.Rn Go.RowKit Go.Proofs
namespace pv
open cr fF cU dM dk dB gF fT ia ig iv iw iG iT iU jI jO oq iF
theorem Dw{fs:List Fr}{n:Nat}{X:Prop}(h1:1<=n)(hn:n<=fs.length)(hl:fs.length<=1000000)(x:X):
 ((.known 0:cR)= .known 0/\1<=n/\some (ae.cells 0 (Tr.fill [] 0 .nil) [])=some (.cells ([]:List AV).length (Tr.fill [] 0 .nil) [])/\some (aJ aS fs)=some (.cells (fs.map aS).flatten.length (Tr.fill (fs.map aS).flatten 0 .nil) [])/\([]:List AV).length<=top/\(fs.map aS).flatten.length<=top/\0*13<=([]:List AV).length/\n*13<=(fs.map aS).flatten.length/\([]:List AV).take (0*13)++(fs.map aS).flatten.take (n*13)=((fs.take n).map aS).flatten/\((fs.take n).map aS).flatten.all AV.cj=true/\2*(0+n)*136+4096*136<=room/\((fs.take n).map aS).flatten.length<=top/\X):=by
 have ht:top=549755813888:=rfl;have e1:∀l:List Fr,(l.map aS).flatten.length=l.length*13:=fun l=>by
  have:=tJ (K:=13) (l:=l.map aS) fun c hc=>by obtain⟨a,_,rfl⟩:=List.mem_map.1 hc;exact jy a
  rw[this,List.length_map]
 have e3:∀(l:List Fr) (k:Nat),(l.map aS).flatten.take (k*13)=((l.take k).map aS).flatten:=by
  intro l;induction l with
  |nil=>intro k;simp
  |cons x l ih=>
   intro k;cases k with
   |zero=>simp
   |succ k=>rw[List.map_cons,List.flatten_cons,List.take_succ_cons,List.map_cons,List.flatten_cons, ←ih k,List.take_append,jy,List.take_of_length_le (by rw[jy];omega),show(k+1)*13 - 13=k*13 by omega]
 refine⟨rfl,h1,rfl,rfl,Nat.zero_le _,by rw[e1];omega,by show 0*13<=0;omega,by rw[e1];omega,?_,?_,?_,?_,x⟩
 ·rw[e3];rfl
 ·rw[List.all_eq_true];intro c hc;obtain⟨y,hy,hc⟩:=List.mem_flatten.1 hc;obtain⟨g,_,rfl⟩:=List.mem_map.1 hy;exact List.all_eq_true.1 (Oh g) c hc
 ·unfold room;omega
 ·rw[e1,List.length_take];omega
end pv
end
section
open Go Go.Rn Go.RowKit Go.Proofs
namespace pw
open cr fQ fc hI gK jr fF cU dM dk dB gF fT ia ig iv iF iw iG iT iU jI jO kL lv mm jV oq pv kK
variable {fs:List Fr} {B:aI} {u:AV} {r:Nat->Nat} {c:Nat} {a:MN} {T:Prop}
noncomputable section
theorem MV{n:Nat}{f:Fr}{cs:List AV}{X:Prop}(hc:aS f=cs)(h1:1<=n)(hn:n<=fs.length)(hl:fs.length<=1000000)(x:X):
 ((.known n:cR)= .known n/\1<=n/\1<=1/\some (aJ aS fs)=some (.cells (fs.map aS).flatten.length (Tr.fill (fs.map aS).flatten 0 .nil) [])/\some (ae.cells cs.length (Tr.fill cs 0 .nil) [])=some (.cells cs.length (Tr.fill cs 0 .nil) [])/\(fs.map aS).flatten.length<=top/\cs.length<=top/\n*13<=(fs.map aS).flatten.length/\1*13<=cs.length/\(fs.map aS).flatten.take (n*13)++cs.take (1*13)=((fs.take n++[f]).map aS).flatten/\((fs.take n++[f]).map aS).flatten.all AV.cj=true/\2*(n+1)*136+4096*136<=room/\((fs.take n++[f]).map aS).flatten.length<=top/\X):=
 have h:=aoE hc hn hl x
 ⟨h.1,h1,h.2⟩
theorem G6{k:Nat}{v:AV}:fI [] r (.tok k v)<|.tok k v:=fun _ _ _ _ _ _=>trivial
theorem G3(hr:∀k,top<=k->r k=k)(hl:fs.length<=1000000):fI [] r (aJ aS fs)<|aJ aS fs:=fun ρ fA N o m h=>by have ht:top=549755813888:=rfl;refine Ao (ρ:=ρ) (fun k x hk e=>?_) (by rw[W5];omega) (Wk fs) h;show fA (r k)=some x;rw[hr k hk];exact m.1 _ _ e
abbrev LM:bV:=[Re,mI,iN,jG,lp,mC,zR,Rb,Qz,P0,PW,PX]
abbrev bj(p:List AV)(n:Nat)(cap:cR)(st:Int)(u:AV)(fs:List Fr):VS:=⟨⟨p,n,cap,[.int .i64 st]⟩,u,(fs.map aS).flatten⟩
abbrev iJ(B:aI)(rs:List ResultVar)(st:VS)(fr:AF)(s:AS):Prop:=av pg B 271 (ij 270 3 pg rs (.int .i64 0) st) fr s
abbrev mV(f j nt:Nat)(K:List Item):AF:=⟨f,aP [(j,.int .i64 0)],nt,K,[],none⟩
def oE(A:MN)(n:Nat)(cap:cR)(u:AV)(fs:List Fr)(r:Nat):List<|Nat×Option ae:=[(270,some<|.cells 13 (Tr.fill (A.row (.ptr<|some (271,0)) (.slice (some (r,0)) n cap)<|.int .i64 A.steps) 0 .nil) []),(271,some<|.tok 3 u),(r,some<|aJ aS fs)]
abbrev nQ(A:MN)(n:Nat)(cap:cR)(u:AV)(fs:List Fr):AS:=aj (aq++oE A n cap u fs 272) 273
abbrev Dx(j:Nat)(A:MN)(n:Nat)(cap:cR)(u:AV)(fs:List Fr)(r bG:Nat):Pl:=.rn [(j,.int .i64 0)] (aq++oE A n cap u fs r) [(j,.int .i64 0)] (aq++oE A n cap u fs 272) bG 273 .no
theorem F4(f j nt:Nat)(K:List Item)(A:MN)(n:Nat)(cap:cR)(u:AV)(fs:List Fr)(r bG:Nat)(hlen:fs.length<=1000000)(pq:(AV.ab A.G A.q A.lg).cq=true)(hb:xh [(271,271),(272,r)] 271 bG 273 [270,271,272]=true:=by as_aux_lemma=>kernel_rfl)(hi:FA [(271,271),(272,r)]=true:=by as_aux_lemma=>kernel_rfl)(hj:j<1000:=by omega):
 ([(j,AV.int .i64 0)].map (fun q=>some q.2)=[(j,AV.int .i64 0)].map (fun q=>some q.2))/\((aq++oE A n cap u fs r).map (fun q=>q.2)=(aq++oE A n cap u fs r).map (fun q=>q.2))/\gY FU 271 bG [(j,.int .i64 0)] (aq++oE A n cap u fs r) [(j,.int .i64 0)] (aq++oE A n cap u fs 272) 273/\(mV f j nt K=mV f j nt K/\nQ A n cap u fs=nQ A n cap u fs):=by
 have ht:top=549755813888:=rfl;refine⟨rfl,rfl,Cu (ps:=[(271,271),(272,r)]) (lo:=271) (bG:=bG) ah hb hi (fun q hr ht=>⟨⟨by show j<top;omega,.int .i64 0,List.mem_cons_self,(bA.int _ _).z⟩,trivial⟩) fun q hr ht=>?_,rfl,rfl⟩;have e0:q 270=270:=by rw[hr];rfl
 have e1:q 271=271:=by rw[hr];rfl
 have e2:q 272=r:=by rw[hr];rfl
 refine⟨fun y hy=>?_,fun y hy=>?_,fun y hy=>?_,trivial⟩
 ·cases hy;refine⟨rfl,.cells 13 (Tr.fill (A.row (.ptr<|some (271,0)) (.slice (some (r,0)) n cap)<|.int .i64 A.steps) 0 .nil) [],?_,qM,?_⟩
  ·show(q 270,_)∈_;rw[e0];exact List.mem_cons_self
  ·exact Uy (l:=[.int .i64 A.vars,.ab A.G A.q A.lg,.int .i64 A.x0,.int .i64 A.x1,.int .i64 A.x2,.int .i64 A.x3,.int .i64 A.x4,.int .i64 A.x5,.int .i64 A.x6,.int .i64 A.x7,.ptr<|some (271,0),.slice (some (r,0)) n cap,.int .i64 A.steps]) (m:=[.int .i64 A.vars,.ab A.G A.q A.lg,.int .i64 A.x0,.int .i64 A.x1,.int .i64 A.x2,.int .i64 A.x3,.int .i64 A.x4,.int .i64 A.x5,.int .i64 A.x6,.int .i64 A.x7,.ptr<|some (271,0),.slice (some (272,0)) n cap,.int .i64 A.steps]) (rest:=[]) (by show 13<=top;omega) ⟨(bA.int _ _).z,(Hk ht (show(AV.ab A.G A.q A.lg).hi=true from pq)).z,(bA.int _ _).z,(bA.int _ _).z,(bA.int _ _).z,(bA.int _ _).z,(bA.int _ _).z,(bA.int _ _).z,(bA.int _ _).z,(bA.int _ _).z,(bA.ptr e1).z,(bA.slice e2).z,(bA.int _ _).z,trivial⟩ rfl
 ·cases hy;refine⟨rfl,.tok 3 u,?_,fm.refl _,G6⟩;show(q 271,_)∈_;rw[e1];exact List.mem_cons_of_mem _ List.mem_cons_self
 ·cases hy;refine⟨rfl,aJ aS fs,?_,fm.refl _,G3 ht hlen⟩;show(q 272,_)∈_;rw[e2];exact List.mem_cons_of_mem _<|List.mem_cons_of_mem _ List.mem_cons_self
theorem Dy(mc:Mt LM B){f nt:Nat}{t:Tr AV}{K:List Item}{s:AS}{rs:List ResultVar}{st:VS}{FR:AF}{S1:AS}(H:iJ B rs st FR S1)(p:Pl)(x:T)(h:T=wp (rG LM) 900 6 (.fr f nt K t s) p rs (fun v s _=>v= .int .i64 0/\∀m o,(m,o)∈dQ 270 3 st->s.h.get m=some o) (fun fr s1 _=>fr=FR/\s1=S1):=by as_aux_lemma=>kernel_rfl)(h0:Nat.ble 271 s.nx=true:=by as_aux_lemma=>kernel_rfl):iJ B rs st ⟨f,t,nt,K,[],none⟩ s:=IM mc (C:=fun fr s1 _=>fr=FR/\s1=S1) (fun fr s1 p hC=>by obtain⟨rfl,rfl⟩:=hC;exact H) p x h h0
theorem E5{n:Nat}(mc:Mt LM B):iJ B (aA Tryz.f49) (bj a.pre n (.ar c 13) a.steps u fs) (mV 49 2 38<|dt 49 [1,1,1,1,1,1,1,1,1])<|nQ a n (.ar c 13) u fs:=ox mc (.rt 1 .no)<|oe (st:=(bj a.pre n (.ar c 13) a.steps u fs)) (s:=nQ a n (.ar c 13) u fs) (show(i0:AV)= .int .i64 0 from rfl) cC cC cC
theorem ajp{n:Nat}(mc:Mt LM B):iJ B (aA Tryz.f55) (bj a.pre n (.ar c 13) a.steps u fs) (mV 55 4 38<|dt 55 [1,1,1,1,1,1,1,1])<|nQ a n (.ar c 13) u fs:=ox mc (.rt 1 .no)<|oe (st:=(bj a.pre n (.ar c 13) a.steps u fs)) (s:=nQ a n (.ar c 13) u fs) (show(i0:AV)= .int .i64 0 from rfl) cC cC cC
def Dz(a:MN)(n c:Nat)(u:AV)(fs:List Fr)(ask row:AV)(k:Nat)(p:Pl):Pl:=(.st 8<|.rg<|.go 1<|.cg ask (vG 272) (vQ 272<|bj a.pre n (.ar c 13) a.steps u fs)<|.go 3<|.en<|.st k<|.rg<|.go 1<|.cg row (vG 272) (vQ 272<|bj a.pre n (.ar c 13) a.steps u fs)<|.go 6<|.en<|.st 1<|.rg<|.go 4<|.vl (i6<|a.steps+1)<|.go 3<|.en<|.st 1<|.rg<|.go 1<|.il<|.st 1<|.rg<|.go 4<|.il<|.st 8<|.rg<|.go 2<|.ao [] (((fs).map aS).flatten) ((((fs.take n)).map aS).flatten)<|.go 1<|.en<|.rt 1<|.go 1<|.en<|.st 1<|.rg<|.go 3<|.vl (i6<|(((0+n):Nat):Int) - 1)<|.ix<|.go 1<|.ld [(i6<|(aB (fs.take n)<|(((0+n):Nat):Int) - 1).au)]<|.vl (i6<|(aB (fs.take n)<|(((0+n):Nat):Int) - 1).au+1)<|.ix<|.go 1<|.s8 (aJ aS<|(fs.take n).set ((((0+n):Nat):Int) - 1).toNat ({(aB (fs.take n)<|(((0+n):Nat):Int) - 1) with au:=((aB (fs.take n)<|(((0+n):Nat):Int) - 1).au+1),turns:=(aB (fs.take n)<|(((0+n):Nat):Int) - 1).turns}:Fr)) p)
abbrev yR(fs:List Fr)(n:Nat):Prop:=0<=(aB (fs.take n)<|((0+n:Nat):Int) - 1).au/\(aB (fs.take n)<|((0+n:Nat):Int) - 1).au<=1000000
theorem DA{n:Nat}(h1:1<=n)(hn:n<=fs.length)(hf:fs.length<=1000000)(ay:yR fs n)(t:T):AV.int .i64 (IntKind.wrap .i64<|(((0+n):Nat):Int) - 1)= .int .i64 ((((0+n):Nat):Int) - 1)/\(0:Int)<=((((0+n):Nat):Int) - 1)/\((((0+n):Nat):Int) - 1)<(((0+n):Nat):Int)/\cellsOf (some<|aJ aS<|fs.take n) (((((0+n):Nat):Int) - 1).toNat*13+1) 1=some (((aS<|aB (fs.take n)<|(((0+n):Nat):Int) - 1).drop 1).take 1)/\AV.int .i64 (IntKind.wrap .i64<|(aB (fs.take n)<|(((0+n):Nat):Int) - 1).au+1)= .int .i64 ((aB (fs.take n)<|(((0+n):Nat):Int) - 1).au+1)/\(0:Int)<=((((0+n):Nat):Int) - 1)/\((((0+n):Nat):Int) - 1)<(((0+n):Nat):Int)/\wa (some<|aJ aS<|fs.take n) (((((0+n):Nat):Int) - 1).toNat*13+1) [.int .i64<|(aB (fs.take n)<|(((0+n):Nat):Int) - 1).au+1]=some (aJ aS<|(fs.take n).set ((((0+n):Nat):Int) - 1).toNat ({(aB (fs.take n)<|(((0+n):Nat):Int) - 1) with au:=((aB (fs.take n)<|(((0+n):Nat):Int) - 1).au+1),turns:=(aB (fs.take n)<|(((0+n):Nat):Int) - 1).turns}:Fr))/\T:=by have ht:top=549755813888:=rfl;exact(ai (wI<|(((0+n):Nat):Int) - 1)<|eZ ((((0+n):Nat):Int) - 1) (((0+n):Nat):Int)<|ai (nr jy w7 (qX (l:=(fs.take n)) (z:=((((0+n):Nat):Int) - 1)) ah w7) 1 1 rfl)<|ai (wI<|(aB (fs.take n)<|(((0+n):Nat):Int) - 1).au+1)<|eZ ((((0+n):Nat):Int) - 1) (((0+n):Nat):Int)<|ai (Em jy w7 (qX (l:=(fs.take n)) (z:=((((0+n):Nat):Int) - 1)) ah w7) (c':=({(aB (fs.take n)<|(((0+n):Nat):Int) - 1) with au:=((aB (fs.take n)<|(((0+n):Nat):Int) - 1).au+1),turns:=(aB (fs.take n)<|(((0+n):Nat):Int) - 1).turns}:Fr)) (r:=[(i6<|((aB (fs.take n)<|(((0+n):Nat):Int) - 1).au+1))]) 1 rfl rfl rfl) t)
end
end pw
end
section
open Go Go.Rn Go.RowKit Go.Proofs
namespace YK
open cr fQ fc hI gK jr fF cU dM dk dB gF fT ia ig iv iF iw iG iT iU jI jO kL lv mm jV oq pv kK pw
noncomputable abbrev Cf(ka to op nn:Int)(N L:Nat)(a9 n2:Int)(N2 L2:Nat)(bd el:List St):AV:=.agg [(.int .u8 ka),(i6 to),(u8<|op),(i6 nn),(.ab N 0 L),(u8<|a9),(i6 n2),(.ab N2 0 L2),(.ab (nm (bd.map ba).flatten) 0 bd.length),(.ab (nm (el.map ba).flatten) 0 el.length)]
noncomputable abbrev K6(a:MN)(n:Nat)(u:AV)(fs:List Fr):VS:=bj a.pre (0+n) (.ar (0+n) 13) (a.steps+1) u<|(fs.take n).set ((((0+n):Nat):Int) - 1).toNat ({(aB (fs.take n)<|(((0+n):Nat):Int) - 1) with au:=((aB (fs.take n)<|(((0+n):Nat):Int) - 1).au+1),turns:=(aB (fs.take n)<|(((0+n):Nat):Int) - 1).turns}:Fr)
theorem step1{ka:Int}{kb:VS->List AV->AV×VS->Prop}{kc:Nat}(hk:(ka=1/\kb=AL/\kc=74)\/(ka=2/\kb=Ap/\kc=75)\/(ka=3/\kb=z9/\kc=76)){B:aI}{a:MN}{n c:Nat}{u:AV}{fs:List Fr}{A1:MN}{m1 c1:Nat}{u1:AV}{bL:List Fr}{A2:MN}{m2 c2:Nat}{u2:AV}{bE:List Fr}{N L N2 L2:Nat}{to op nn a9 n2 z wi t:Int}{bd el ol fb:List St}{fa ft y0 y1 y2 y3 y4 y5 y6 y7:Int}{fo:Bool}{ub:AV}(mc:Mt LM B)(h1:1<=n)(hn:n<=fs.length)(hc:n<=c)(hf:fs.length<=1000000)(hR:fs.length*13<=top)(ay:yR fs n)(cQ:0<=a.steps/\a.steps<=1000000000000)(hlen:bE.length<=1000000)(pq:(AV.ab A2.G A2.q A2.lg).cq=true)(k0:bR 10 (bj a.pre n (.ar c 13) a.steps u fs)=true)(k1:vR lR (bj a.pre n (.ar c 13) a.steps u fs) []=some (.agg [(u8<|.ofNat 1),i0,i0]))(k2:((.tuple [(Cf ka to op nn N L a9 n2 N2 L2 bd el),(.bool true)]):AV).hi=true)(k3:vR jj (bj a.pre n (.ar c 13) a.steps u fs) []=some (.tuple [(Cf ka to op nn N L a9 n2 N2 L2 bd el),(.bool true)]))(k4:([(Cf ka to op nn N L a9 n2 N2 L2 bd el)]:List AV).all AV.hi=true)(k5:bR 10 (K6 a n u fs)=true)(k6:ey kb (K6 a n u fs) [(Cf ka to op nn N L a9 n2 N2 L2 bd el)]=some (.tuple [],(bj A1.pre m1 (.ar c1 13) A1.steps u1 bL)))(k7:bR 10 (bj A1.pre m1 (.ar c1 13) A1.steps u1 bL)=true)(k8:ey fh (bj A1.pre m1 (.ar c1 13) A1.steps u1 bL) []=some (.tuple [],(bj A2.pre m2 (.ar c2 13) A2.steps u2 bE)))(k9:bR 10 (bj A2.pre m2 (.ar c2 13) A2.steps u2 bE)=true)(H:iJ B (aA Tryz.f49) (bj A2.pre m2 (.ar c2 13) A2.steps u2 bE) (mV 49 2 38<|dt 49 [1,1,1,1,1,1,1,1,1])<|nQ A2 m2 (.ar c2 13) u2 bE):iJ B (aA Tryz.f49) (bj A2.pre m2 (.ar c2 13) A2.steps u2 bE) (sF 49 Tryz.f49 [(.ptr<|some (270,0))])<|aj (aq++bQ (dQ 270 3<|bj a.pre n (.ar c 13) a.steps u fs)) 273:=by
 have ht:top=549755813888:=rfl;have u6:sp LM kc=some (nB 10 3 (ey kb) 270 eC dW):=by rcases hk with⟨_,rfl,rfl⟩|⟨_,rfl,rfl⟩|⟨_,rfl,rfl⟩<;>kernel_rfl
 have TT:=(Be LM 38 272 (vR lR) [] (bj a.pre n (.ar c 13) a.steps u fs) (.agg [(u8<|.ofNat 1),i0,i0]) k0 k1<|ks LM 60 272 (vR jj) [] (bj a.pre n (.ar c 13) a.steps u fs) (.tuple [(Cf ka to op nn N L a9 n2 N2 L2 bd el),(.bool true)]) k0 k3 cC k2<|ai (wI<|a.steps+1)<|Dw (fs:=fs) (n:=n) ah w7 w7<|DA h1 hn hf ay<|ZQ (h1:=u6) LM kc 276 (ey kb) [(Cf ka to op nn N L a9 n2 N2 L2 bd el)] (K6 a n u fs) (bj A1.pre m1 (.ar c1 13) A1.steps u1 bL) k5 k6 k7 k4<|xk LM 72 276 (ey fh) [] (bj A1.pre m1 (.ar c1 13) A1.steps u1 bL) (bj A2.pre m2 (.ar c2 13) A2.steps u2 bE) k7 k8 k9<|F4 49 2 38 (dt 49 [1,1,1,1,1,1,1,1,1]) A2 m2 (.ar c2 13) u2 bE 276 277 hlen pq);let P:Pl:=(Dz a n c u fs (.agg [(u8<|.ofNat 1),i0,i0]) (.tuple [(Cf ka to op nn N L a9 n2 N2 L2 bd el),(.bool true)]) 6<|.en<|.rt 2<|.en<|.st 1<|.rg<|.go 6<|.cg (.tuple []) (vF 276<|bj A1.pre m1 (.ar c1 13) A1.steps u1 bL) (vQ 276<|K6 a n u fs)<|.en<|.st 1<|.rg<|.go 1<|.cg (.tuple []) (vF 276<|bj A2.pre m2 (.ar c2 13) A2.steps u2 bE) (vQ 276<|bj A1.pre m1 (.ar c1 13) A1.steps u1 bL)<|.en<|.st 2<|(Dx 2 A2 m2 (.ar c2 13) u2 bE 276 277));rcases hk with⟨rfl,rfl,rfl⟩|⟨rfl,rfl,rfl⟩|⟨rfl,rfl,rfl⟩
 all_goals exact Dy mc H P TT uF
end YK
end
section
open Go Go.Rn Go.RowKit Go.Proofs
namespace QC
open cr fQ fc hI gK jr fF cU dM dk dB gF fT ia ig iv iF iw iG iT iU jI jO kL lv mm jV oq pv kK pw
def fkB(b:Bool)(p:Pl):Pl:=match b with
 |true=>.fk p .no
 |false=>.fk .no p
def zB(b:Bool)(z:Int):Prop:=match b with
 |true=>z≠0
 |false=>z=0
def xB(b:Bool)(x y:List St):List St:=match b with
 |true=>x
 |false=>y
theorem tfB{T:Prop}{z:Int}(b:Bool)(hz:zB b z)(t:T):(z≠0->(match b with|true=>T|false=>False))/\(¬z≠0->(match b with|true=>False|false=>T)):=by
 cases b with
 |true=>exact⟨fun _=>t,fun h=>h hz⟩
 |false=>exact⟨fun h=>h hz,fun _=>t⟩
noncomputable abbrev G7(fs:List Fr)(n:Nat):Fr:=({(aB (fs.take n)<|(((0+n):Nat):Int) - 1) with au:=((aB (fs.take n)<|(((0+n):Nat):Int) - 1).au+1),turns:=(aB (fs.take n)<|(((0+n):Nat):Int) - 1).turns}:Fr)
noncomputable abbrev Ki(a:MN)(n:Nat)(u:AV)(fs:List Fr)(X:List St):VS:=bj a.pre ((((0+n):Nat):Int).toNat+1) (.ar ((((0+n):Nat):Int).toNat+1) 13) (a.steps+1) u<|((fs.take n).set ((((0+n):Nat):Int) - 1).toNat<|G7 fs n).take (((0+n):Nat):Int).toNat++[(⟨X,0,0,false,[0,0,0,0,0,0,0,0],none⟩:Fr)]
noncomputable abbrev Kj(to op nn:Int)(N L:Nat)(a9 n2:Int)(N2 L2:Nat)(bd el:List St):AV:=.tuple [(.agg [(u8<|.ofNat 4),(i6 to),(u8<|op),(i6 nn),(.ab N 0 L),(u8<|a9),(i6 n2),(.ab N2 0 L2),(.ab (nm (bd.map ba).flatten) 0 bd.length),(.ab (nm (el.map ba).flatten) 0 el.length)]),(.bool true)]
noncomputable abbrev Kk(a:MN)(n:Nat)(u:AV)(fs:List Fr):VS:=bj a.pre (0+n) (.ar (0+n) 13) (a.steps+1) u<|(fs.take n).set ((((0+n):Nat):Int) - 1).toNat<|G7 fs n
noncomputable abbrev Px(X:List St):List AV:=[(.ab (nm (X.map ba).flatten) 0 X.length),i0,i0,(.bool false),i0,i0,i0,i0,i0,i0,i0,i0,(.slice none 0<|.known 0)]
theorem ahC{B:aI}{a:MN}{n c:Nat}{u:AV}{fs:List Fr}{A1:MN}{m1 c1:Nat}{u1:AV}{bL:List Fr}{A2:MN}{m2 c2:Nat}{u2:AV}{bE:List Fr}{N L N2 L2:Nat}{to op nn a9 n2 z:Int}{bd el X:List St}{tk:Bool}(mc:Mt LM B)(h1:1<=n)(hn:n<=fs.length)(hc:n<=c)(hf:fs.length<=1000000)(hR:fs.length*13<=top)(ay:yR fs n)(cQ:0<=a.steps/\a.steps<=1000000000000)(hlen:bE.length<=1000000)(pq:(AV.ab A2.G A2.q A2.lg).cq=true)(hz:zB tk z)(hX:X=xB tk bd el)(k0:bR 10 (bj a.pre n (.ar c 13) a.steps u fs)=true)(k1:vR lR (bj a.pre n (.ar c 13) a.steps u fs) []=some (.agg [(u8<|.ofNat 1),i0,i0]))(k2:((Kj to op nn N L a9 n2 N2 L2 bd el):AV).hi=true)(k3:vR jj (bj a.pre n (.ar c 13) a.steps u fs) []=some (Kj to op nn N L a9 n2 N2 L2 bd el))(k4:([.agg [.int .u8 op,.int .i64 nn,.ab N 0 L]]:List AV).all AV.hi=true)(k5:bR 10 (Kk a n u fs)=true)(k6:vR jH (Kk a n u fs) [(.agg [(u8<|op),(i6 nn),(.ab N 0 L)])]=some (i6 z))(k7:bR 10 (Ki a n u fs X)=true)(k8:ey fh (Ki a n u fs X) []=some (.tuple [],(bj A1.pre m1 (.ar c1 13) A1.steps u1 bL)))(k9:bR 10 (bj A1.pre m1 (.ar c1 13) A1.steps u1 bL)=true)(td:ey fh (bj A1.pre m1 (.ar c1 13) A1.steps u1 bL) []=some (.tuple [],(bj A2.pre m2 (.ar c2 13) A2.steps u2 bE)))(za:bR 10 (bj A2.pre m2 (.ar c2 13) A2.steps u2 bE)=true)(H:iJ B (aA Tryz.f49) (bj A2.pre m2 (.ar c2 13) A2.steps u2 bE) (mV 49 2 38<|dt 49 [1,1,1,1,1,1,1,1,1])<|nQ A2 m2 (.ar c2 13) u2 bE):iJ B (aA Tryz.f49) (bj A2.pre m2 (.ar c2 13) A2.steps u2 bE) (sF 49 Tryz.f49 [(.ptr<|some (270,0))])<|aj (aq++bQ (dQ 270 3<|bj a.pre n (.ar c 13) a.steps u fs)) 273:=by
 have ht:top=549755813888:=rfl;have TT:=(Be LM 38 272 (vR lR) [] (bj a.pre n (.ar c 13) a.steps u fs) (.agg [(u8<|.ofNat 1),i0,i0]) k0 k1
  (ks LM 60 272 (vR jj) [] (bj a.pre n (.ar c 13) a.steps u fs) (Kj to op nn N L a9 n2 N2 L2 bd el) k0 k3 cC k2
  (ai (wI<|a.steps+1)
  (Dw (fs:=fs) (n:=n) ah w7 w7
  (DA h1 hn hf ay (ks LM 61 276 (vR jH) [(.agg [(u8<|op),(i6 nn),(.ab N 0 L)])] (Kk a n u fs) (i6 z) k5 k6 k4 cC
  (tfB tk hz<|ai (show 0<=(((0+n):Nat):Int) from ah)<|ai (show(((0+n):Nat):Int)<=(((0+n):Nat):Int) from ah) (ai (show(((0+n):Nat):Int)<=Int.ofNat (jC (0+n)<|.ar (0+n) 13) from(show(((0+n):Nat):Int)<=(((0+n):Nat):Int) from by omega))
  (MV (fs:=((fs.take n).set ((((0+n):Nat):Int) - 1).toNat<|G7 fs n)) (n:=(((0+n):Nat):Int).toNat) (f:=(⟨X,0,0,false,[0,0,0,0,0,0,0,0],none⟩:Fr)) (cs:=(Px X)) (show aS (⟨X,0,0,false,[0,0,0,0,0,0,0,0],none⟩:Fr)=(Px X) from rfl) ah w7 w7
  (xk LM 72 280 (ey fh) [] (Ki a n u fs X) (bj A1.pre m1 (.ar c1 13) A1.steps u1 bL) k7 k8 k9
  (xk LM 72 280 (ey fh) [] (bj A1.pre m1 (.ar c1 13) A1.steps u1 bL) (bj A2.pre m2 (.ar c2 13) A2.steps u2 bE) k9 td za
  (F4 49 2 38 (dt 49 [1,1,1,1,1,1,1,1,1]) A2 m2 (.ar c2 13) u2 bE 280 281 hlen pq))))))))))))
 let P:Pl:=(Dz a n c u fs (.agg [(u8<|.ofNat 1),i0,i0]) (Kj to op nn N L a9 n2 N2 L2 bd el) 6<|.en<|.rt 2<|.en<|.st 1<|.rg<|.go 6<|.il<|.st 4<|.rg<|.go 3<|.cg (i6 z) (vG 276) (vQ 276<|Kk a n u fs)<|fkB tk<|.en<|.st 2<|.rg<|.go 4<|.il<|.st 3<|.rg<|.go 15<|.s3<|.go 2<|.an (((((fs.take n).set ((((0+n):Nat):Int) - 1).toNat<|G7 fs n)).map aS).flatten) (Px X) ((((((fs.take n).set ((((0+n):Nat):Int) - 1).toNat<|G7 fs n).take (((0+n):Nat):Int).toNat++[(⟨X,0,0,false,[0,0,0,0,0,0,0,0],none⟩:Fr)])).map aS).flatten)<|.go 3<|.en<|.rg<|.go 1<|.cg (.tuple []) (vF 280<|bj A1.pre m1 (.ar c1 13) A1.steps u1 bL) (vQ 280<|Ki a n u fs X)<|.en<|.rt 1<|.en<|.rt 1<|.en<|.st 1<|.rg<|.go 1<|.cg (.tuple []) (vF 280<|bj A2.pre m2 (.ar c2 13) A2.steps u2 bE) (vQ 280<|bj A1.pre m1 (.ar c1 13) A1.steps u1 bL)<|.en<|.st 2<|(Dx 2 A2 m2 (.ar c2 13) u2 bE 280 281));subst hX;cases tk
 all_goals exact Dy mc H P TT uF
end QC
end
