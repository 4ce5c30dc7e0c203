import Derived.Test.YtbkagfkpnnoacaaDoorAtGJ
import Derived.Test.YtbkagfkpnnoacaaDoorRnGH
set_option maxRecDepth 100000
set_option maxHeartbeats 8000000
set_option linter.unusedSimpArgs false
set_option linter.unusedVariables false
section
open Go Go.Rn Go.RowKit Go.Proofs
namespace mG
open ch cG cQ di eX fO tN dj mN
variable {rd:mw} {k:Nat} {K:Cb} {L0:bO}
theorem aaa(l:List St):FE (.U (nm<|bx l) 0 l.length)=some l:=by
 unfold FE;have h:∃l':List St,AV.U (nm<|bx l) 0 l.length= .U (nm<|bx l') 0 l'.length:=⟨l,rfl⟩;rw[dif_pos h];have e:=h.choose_spec;injection e with e1 e2 e3
 exact congrArg some (sk _ _<|sU (lK _) (lK _) e1).symm
theorem aab{x:AV}{l:List St}(h:FE x=some l):x= .U (nm<|bx l) 0 l.length:=by
 unfold FE at h;split at h
 ·rename_i q;injection h with h
  rw[←h];exact q.choose_spec
 ·cases h
theorem UF(jJ:K.s1<top)(kB:K.s2<top)(mM:K.s1≠K.s2)(c d:Nat):(aE [(K.s1,AV.ptr<|some (c,0)),(K.s2,.ptr<|some (d,0))]).get K.s1=some (.ptr<|some (c,0))/\(aE [(K.s1,AV.ptr<|some (c,0)),(K.s2,.ptr<|some (d,0))]).get K.s2=some (.ptr<|some (d,0)):=by
 constructor
 ·show(((Tr.nil:Tr AV).put K.s2 _).put K.s1 _).get K.s1=_;rw[Tr.lL _ _ _ _ jJ,if_pos rfl]
 ·show(((Tr.nil:Tr AV).put K.s2 _).put K.s1 _).get K.s2=_;rw[Tr.lL _ _ _ _ jJ,if_neg fun e=>mM e.symm,Tr.lL _ _ _ _ kB,if_pos rfl]
structure yp (K:Cb) (L:bO) (rd:mw):Prop where
 s1:K.s1<top
 s2:K.s2<top
 Ek:K.s1≠K.s2
 run:∀s v1 v2 p,rd s v1 v2=some p->okB v1->okB v2->(okB p.v1/\okB p.v2/\(p.ret=true->p.bL=none))/\∃g,bc pg (sp L) FU 6 (.round 270) [.agg<|aM s] (sE K v1 v2<|aM s)= .ok (.bool p.ret) (sA K p.bL p.v1 p.v2 (aM s) g)
def Pb(rd:mw):Prop:=∀s v1 v2 p,rd s v1 v2=some p->okB v1->okB v2->okB p.v1/\okB p.v2/\(p.ret=true->p.bL=none)
theorem Vz{ek:List St->AV->AV->Option fw}{rd:mw}(hr:Pb rd)(he:∀l v1 v2 p,ek l v1 v2=some p->okB v1->okB v2->okB p.v1/\okB p.v2/\(p.ret=true->p.bL=none)):∀l v1 v2 p,kG ek rd l v1 v2=some p->okB v1->okB v2->okB p.v1/\okB p.v2/\(p.ret=true->p.bL=none)
 |[],v1,v2,p,h,o1,o2=>by
  have h:some (⟨true,v1,v2,none⟩:fw)=some p:=h;injection h with h;subst h
  exact⟨o1,o2,fun _=>rfl⟩
 |s::r,v1,v2,p,h,o1,o2=>by
  unfold kG at h;split at h
  ·cases h
  rename_i q e;obtain⟨a1,a2,a3⟩:=hr _ _ _ _ e o1 o2;split at h
  ·injection h with h;subst h;exact⟨a1,a2,a3⟩
  split at h
  ·cases h
  rename_i q2 e2;obtain⟨b1,b2,b3⟩:=he _ _ _ _ e2 a1 a2;split at h
  ·injection h with h;subst h;exact⟨b1,b2,b3⟩
  split at h
  ·cases h
  rename_i q3 e3;obtain⟨c1,c2,c3⟩:=he _ _ _ _ e3 b1 b2;split at h
  ·injection h with h;subst h;exact⟨c1,c2,c3⟩
  exact Vz hr he r _ _ p h c1 c2
theorem M7(hr:Pb rd):∀k l v1 v2 p,fC rd k l v1 v2=some p->okB v1->okB v2->okB p.v1/\okB p.v2/\(p.ret=true->p.bL=none)
 |0,l,v1,v2,p,h,_,_=>by cases h
 |k+1,l,v1,v2,p,h,o1,o2=>by
  unfold fC at h;split at h
  ·exact Vz hr (M7 hr k) l v1 v2 p h o1 o2
  ·cases h
theorem MD{l:List St}{v1 v2:AV}(o1:okB v1)(o2:okB v2):zh rd k (.U (nm<|bx l) 0 l.length) v1 v2=fC rd k l v1 v2:=by unfold zh;rw[aaa];exact if_pos ⟨o1,o2⟩
theorem ri(l:List St):AV.hi (.U (nm<|bx l) 0 l.length)=true:=aL.2<|cF _
theorem UG{l:List St}{v1 v2:AV}{p:fw}{c:List AV}{g:Option ae}(jJ:K.s1<top)(kB:K.s2<top)(mM:K.s1≠K.s2)(o1:okB v1)(o2:okB v2)(h:fC rd k l v1 v2=some p)(o3:okB p.v1/\okB p.v2):
 bc pg (sp<|cZ K rd k::L0) FU 6 (.fn 65) [.U (nm<|bx l) 0 l.length,.yield 270] (sA K none v1 v2 c g)= .ok (.bool p.ret) (sA K p.bL p.v1 p.v2 c g):=by
 have ui:sp (cZ K rd k::L0) 65=some (qL K (zh rd k) 270 dT dG):=by kernel_rfl
 have I:Kg K (sA K none v1 v2 c g) 270 271 272 273 v1 v2:=by
  refine⟨rfl,(aL.1 aW:276<=top),⟨by show 270<276;omega,by show 271<276;omega,by show 272<276;omega,by show 273<276;omega⟩,⟨by omega,by omega,by omega,by omega,by omega,by omega⟩,⟨aE [(K.s1,.ptr<|some (272,0)),(K.s2,.ptr<|some (273,0))],?_,(UF jJ kB mM 272 273).1,(UF jJ kB mM 272 273).2⟩,?_,⟨eH v1,?_,wB _⟩,⟨eH v2,?_,wB _⟩⟩
  ·as_aux_lemma=>kernel_rfl
  ·as_aux_lemma=>kernel_rfl
  ·as_aux_lemma=>kernel_rfl
  ·as_aux_lemma=>kernel_rfl
 have key:=NN (P:=pg) (F:=FU) (n:=5) ui (ri l) bY I ((MD o1 o2).trans h) o1 o2 o3.1 o3.2;rw[show KY K (sA K none v1 v2 c g) 270 271 272 273 p=sA K p.bL p.v1 p.v2 c g from by as_aux_lemma=>kernel_rfl] at key;exact key
theorem aaX(hP:bS pg)(R:yp K (cZ K rd k::L0) rd)(h':aY<|cZ K rd k::L0){L:bO}(h:aY L):aY<|cZ K rd (k+1)::L:=by
 refine Vt hP gU (aL.1 aW) R.s1 R.s2 R.Ek jR jj mh lU h h' Tryd.func65 (body:=aR pg 65 []) aW aW fun x v1 v2 p e=>?_;unfold zh at e;split at e
 ·cases e
 rename_i l el;rw[aab el];split at e;rotate_left
 ·cases e
 rename_i ok;unfold fC at e;split at e;rotate_left
 ·cases e
 rename_i hlen;have hlen:=of_decide_eq_true hlen;have hg:Pb rd:=fun s a b p e x y=>(R.run s a b p e x y).1;refine⟨aL.1 aW,fun B mc=>?_⟩;show au pg B 274 (rF K 270 pg (az Tryd.f65) p) (sF 65 Tryd.f65 [.U (nm<|bx l) 0 l.length,.yield 270])<|ah (oE K v1 v2) 274;have key:∀(r:List St) (i:Nat) (v1 v2:AV) (p:fw),l.drop i=r->okB v1->okB v2->kG (fC rd k) rd r v1 v2=some p->au pg B 274 (rF K 270 pg (az Tryd.f65) p) (rp (nm<|bx l) l.length i) (ah (oE K v1 v2) 274):=by
  intro r;induction r with
  |nil=>
   intro i v1 v2 p hr _ _ e;have e:some (⟨true,v1,v2,none⟩:fw)=some p:=e;injection e with e;subst e
   exact afo mc (by have:l.length<=i:=List.drop_eq_nil_iff.1 hr;omega)
  |cons a r ih=>
   intro i v1 v2 p hr o1 o2 e;have hl:i<l.length:=by
    by_cases q:i<l.length
    ·exact q
    ·rw[List.drop_of_length_le ab] at hr;cases hr
   have ha:l[i]? =some a:=by have:=congrArg (fun q=>q[0]?) hr;simp only[List.getElem?_drop,List.getElem?_cons_zero,Nat.add_zero] at this;exact this
   have j8:l.drop (i+1)=r:=by have:=congrArg (List.drop 1) hr;rw[List.drop_drop] at this;exact this
   have hx:=Fa ha (z:=(i:Int)) ab;unfold kG at e;split at e
   ·cases e
   rename_i q eq1;obtain⟨⟨a1,a2,a3⟩,g,run⟩:=R.run _ _ _ _ eq1 o1 o2;obtain⟨kd,to,⟨oa,na,la⟩,⟨ob,nb,lb⟩,bd,el⟩:=a;rw[aM,aD,aD] at hx run;split at e
   ·rename_i qr;injection e with e;subst e
    rw[qr] at run;obtain⟨ret,w1,w2,bL⟩:=q;simp only at qr;subst qr;exact ah9 (u1:=v1) (u2:=v2) (x1:=v1) (x2:=v2) (pf:=⟨true,v1,v2,none⟩) mc (cF _) ab hlen hx run ab
   rename_i qr;rw[qr,a3 qr] at run;split at e
   ·cases e
   rename_i q2 XU;obtain⟨b1,b2,b3⟩:=M7 hg _ _ _ _ _ XU a1 a2;have hb:=UG (K:=K) (L0:=L0) (c:=[(u8<|kd),(i6 to),(u8<|oa),(i6 na),(.U (nm<|cH la) 0 la.length),(u8<|ob),(i6 nb),(.U (nm<|cH lb) 0 lb.length),(.U (nm<|bx bd) 0 bd.length),(.U (nm<|bx el) 0 el.length)]) (g:=g) R.s1 R.s2 R.Ek a1 a2 XU ⟨b1,b2⟩;split at e
   ·rename_i El;injection e with e;subst e
    rw[El] at hb;obtain⟨al4,u1,u2,alV⟩:=q2;simp only at El;subst El;exact aia (x1:=v1) (x2:=v2) (pf:=⟨true,v1,v2,none⟩) mc (cF _) ab hlen hx run hb ab
   rename_i El;rw[El,b3 El] at hb;split at e
   ·cases e
   rename_i q3 XV;obtain⟨c1,c2,c3⟩:=M7 hg _ _ _ _ _ XV b1 b2;have ho:=UG (K:=K) (L0:=L0) (c:=[(u8<|kd),(i6 to),(u8<|oa),(i6 na),(.U (nm<|cH la) 0 la.length),(u8<|ob),(i6 nb),(.U (nm<|cH lb) 0 lb.length),(.U (nm<|bx bd) 0 bd.length),(.U (nm<|bx el) 0 el.length)]) (g:=g) R.s1 R.s2 R.Ek b1 b2 XV ⟨c1,c2⟩;split at e
   ·rename_i Em;injection e with e;subst e
    rw[Em] at ho;obtain⟨al5,x1,x2,alW⟩:=q3;simp only at Em;subst Em;exact aib (pf:=⟨true,v1,v2,none⟩) mc (cF _) ab hlen hx run hb ho ab
   rename_i Em;rw[Em,c3 Em] at ho;exact aic (bL:=none) mc (cF _) ab hlen hx run hb ho ab R.s1 R.s2 R.Ek c1 c2<|ih (i+1) _ _ _ j8 c1 c2 e
 exact agq mc (cF _) R.s1 R.s2 R.Ek ok.1 ok.2<|key l 0 v1 v2 p List.drop_zero ok.1 ok.2 e
theorem Aw(hP:bS pg){K:Cb}{rd:mw}{L0:bO}(R:∀k,yp K (cZ K rd k::L0) rd)(h0:aY L0):∀(k:Nat) {L:bO},aY L->aY (cZ K rd k::L)
 |0,L,h=>by
  refine Vt hP gU (aL.1 aW) (R 0).s1 (R 0).s2 (R 0).Ek jR jj mh lU h dc Tryd.func65 (body:=aR pg 65 []) aW aW fun x v1 v2 p e=>?_;unfold zh at e;split at e
  ·cases e
  split at e
  ·cases e
  ·cases e
 |k+1,L,h=>aaX hP (R k) (Aw hP R h0 k h0) h
end mG
end
section
open Go Go.Rn Go.RowKit Go.Proofs
namespace tO
open ch cG cQ di eX fO dj uo mN mG
variable {rd:mw} {k N L kd:Nat} {p:fw} {B:aJ} {v:AV} {n2 n1:Int}
noncomputable section
theorem G2(v:AV)(s:AS):(none:Option Nat)=none/\([]:List Nat)=[]/\(some (v,s):Option<|AV×AS)=some (v,s):=⟨rfl,rfl,rfl⟩
def jM(L:bO):Env:=xX pg 270 dT dG L 270 false
def En:Code:=aR pg 46 [1,0,1,0,0]
def B8:Code:=aR pg 46 [1,0,1,0,1]
def KC:Cb:=⟨46,21,[7],En,B8,2,3⟩
def sBC(v1 v2:AV)(c:List AV):AS:=⟨((sE KC v1 v2 c).h.put 275<|some<|.cells 10 (Tr.fill c 0 .nil) []).put 270<|some<|.loop .busy none 46 (aE [(2,.ptr<|some (272,0)),(3,.ptr<|some (273,0))]) 21 [7] En B8 271,276,0,[],[]⟩
noncomputable abbrev rj(kk to oa na:Int)(Na La:Nat)(ob nb:Int)(Nb Lb Nd ld Ne le:Nat):List AV:=[(u8<|kk),(i6 to),(u8<|oa),(i6 na),(.U Na 0 La),(u8<|ob),(i6 nb),(.U Nb 0 Lb),(.U Nd 0 ld),(.U Ne 0 le)]
theorem agr{Na La Nb Lb Nd ld Ne le:Nat}{kk to oa na ob nb:Int}{ca cb:Int}(h1:0<=n1/\n1<1000000000000)(h2:0<=n2/\n2<1000000000000)(h3:0<=ca/\ca<=1000000)(h4:0<=cb/\cb<=1000000)(hca:ba (aP<|yT kd) [(.agg [(u8<|oa),(i6 na),(.U Na 0 La)])]=some (.int .i64 ca))(hcb:ba (aP<|yT kd) [(.agg [(u8<|ob),(i6 nb),(.U Nb 0 Lb)])]=some (.int .i64 cb)):bc pg (sp<|cZ KC rd k::[px kd]) FU 6 (.round 270) [.agg<|rj kk to oa na Na La ob nb Nb Lb Nd ld Ne le] (sE KC (i6 n1) (i6 n2)<|rj kk to oa na Na La ob nb Nb Lb Nd ld Ne le)= .ok (.bool true) (sA KC none (i6<|n1+1) (i6<|n2+(ca+cb)) (rj kk to oa na Na La ob nb Nb Lb Nd ld Ne le)<|some<|.cells 10 (Tr.fill (rj kk to oa na Na La ob nb Nb Lb Nd ld Ne le) 0 .nil) []):=EC (st:=.ready) (bL:=none) (fn:=46) (nt:=21) (d:=271) (t:=(aE [(2,.ptr<|some (272,0)),(3,.ptr<|some (273,0))])) (ps:=[7]) (a:=En) (b:=B8) (s0:=sE KC (i6 n1) (i6 n2)<|rj kk to oa na Na La ob nb Nb Lb Nd ld Ne le) bY rfl<|Chunk.ev 2 ⟨46,jw [7] [.agg<|rj kk to oa na Na La ob nb Nb Lb Nd ld Ne le]<|aE [(2,.ptr<|some (272,0)),(3,.ptr<|some (273,0))],21,[.code En,.beginRound,.code B8],[],some 270⟩ ⟨46,((jw [7] [.agg<|rj kk to oa na Na La ob nb Nb Lb Nd ld Ne le]<|aE [(2,.ptr<|some (272,0)),(3,.ptr<|some (273,0))]).put 4<|some<|.ptr<|some (275,0)),21,[.code B8],[],some 270⟩ _ (sBC (i6 n1) (i6 n2)<|rj kk to oa na Na La ob nb Nb Lb Nd ld Ne le) bY<|CE (E:=jM<|cZ KC rd k::[px kd]) (C:=(fun fr s1 _=>fr.round=none/\fr.defers=[]/\AK pg (bc pg (sp<|cZ KC rd k::[px kd]) FU 5) 270 fr s1=some ((.bool true),(sA KC none (i6<|n1+1) (i6<|n2+(ca+cb)) (rj kk to oa na Na La ob nb Nb Lb Nd ld Ne le)<|some<|.cells 10 (Tr.fill (rj kk to oa na Na La ob nb Nb Lb Nd ld Ne le) 0 .nil) [])))) eQ rfl (fun fr s p h=>EB h.1 h.2.1 h.2.2) 900 (.st 2<|.rg<|.go 1<|.vl (i6<|n1+1)<|.go 1<|.en<|.rg<|.go 3<|.kn (i6 ca)<|.go 2<|.kn (i6 cb)<|.vl (i6<|ca+cb)<|.vl (i6<|n2+(ca+cb))<|.go 1<|.en<|.st 1<|.cut .no)<|ai (wI<|n1+1)<|ai hca<|ai hcb<|ai (wI<|ca+cb)<|ai (wI<|n2+(ca+cb))<|G2 (.bool true)<|sA KC none (i6<|n1+1) (i6<|n2+(ca+cb)) (rj kk to oa na Na La ob nb Nb Lb Nd ld Ne le)<|some<|.cells 10 (Tr.fill (rj kk to oa na Na La ob nb Nb Lb Nd ld Ne le) 0 .nil) []
def yq(N L:Nat):List<|Nat×AV:=[(2,(.ptr<|some (270,0))),(3,(.ptr<|some (271,0))),(6,(.func (.func 64) [] [(.ptr<|some (272,0))]))]
def rY(v1 v2:AV)(N L:Nat):List<|Nat×Option ae:=ar++[(270,some<|eH v1),(271,some<|eH v2),(272,(some<|.cells 1 (Tr.fill [(.U N 0 L)] 0 .nil) []))]
def yr(v1 v2:AV)(N L:Nat):AS:=ah (rY v1 v2 N L++[(273,some .defs),(274,some<|.loop .ready none 46 (aE<|yq N L) 21 KC.ps En B8 273)]) 275
def rZ(p:fw)(N L:Nat):AS:=ah (rY p.v1 p.v2 N L++[(273,some .defs),(274,some<|Cb.loop KC p.bL 270 271 273)]) 275
def K4(p:fw)(N L:Nat):AS:=ah (rY p.v1 p.v2 N L++[(273,some .defs),(274,some<|.loop .exhausted p.bL KC.fn (aE [(KC.s1,.ptr<|some (270,0)),(KC.s2,.ptr<|some (271,0))]) KC.nt KC.ps KC.a KC.b 273)]) 275
theorem ags{L0:bO}{v1 v2:AV}{l:List St}(hN:N=nm (bx l))(hl:L=l.length)(o1:okB v1)(o2:okB v2)(h:fC rd k l v1 v2=some p)(o3:okB p.v1/\okB p.v2):
 bc pg (sp<|cZ KC rd k::L0) FU 5 (.fn 65) [.U N 0 L,.yield 274] (yr v1 v2 N L)= .ok (.bool p.ret) (rZ p N L):=by
 subst hN;subst hl;have ui:sp (cZ KC rd k::L0) 65=some (qL KC (zh rd k) 270 dT dG):=by kernel_rfl
 have I:Kg KC (yr v1 v2 (nm<|bx l) l.length) 274 273 270 271 v1 v2:=by
  refine⟨rfl,(aL.1 aW:275<=top),⟨by show 274<275;omega,by show 273<275;omega,by show 270<275;omega,by show 271<275;omega⟩,⟨by omega,by omega,by omega,by omega,by omega,by omega⟩,⟨aE<|yq (nm<|bx l) l.length,?_,?_,?_⟩,?_,⟨eH v1,?_,wB _⟩,⟨eH v2,?_,wB _⟩⟩
  all_goals (as_aux_lemma=>kernel_rfl)
 have key:=NN (P:=pg) (F:=FU) (n:=4) ui (ri l) bY I ((MD o1 o2).trans h) o1 o2 o3.1 o3.2;rw[show KY KC (yr v1 v2 (nm<|bx l) l.length) 274 273 270 271 p=rZ p (nm<|bx l) l.length from by as_aux_lemma=>kernel_rfl] at key;exact key
theorem aid{v1 v2:AV}(hE:bc pg (sp<|cZ KC rd k::[px kd]) FU 5 (.fn 65) [.U N 0 L,.yield 274] (yr v1 v2 N L)= .ok (.bool p.ret) (rZ p N L)):rT (jM<|cZ KC rd k::[px kd]) 5 (az Tryd.f64) (fun v s=>v= .tuple []/\s=(rZ p N L)) (sF 64 Tryd.f64 [.yield 274,.ptr<|some (272,0)])<|yr v1 v2 N L:=by exact FX (C:=fun _ _ _=>False) eQ rfl (fun _ _ _ h=>h.elim) 900 (.rg<|.go 2<|.cu (.bool p.ret) (rZ p N L)<|.en<|.rt 1 .no)<|ai hE (show(AV.tuple []=AV.tuple []/\(rZ p N L)=(rZ p N L)) from⟨rfl,rfl⟩)
theorem alC{v1 v2:AV}(hE:bc pg (sp<|cZ KC rd k::[px kd]) FU 5 (.fn 65) [.U N 0 L,.yield 274] (yr v1 v2 N L)= .ok (.bool p.ret) (rZ p N L)):bc pg (sp<|cZ KC rd k::[px kd]) FU 6 (.fn 64) [.yield 274,.ptr<|some (272,0)] (yr v1 v2 N L)= .ok (.tuple []) (rZ p N L):=by obtain⟨v,s2,h1,rfl,rfl⟩:=rT.call (E:=jM<|cZ KC rd k::[px kd]) (n:=5) Tryd.func64 (E4 Tryd.func64 bY)<|aid (v1:=v1) (v2:=v2) hE;exact h1
theorem xD:aR pg 46 [1,0,1,0]= .rangeFunc (.tmp 6) #[7] En B8:=by kernel_rfl
def K5:List Item:=[.inBlock 0,.code<|aR pg 46 [1,1]]
def DP(N L:Nat):AF:=⟨46,aE<|yq N L,21,.code (aR pg 46 [1,0,1,0])::K5,[],none⟩
theorem agt:lM 274 (rZ p N L)= .ok p.bL (K4 p N L):=by
 obtain⟨r,v1,v2,bL⟩:=p;cases bL with
 |none=>as_aux_lemma=>kernel_rfl
 |some c=>as_aux_lemma=>kernel_rfl
theorem rgC{v1 v2:AV}(mc:Mt (cZ KC rd k::[px kd]) B)(hE:bc pg (sp<|cZ KC rd k::[px kd]) FU 5 (.fn 65) [.U N 0 L,.yield 274] (yr v1 v2 N L)= .ok (.bool p.ret) (rZ p N L))(H:au pg B 270 (Fin pg (az Tryd.f46) fun y _=>y=v) ⟨46,aE<|yq N L,21,andThen p.bL K5,[273],none⟩<|K4 p N L):au pg B 270 (Fin pg (az Tryd.f46) fun y _=>y=v) (DP N L)<|ah (rY v1 v2 N L) 273:=by unfold DP;rw[xD];exact au.chunk bH mc.2.2.1 mc.2.2.2 (Ih (gv:=.func (.func 64) [] [.ptr<|some (272,0)]) (s1:=ah (rY v1 v2 N L++[(273,some .defs)]) 274) (s2:=yr v1 v2 N L) bY bY bY (alC (rd:=rd) (k:=k) (kd:=kd) hE) (show lM 274 (rZ p N L)= .ok p.bL (K4 p N L) from agt)) (by show 270<=273;omega) H
theorem aie(N L:Nat):((yq N L).map (fun q=>some q.2)=(yq N L).map (fun q=>some q.2))/\((rY (.int .i64 0) (.int .i64 0) N L).map (fun q=>q.2)=(rY (.int .i64 0) (.int .i64 0) N L).map (fun q=>q.2))/\(DP N L=DP N L/\ah (rY (.int .i64 0) (.int .i64 0) N L) 273=ah (rY (.int .i64 0) (.int .i64 0) N L) 273):=⟨rfl,rfl,rfl,rfl⟩
theorem goC(mc:Mt (cZ KC rd k::[px kd]) B)(hn:top<=N)(H:au pg B 270 (Fin pg (az Tryd.f46) fun y _=>y=v) (DP N L)<|ah (rY (.int .i64 0) (.int .i64 0) N L) 273):au pg B 270 (Fin pg (az Tryd.f46) fun y _=>y=v) (sF 46 Tryd.f46 [(.U N 0 L)])<|ah ar 270:=by exact wC mc (C:=(fun fr s1 _=>fr=DP N L/\s1=ah (rY (.int .i64 0) (.int .i64 0) N L) 273)) mQ (.st 4<|.rg<|.go 1<|.il<|.rt 5<|.en<|.st 1<|.ls (yq N L) (rY (.int .i64 0) (.int .i64 0) N L) 273 .no)<|aie N L
theorem enC{r:Bool}(mc:Mt (cZ KC rd k::[px kd]) B):au pg B 270 (Fin pg (az Tryd.f46) fun y _=>y= .tuple [.int .i64 n1,.int .i64 n2]) ⟨46,aE<|yq N L,21,andThen none K5,[273],none⟩<|K4 ⟨r,.int .i64 n1,.int .i64 n2,none⟩ N L:=(ME (l:=273) (k:=8) (fr:=⟨46,aE<|yq N L,21,K5,[],none⟩) bH mc.2.2.1 mc.2.2.2 rfl rfl bY).2.2 (by show 270<=275;omega)
end
end tO
end
section
open Go Go.Rn Go.RowKit Go.Proofs
namespace rr
open ch cG cQ di eX By fO tN dj uo mN mG tO
variable {kd:Nat} {e:Ex}
noncomputable section
def cR:St->Ex
 | .mk _ _ a _ _ _=>a
def iw:St->Ex
 | .mk _ _ _ b _ _=>b
def Pd(kd:Nat)(s:St)(n1 n2:Int):Prop:=(0<=n1/\n1<1000000000000)/\(0<=n2/\n2<1000000000000)/\tz kd (cR s)=true/\tz kd (iw s)=true/\lr kd (cR s)<=1000000/\lr kd (iw s)<=1000000
open Classical in
def pa(kd:Nat):mw:=fun s v1 v2=>match v1,v2 with
 | .int .i64 n1,.int .i64 n2=>if Pd kd s n1 n2 then some ⟨true,.int .i64<|n1+1,.int .i64<|n2+(l6 kd (cR s)+l6 kd (iw s)),none⟩ else none
 |_,_=>none
theorem wh(n:Int):okB<|.int .i64 n:=⟨rfl,rfl⟩
theorem TS(h:tz kd e=true)(h2:lr kd e<=1000000):0<=l6 kd e/\l6 kd e<=1000000:=by have:=ER kd e h;unfold l6;split<;>omega
theorem TU(h:tz kd e=true)(h2:lr kd e<=1000000):ba (aP<|yT kd) [.agg<|aD e]=some (i6<|l6 kd e):=eP (eK yT.bM ⟨e,rfl,h,h2,rfl⟩) rD rfl
theorem UH{s:St}{v1 v2:AV}{p:fw}(h:pa kd s v1 v2=some p):∃n1 n2,v1= .int .i64 n1/\v2= .int .i64 n2/\Pd kd s n1 n2/\p=⟨true,.int .i64<|n1+1,.int .i64<|n2+(l6 kd (cR s)+l6 kd (iw s)),none⟩:=by
 unfold pa at h;split at h
 ·rename_i n1 n2;split at h
  ·rename_i q;injection h with h
   exact⟨n1,n2,rfl,rfl,q,h.symm⟩
  ·cases h
 ·cases h
theorem aif(kd k:Nat):yp KC (cZ KC (pa kd) k::[px kd])<|pa kd:=by refine⟨aL.1 aW,aL.1 aW,(by show(2:Nat)≠3;omega),fun s v1 v2 p h _ _=>?_⟩;obtain⟨n1,n2,rfl,rfl,⟨h1,h2,h3,h4,h5,h6⟩,rfl⟩:=UH h;refine⟨⟨wh _,wh _,fun _=>rfl⟩,some<|.cells 10 (Tr.fill (aM s) 0 .nil) [],?_⟩;have ca:=TU h3 h5;have cb:=TU h4 h6;have na:=TS h3 h5;have nb:=TS h4 h6;obtain⟨kk,to,⟨oa,xa,la⟩,⟨ob,xb,lb⟩,bd,el⟩:=s;simp only[cR,iw] at ca cb na nb ⊢;rw[aM,aD,aD];rw[aD] at ca cb;exact agr h1 h2 na nb ca cb
def PW(p:fw):Prop:=p.ret=true/\p.bL=none/\∃n1 n2,p.v1= .int .i64 n1/\p.v2= .int .i64 n2
theorem UI{kd:Nat}{ek:List St->AV->AV->Option fw}(he:∀l n1 n2 p,ek l (.int .i64 n1) (.int .i64 n2)=some p->PW p):∀l n1 n2 p,kG ek (pa kd) l (.int .i64 n1) (.int .i64 n2)=some p->PW p
 |[],n1,n2,p,h=>by
  have h:some (⟨true,.int .i64 n1,.int .i64 n2,none⟩:fw)=some p:=h;injection h with h;subst h
  exact⟨rfl,rfl,_,_,rfl,rfl⟩
 |s::r,n1,n2,p,h=>by
  unfold kG at h;split at h
  ·cases h
  rename_i q e;obtain⟨m1,m2,e1,e2,_,rfl⟩:=UH e;cases e1;cases e2;simp only at h;split at h
  ·cases h
  rename_i q2 e2;obtain⟨b1,b2,x1,x2,y1,y2⟩:=he _ _ _ _ e2;rw[b1] at h;simp only at h;rw[y1,y2] at h;split at h
  ·cases h
  rename_i q3 e3;obtain⟨c1,c2,x3,x4,y3,y4⟩:=he _ _ _ _ e3;rw[c1] at h;simp only at h;rw[y3,y4] at h;exact UI he r _ _ p h
theorem Tc:∀k l n1 n2 p,fC (pa kd) k l (.int .i64 n1) (.int .i64 n2)=some p->PW p
 |0,_,_,_,_,h=>by cases h
 |k+1,l,n1,n2,p,h=>by
  unfold fC at h;split at h
  ·exact UI (Tc k) l n1 n2 p h
  ·cases h
def Bz(kd k:Nat)(args:List AV)(v:AV):Prop:=∃(l:List St) (p:fw),args=[.U (nm<|bx l) 0 l.length]/\fC (pa kd) k l (.int .i64 0) (.int .i64 0)=some p/\v= .tuple [p.v1,p.v2]
theorem adD{l l':List St}(h:[AV.U (nm<|bx l) 0 l.length]=[.U (nm<|bx l') 0 l'.length]):l=l':=by
 injection h with h _
 injection h with h1 _ _
 exact sk _ _<|sU (lK _) (lK _) h1
theorem Bz.bM{k:Nat}(args:List AV)(v v':AV)(h:Bz kd k args v)(h':Bz kd k args v'):v=v':=by
 obtain⟨l,p,rfl,a,rfl⟩:=h;obtain⟨l',p',h1,a',rfl⟩:=h';rw[adD h1,a'] at a;injection a with a
 rw[a]
def lC(kd k:Nat):FuncId×KE:=(46,.val<|aP<|Bz kd k)
theorem adE(hP:bS pg)(kd k:Nat){L:bO}(h:aY L):aY<|lC kd k::L:=by refine gP hP h (Aw hP (fun k=>aif kd k) (S7 hP kd dc) k<|S7 hP kd dc) Tryd.func46 fun args v e=>?_;obtain⟨l,p,rfl,he,rfl⟩:=fV e;refine⟨aL.1 aW,fun B mc=>?_⟩;rw[←ij];obtain⟨r1,r2,n1,n2,v1,v2⟩:=Tc k l 0 0 p he;obtain⟨ret,w1,w2,bL⟩:=p;simp only at r1 r2 v1 v2;subst r1;subst r2;subst v1;subst v2;exact goC (rd:=pa kd) (k:=k) (kd:=kd) mc (cF _)<|rgC mc (ags (rd:=pa kd) (k:=k) rfl rfl (wh _) (wh _) he ⟨wh _,wh _⟩)<|enC mc
end
end rr
end
section
open Go Go.Rn Go.RowKit Go.Proofs
namespace vK
open ch cG cQ di fD eX fO dj uo B7 vJ xG mN mG
variable {xb xa to ob oa nb na:Int} {ld Ne Nd Nb Na Lb La:Nat} {B:aJ}
theorem agu{le:Nat}{kk z xa xb:Int}(mc:Mt [wg,vu,vt] B)(ho:ba (aP ku) [.int .u8 kk]=some (.agg [.bool false,.bool false,.bool false,.bool false,.bool false,.bool false])):au pg B 270 (Fin pg (az Tryd.f48) fun y _=>y=(.bool<|decide<|False)) (sF 48 Tryd.f48 [(.agg [(u8<|kk),(i6 to),(u8<|oa),(i6 na),(.U Na 0 La),(u8<|ob),(i6 nb),(.U Nb 0 Lb),(.U Nd 0 ld),(.U Ne 0 le)]),(i6 z)])<|ah ar 270:=by exact wS mc (.st 3<|.rg<|.go 2<|.kn (.agg [(.bool false),(.bool false),(.bool false),(.bool false),(.bool false),(.bool false)])<|.go 2<|.en<|.rt 10 .no)<|ai ho (show AV.bool false= .bool (decide<|False) from by rw[decide_eq_false fun h=>h])
theorem adF:ba (aP ku) [.int .u8 1]=some (.agg [(.bool true),(.bool true),(.bool true),(.bool false),(.bool false),(.bool false)]):=eP (eK ku.bM ⟨1,rfl,by omega,by omega,rfl⟩) (by rfl) rfl
theorem agv{le:Nat}{z:Int}(mc:Mt [wg,vu,vt] B)(ha:ba (aP oJ) [(.agg [(u8<|oa),(i6 na),(.U Na 0 La)]),.int .i64 z]=some (.bool<|decide<|xa=1))(hb:ba (aP mX) [(.agg [(u8<|ob),(i6 nb),(.U Nb 0 Lb)])]=some (.bool<|decide<|xb=1)):au pg B 270 (Fin pg (az Tryd.f48) fun y _=>y=(.bool<|decide<|0<=to/\to<8/\xa=1/\xb=1/\ld=0/\le=0)) (sF 48 Tryd.f48 [(.agg [(u8<|.ofNat 1),(i6 to),(u8<|oa),(i6 na),(.U Na 0 La),(u8<|ob),(i6 nb),(.U Nb 0 Lb),(.U Nd 0 ld),(.U Ne 0 le)]),(i6 z)])<|ah ar 270:=by exact wS mc (.st 3<|.rg<|.go 2<|.kn (.agg [(.bool true),(.bool true),(.bool true),(.bool false),(.bool false),(.bool false)])<|.go 2<|.en<|.st 8<|.rg<|.go 2<|.fk (.go 16<|.en<|.rt 4 .no)<|.go 3<|.fk (.go 12<|.en<|.rt 4 .no)<|.go 12<|.en<|.st 4<|.rg<|.go 5<|.il<|.st 7<|.rg<|.go 2<|.kp (xa=1) inferInstance (.go 1<|.en<|.rt 1<|.go 6<|.il<|.st 8<|.rg<|.go 1<|.kp (xb=1) inferInstance (.go 1<|.en<|.rt 1<|.go 8<|.fk (.go 9<|.fk (.go 3<|.en<|.rt 1 .no)<|.go 3<|.en<|.rt 1 .no)<|.go 13<|.en<|.rt 1 .no)<|.go 1<|.en<|.rt 1<|.go 22<|.en<|.rt 1 .no)<|.go 1<|.en<|.rt 1<|.go 29<|.en<|.rt 1 .no)<|ai (adF) XI
theorem adG:ba (aP ku) [.int .u8 2]=some (.agg [(.bool true),(.bool true),(.bool true),(.bool false),(.bool false),(.bool false)]):=eP (eK ku.bM ⟨2,rfl,by omega,by omega,rfl⟩) (by rfl) rfl
theorem agw{le:Nat}{z:Int}(mc:Mt [wg,vu,vt] B)(ha:ba (aP oJ) [(.agg [(u8<|oa),(i6 na),(.U Na 0 La)]),.int .i64 z]=some (.bool<|decide<|xa=1))(hb:ba (aP mX) [(.agg [(u8<|ob),(i6 nb),(.U Nb 0 Lb)])]=some (.bool<|decide<|xb=1)):au pg B 270 (Fin pg (az Tryd.f48) fun y _=>y=(.bool<|decide<|0<=to/\to<8/\xa=1/\xb=1/\ld=0/\le=0)) (sF 48 Tryd.f48 [(.agg [(u8<|.ofNat 2),(i6 to),(u8<|oa),(i6 na),(.U Na 0 La),(u8<|ob),(i6 nb),(.U Nb 0 Lb),(.U Nd 0 ld),(.U Ne 0 le)]),(i6 z)])<|ah ar 270:=by exact wS mc (.st 3<|.rg<|.go 2<|.kn (.agg [(.bool true),(.bool true),(.bool true),(.bool false),(.bool false),(.bool false)])<|.go 2<|.en<|.st 8<|.rg<|.go 2<|.fk (.go 16<|.en<|.rt 4 .no)<|.go 3<|.fk (.go 12<|.en<|.rt 4 .no)<|.go 12<|.en<|.st 4<|.rg<|.go 5<|.il<|.st 7<|.rg<|.go 2<|.kp (xa=1) inferInstance (.go 1<|.en<|.rt 1<|.go 6<|.il<|.st 8<|.rg<|.go 1<|.kp (xb=1) inferInstance (.go 1<|.en<|.rt 1<|.go 8<|.fk (.go 9<|.fk (.go 3<|.en<|.rt 1 .no)<|.go 3<|.en<|.rt 1 .no)<|.go 13<|.en<|.rt 1 .no)<|.go 1<|.en<|.rt 1<|.go 22<|.en<|.rt 1 .no)<|.go 1<|.en<|.rt 1<|.go 29<|.en<|.rt 1 .no)<|ai (adG) XI
theorem adH:ba (aP ku) [.int .u8 3]=some (.agg [(.bool true),(.bool false),(.bool true),(.bool true),(.bool false),(.bool false)]):=eP (eK ku.bM ⟨3,rfl,by omega,by omega,rfl⟩) (by rfl) rfl
theorem agx{le:Nat}{z:Int}(mc:Mt [wg,vu,vt] B)(ha:ba (aP oJ) [(.agg [(u8<|oa),(i6 na),(.U Na 0 La)]),.int .i64 z]=some (.bool<|decide<|xa=1))(hb:ba (aP oJ) [(.agg [(u8<|ob),(i6 nb),(.U Nb 0 Lb)]),.int .i64 z]=some (.bool<|decide<|xb=1)):au pg B 270 (Fin pg (az Tryd.f48) fun y _=>y=(.bool<|decide<|0<=to/\to<8/\to=0/\xa=1/\xb=1/\ld=0/\le=0)) (sF 48 Tryd.f48 [(.agg [(u8<|.ofNat 3),(i6 to),(u8<|oa),(i6 na),(.U Na 0 La),(u8<|ob),(i6 nb),(.U Nb 0 Lb),(.U Nd 0 ld),(.U Ne 0 le)]),(i6 z)])<|ah ar 270:=by exact wS mc (.st 3<|.rg<|.go 2<|.kn (.agg [(.bool true),(.bool false),(.bool true),(.bool true),(.bool false),(.bool false)])<|.go 2<|.en<|.st 8<|.rg<|.go 2<|.fk (.go 16<|.en<|.rt 4 .no)<|.go 3<|.fk (.go 12<|.en<|.rt 4 .no)<|.go 8<|.fk (.go 3<|.en<|.rt 4 .no)<|.go 3<|.en<|.st 4<|.rg<|.go 5<|.il<|.st 7<|.rg<|.go 2<|.kp (xa=1) inferInstance (.go 1<|.en<|.rt 1<|.go 6<|.il<|.st 7<|.rg<|.go 2<|.kp (xb=1) inferInstance (.go 1<|.en<|.rt 1<|.go 8<|.fk (.go 9<|.fk (.go 3<|.en<|.rt 1 .no)<|.go 3<|.en<|.rt 1 .no)<|.go 13<|.en<|.rt 1 .no)<|.go 1<|.en<|.rt 1<|.go 22<|.en<|.rt 1 .no)<|.go 1<|.en<|.rt 1<|.go 29<|.en<|.rt 1 .no)<|ai (adH) QB
theorem adI:ba (aP ku) [.int .u8 4]=some (.agg [(.bool true),(.bool false),(.bool true),(.bool false),(.bool true),(.bool true)]):=eP (eK ku.bM ⟨4,rfl,by omega,by omega,rfl⟩) (by rfl) rfl
theorem agy{le:Nat}{z:Int}(mc:Mt [wg,vu,vt] B)(ha:ba (aP oJ) [(.agg [(u8<|oa),(i6 na),(.U Na 0 La)]),.int .i64 z]=some (.bool<|decide<|xa=1))(hb:ba (aP mX) [(.agg [(u8<|ob),(i6 nb),(.U Nb 0 Lb)])]=some (.bool<|decide<|xb=1)):au pg B 270 (Fin pg (az Tryd.f48) fun y _=>y=(.bool<|decide<|0<=to/\to<8/\to=0/\xa=1/\xb=1)) (sF 48 Tryd.f48 [(.agg [(u8<|.ofNat 4),(i6 to),(u8<|oa),(i6 na),(.U Na 0 La),(u8<|ob),(i6 nb),(.U Nb 0 Lb),(.U Nd 0 ld),(.U Ne 0 le)]),(i6 z)])<|ah ar 270:=by exact wS mc (.st 3<|.rg<|.go 2<|.kn (.agg [(.bool true),(.bool false),(.bool true),(.bool false),(.bool true),(.bool true)])<|.go 2<|.en<|.st 8<|.rg<|.go 2<|.fk (.go 16<|.en<|.rt 4 .no)<|.go 3<|.fk (.go 12<|.en<|.rt 4 .no)<|.go 8<|.fk (.go 3<|.en<|.rt 4 .no)<|.go 3<|.en<|.st 4<|.rg<|.go 5<|.il<|.st 7<|.rg<|.go 2<|.kp (xa=1) inferInstance (.go 1<|.en<|.rt 1<|.go 6<|.il<|.st 8<|.rg<|.go 1<|.kp (xb=1) inferInstance (.go 1<|.en<|.rt 1<|.go 22<|.en<|.rt 1 .no)<|.go 1<|.en<|.rt 1<|.go 22<|.en<|.rt 1 .no)<|.go 1<|.en<|.rt 1<|.go 29<|.en<|.rt 1 .no)<|ai (adI) XJ
theorem adJ:ba (aP ku) [.int .u8 5]=some (.agg [(.bool true),(.bool false),(.bool true),(.bool false),(.bool true),(.bool false)]):=eP (eK ku.bM ⟨5,rfl,by omega,by omega,rfl⟩) (by rfl) rfl
theorem agz{le:Nat}{z:Int}(mc:Mt [wg,vu,vt] B)(ha:ba (aP oJ) [(.agg [(u8<|oa),(i6 na),(.U Na 0 La)]),.int .i64 z]=some (.bool<|decide<|xa=1))(hb:ba (aP mX) [(.agg [(u8<|ob),(i6 nb),(.U Nb 0 Lb)])]=some (.bool<|decide<|xb=1)):au pg B 270 (Fin pg (az Tryd.f48) fun y _=>y=(.bool<|decide<|0<=to/\to<8/\to=0/\xa=1/\xb=1/\le=0)) (sF 48 Tryd.f48 [(.agg [(u8<|.ofNat 5),(i6 to),(u8<|oa),(i6 na),(.U Na 0 La),(u8<|ob),(i6 nb),(.U Nb 0 Lb),(.U Nd 0 ld),(.U Ne 0 le)]),(i6 z)])<|ah ar 270:=by exact wS mc (.st 3<|.rg<|.go 2<|.kn (.agg [(.bool true),(.bool false),(.bool true),(.bool false),(.bool true),(.bool false)])<|.go 2<|.en<|.st 8<|.rg<|.go 2<|.fk (.go 16<|.en<|.rt 4 .no)<|.go 3<|.fk (.go 12<|.en<|.rt 4 .no)<|.go 8<|.fk (.go 3<|.en<|.rt 4 .no)<|.go 3<|.en<|.st 4<|.rg<|.go 5<|.il<|.st 7<|.rg<|.go 2<|.kp (xa=1) inferInstance (.go 1<|.en<|.rt 1<|.go 6<|.il<|.st 8<|.rg<|.go 1<|.kp (xb=1) inferInstance (.go 1<|.en<|.rt 1<|.go 18<|.fk (.go 3<|.en<|.rt 1 .no)<|.go 3<|.en<|.rt 1 .no)<|.go 1<|.en<|.rt 1<|.go 22<|.en<|.rt 1 .no)<|.go 1<|.en<|.rt 1<|.go 29<|.en<|.rt 1 .no)<|ai (adJ)<|aT (to<0) (fun _=>(show AV.bool false= .bool (decide<|0<=to/\to<8/\to=0/\xa=1/\xb=1/\le=0) from by rw[decide_eq_false ab])) fun _=>(aT (to>=8) (fun _=>(show AV.bool false= .bool (decide<|0<=to/\to<8/\to=0/\xa=1/\xb=1/\le=0) from by rw[decide_eq_false ab])) fun _=>(aT (to≠0) (fun _=>(show AV.bool false= .bool (decide<|0<=to/\to<8/\to=0/\xa=1/\xb=1/\le=0) from by rw[decide_eq_false ab])) fun _=>(ai ha<|aT (xa=1) (fun _=>(ai hb<|aT (xb=1) (fun _=>(aT ((le:Int)=0) (fun _=>(show AV.bool true= .bool (decide<|0<=to/\to<8/\to=0/\xa=1/\xb=1/\le=0) from by rw[decide_eq_true ab])) fun _=>(show AV.bool false= .bool (decide<|0<=to/\to<8/\to=0/\xa=1/\xb=1/\le=0) from by rw[decide_eq_false ab]))) fun _=>(show AV.bool false= .bool (decide<|0<=to/\to<8/\to=0/\xa=1/\xb=1/\le=0) from by rw[decide_eq_false ab]))) fun _=>(show AV.bool false= .bool (decide<|0<=to/\to<8/\to=0/\xa=1/\xb=1/\le=0) from by rw[decide_eq_false ab]))))
theorem adK:ba (aP ku) [.int .u8 6]=some (.agg [(.bool true),(.bool false),(.bool false),(.bool false),(.bool false),(.bool false)]):=eP (eK ku.bM ⟨6,rfl,by omega,by omega,rfl⟩) (by rfl) rfl
theorem agA{le:Nat}{z:Int}(mc:Mt [wg,vu,vt] B)(ha:ba (aP mX) [(.agg [(u8<|oa),(i6 na),(.U Na 0 La)])]=some (.bool<|decide<|xa=1))(hb:ba (aP mX) [(.agg [(u8<|ob),(i6 nb),(.U Nb 0 Lb)])]=some (.bool<|decide<|xb=1)):au pg B 270 (Fin pg (az Tryd.f48) fun y _=>y=(.bool<|decide<|0<=to/\to<8/\to=0/\xa=1/\xb=1/\ld=0/\le=0)) (sF 48 Tryd.f48 [(.agg [(u8<|.ofNat 6),(i6 to),(u8<|oa),(i6 na),(.U Na 0 La),(u8<|ob),(i6 nb),(.U Nb 0 Lb),(.U Nd 0 ld),(.U Ne 0 le)]),(i6 z)])<|ah ar 270:=by exact wS mc (.st 3<|.rg<|.go 2<|.kn (.agg [(.bool true),(.bool false),(.bool false),(.bool false),(.bool false),(.bool false)])<|.go 2<|.en<|.st 8<|.rg<|.go 2<|.fk (.go 16<|.en<|.rt 4 .no)<|.go 3<|.fk (.go 12<|.en<|.rt 4 .no)<|.go 8<|.fk (.go 3<|.en<|.rt 4 .no)<|.go 3<|.en<|.st 4<|.rg<|.go 5<|.il<|.st 8<|.rg<|.go 1<|.kp (xa=1) inferInstance (.go 1<|.en<|.rt 1<|.go 6<|.il<|.st 8<|.rg<|.go 1<|.kp (xb=1) inferInstance (.go 1<|.en<|.rt 1<|.go 8<|.fk (.go 9<|.fk (.go 3<|.en<|.rt 1 .no)<|.go 3<|.en<|.rt 1 .no)<|.go 13<|.en<|.rt 1 .no)<|.go 1<|.en<|.rt 1<|.go 22<|.en<|.rt 1 .no)<|.go 1<|.en<|.rt 1<|.go 29<|.en<|.rt 1 .no)<|ai (adK) QB
theorem adL:ba (aP ku) [.int .u8 7]=some (.agg [(.bool true),(.bool false),(.bool false),(.bool false),(.bool true),(.bool true)]):=eP (eK ku.bM ⟨7,rfl,by omega,by omega,rfl⟩) (by rfl) rfl
theorem agB{le:Nat}{z:Int}(mc:Mt [wg,vu,vt] B)(ha:ba (aP mX) [(.agg [(u8<|oa),(i6 na),(.U Na 0 La)])]=some (.bool<|decide<|xa=1))(hb:ba (aP mX) [(.agg [(u8<|ob),(i6 nb),(.U Nb 0 Lb)])]=some (.bool<|decide<|xb=1)):au pg B 270 (Fin pg (az Tryd.f48) fun y _=>y=(.bool<|decide<|0<=to/\to<8/\to=0/\xa=1/\xb=1)) (sF 48 Tryd.f48 [(.agg [(u8<|.ofNat 7),(i6 to),(u8<|oa),(i6 na),(.U Na 0 La),(u8<|ob),(i6 nb),(.U Nb 0 Lb),(.U Nd 0 ld),(.U Ne 0 le)]),(i6 z)])<|ah ar 270:=by exact wS mc (.st 3<|.rg<|.go 2<|.kn (.agg [(.bool true),(.bool false),(.bool false),(.bool false),(.bool true),(.bool true)])<|.go 2<|.en<|.st 8<|.rg<|.go 2<|.fk (.go 16<|.en<|.rt 4 .no)<|.go 3<|.fk (.go 12<|.en<|.rt 4 .no)<|.go 8<|.fk (.go 3<|.en<|.rt 4 .no)<|.go 3<|.en<|.st 4<|.rg<|.go 5<|.il<|.st 8<|.rg<|.go 1<|.kp (xa=1) inferInstance (.go 1<|.en<|.rt 1<|.go 6<|.il<|.st 8<|.rg<|.go 1<|.kp (xb=1) inferInstance (.go 1<|.en<|.rt 1<|.go 22<|.en<|.rt 1 .no)<|.go 1<|.en<|.rt 1<|.go 22<|.en<|.rt 1 .no)<|.go 1<|.en<|.rt 1<|.go 29<|.en<|.rt 1 .no)<|ai (adL) XJ
theorem adM:ba (aP ku) [.int .u8 8]=some (.agg [(.bool true),(.bool false),(.bool true),(.bool false),(.bool false),(.bool false)]):=eP (eK ku.bM ⟨8,rfl,by omega,by omega,rfl⟩) (by rfl) rfl
theorem agC{le:Nat}{z:Int}(mc:Mt [wg,vu,vt] B)(ha:ba (aP oJ) [(.agg [(u8<|oa),(i6 na),(.U Na 0 La)]),.int .i64 z]=some (.bool<|decide<|xa=1))(hb:ba (aP mX) [(.agg [(u8<|ob),(i6 nb),(.U Nb 0 Lb)])]=some (.bool<|decide<|xb=1)):au pg B 270 (Fin pg (az Tryd.f48) fun y _=>y=(.bool<|decide<|0<=to/\to<8/\to=0/\xa=1/\xb=1/\ld=0/\le=0)) (sF 48 Tryd.f48 [(.agg [(u8<|.ofNat 8),(i6 to),(u8<|oa),(i6 na),(.U Na 0 La),(u8<|ob),(i6 nb),(.U Nb 0 Lb),(.U Nd 0 ld),(.U Ne 0 le)]),(i6 z)])<|ah ar 270:=by exact wS mc (.st 3<|.rg<|.go 2<|.kn (.agg [(.bool true),(.bool false),(.bool true),(.bool false),(.bool false),(.bool false)])<|.go 2<|.en<|.st 8<|.rg<|.go 2<|.fk (.go 16<|.en<|.rt 4 .no)<|.go 3<|.fk (.go 12<|.en<|.rt 4 .no)<|.go 8<|.fk (.go 3<|.en<|.rt 4 .no)<|.go 3<|.en<|.st 4<|.rg<|.go 5<|.il<|.st 7<|.rg<|.go 2<|.kp (xa=1) inferInstance (.go 1<|.en<|.rt 1<|.go 6<|.il<|.st 8<|.rg<|.go 1<|.kp (xb=1) inferInstance (.go 1<|.en<|.rt 1<|.go 8<|.fk (.go 9<|.fk (.go 3<|.en<|.rt 1 .no)<|.go 3<|.en<|.rt 1 .no)<|.go 13<|.en<|.rt 1 .no)<|.go 1<|.en<|.rt 1<|.go 22<|.en<|.rt 1 .no)<|.go 1<|.en<|.rt 1<|.go 29<|.en<|.rt 1 .no)<|ai (adM) QB
end vK
end
section
open Go Go.Rn Go.RowKit Go.Proofs
namespace xH
open ch cG cQ di fD eX fO dj uo B7 vJ xG iB mN mG rr vK
variable {e:Ex}
def tP(asked:Bool)(e:Ex)(z:Int):Bool:=match asked with
 |true=>Kj e z
 |false=>decide<|Ds e
def zV(l:List Bool)(to:Int)(a b:Ex)(body el:List St)(z:Int):Bool:=match l with
 |[is,t,fa,fb,bo,ot]=>is&&(decide (0<=to/\to<8)&&((t||decide (to=0))&&(tP fa a z&&(tP fb b z&&((bo||decide (body.length=0))&&(ot||decide (el.length=0)))))))
 |_=>false
def mA:St->Int->Bool
 | .mk kind to a b body el,z=>zV (pU kind) to a b body el z
def zW(args:List AV)(v:AV):Prop:=∃(s:St) (z:Int),args=[.agg<|aM s,.int .i64 z]/\(0<=fB s/\fB s<256)/\v= .bool (mA s z)
theorem zW.bM(args:List AV)(v v':AV)(h:zW args v)(h':zW args v'):v=v':=by obtain⟨e,z,rfl,_,rfl⟩:=h;obtain⟨e',z',h1,_,rfl⟩:=h';simp only[List.cons.injEq,AV.agg.injEq,AV.int.injEq,true_and,_root_.and_true] at h1;rw[MA _ _ h1.1,h1.2]
noncomputable def lH:FuncId×KE:=(48,.val<|aP zW)
theorem afp{z:Int}:ba (aP oJ) [.agg<|aD e,.int .i64 z]=some (.bool<|decide<|bit (Kj e z)=1):=by rw[wV];exact eP (eK oJ.bM ⟨e,z,rfl,rfl⟩) rD rfl
theorem adN:ba (aP mX) [.agg<|aD e]=some (.bool<|decide<|bit (decide<|Ds e)=1):=by rw[wV];exact eP (eK mX.bM ⟨e,rfl,rfl⟩) rD rfl
theorem afq{fa:Bool}{z:Int}:match fa with
 |true=>ba (aP oJ) [.agg<|aD e,.int .i64 z]=some (.bool<|decide<|bit (tP fa e z)=1)
 |false=>ba (aP mX) [.agg<|aD e]=some (.bool<|decide<|bit (tP fa e z)=1):=by
 cases fa
 ·exact adN
 ·exact afp
theorem afr(hP:bS pg){L:bO}(h:aY L):aY<|lH::L:=by
 refine gP hP h (afb hP<|aca hP<|ab7 hP dc) Tryd.func48 fun args v e=>?_;obtain⟨⟨kind,to,⟨oa,na,la⟩,⟨ob,nb,lb⟩,bd,el⟩,z,rfl,hk,rfl⟩:=fV e;have hk:0<=kind/\kind<256:=hk;refine⟨aL.1 aW,fun B mc=>?_⟩;rw[←ij];have fit:∀(fa:Bool) (op n:Int) (l:List Ex),match fa with
  |true=>ba (aP oJ) [.agg [.int .u8 op,.int .i64 n,.U (nm<|cH l) 0 l.length],.int .i64 z]=some (.bool<|decide<|bit (tP fa (.mk op n l) z)=1)
  |false=>ba (aP mX) [.agg [.int .u8 op,.int .i64 n,.U (nm<|cH l) 0 l.length]]=some (.bool<|decide<|bit (tP fa (.mk op n l) z)=1):=fun fa op n l=>by
  have:=afq (fa:=fa) (e:=.mk op n l) (z:=z);rw[aD] at this;exact this
 have bool:∀(t bo ot A B:Bool),(true&&(decide (0<=to/\to<8)&&((t||decide (to=0))&&(A&&(B&&((bo||decide (bd.length=0))&&(ot||decide (el.length=0))))))))=true↔(0<=to/\to<8)/\(t=true\/to=0)/\bit A=1/\bit B=1/\(bo=true\/bd.length=0)/\(ot=true\/el.length=0):=fun t bo ot A B=>by simp only[Bool.true_and,Bool.and_eq_true,Bool.or_eq_true,decide_eq_true_eq,DO]
 rw[aM,aD,aD];by_cases hb:1<=kind/\kind<=8
 ·have hs:∀(t fa fb bo ot:Bool),pU kind=[true,t,fa,fb,bo,ot]->∀(Q:Prop) [Decidable Q],(Q↔(0<=to/\to<8)/\(t=true\/to=0)/\bit (tP fa (.mk oa na la) z)=1/\bit (tP fb (.mk ob nb lb) z)=1/\(bo=true\/bd.length=0)/\(ot=true\/el.length=0))->
   mA (.mk kind to (.mk oa na la) (.mk ob nb lb) bd el) z=decide Q:=fun t fa fb bo ot e Q _ hq=>by
   show zV (pU kind) to _ _ bd el z=_;rw[e,Bool.eq_iff_iff,decide_eq_true_eq,hq];exact bool t bo ot _ _
  have done:∀(t fa fb bo ot:Bool),pU kind=[true,t,fa,fb,bo,ot]->∀(Q:Prop) [Decidable Q] {l:List AV} {K:List ResultVar} {nt:Nat} {XW:List Item},(Q↔(0<=to/\to<8)/\(t=true\/to=0)/\bit (tP fa (.mk oa na la) z)=1/\bit (tP fb (.mk ob nb lb) z)=1/\(bo=true\/bd.length=0)/\(ot=true\/el.length=0))->
   au pg B 270 (Fin pg K fun y _=>y= .bool (decide Q)) ⟨48,dt l,nt,XW,[],none⟩ (ah ar 270)->au pg B 270 (Fin pg K fun y _=>y= .bool (mA (.mk kind to (.mk oa na la) (.mk ob nb lb) bd el) z)) ⟨48,dt l,nt,XW,[],none⟩ (ah ar 270):=fun t fa fb bo ot e Q _ _ _ _ _ hq key=>by
   rw[hs t fa fb bo ot e Q hq];exact key
  obtain rfl|rfl|rfl|rfl|rfl|rfl|rfl|rfl:kind=1\/kind=2\/kind=3\/kind=4\/kind=5\/kind=6\/kind=7\/kind=8:=by omega
  ·have key:=agv (to:=to) (z:=z) (Nd:=nm<|bx bd) (Ne:=nm<|bx el) (ld:=bd.length) (le:=el.length) mc (fit true oa na la)<|fit false ob nb lb;exact done true true false false false rfl _ zt key
  ·have key:=agw (to:=to) (z:=z) (Nd:=nm<|bx bd) (Ne:=nm<|bx el) (ld:=bd.length) (le:=el.length) mc (fit true oa na la)<|fit false ob nb lb;exact done true true false false false rfl _ zt key
  ·have key:=agx (to:=to) (z:=z) (Nd:=nm<|bx bd) (Ne:=nm<|bx el) (ld:=bd.length) (le:=el.length) mc (fit true oa na la)<|fit true ob nb lb;exact done false true true false false rfl _ zt key
  ·have key:=agy (to:=to) (z:=z) (Nd:=nm<|bx bd) (Ne:=nm<|bx el) (ld:=bd.length) (le:=el.length) mc (fit true oa na la)<|fit false ob nb lb;exact done false true false true true rfl _ zt key
  ·have key:=agz (to:=to) (z:=z) (Nd:=nm<|bx bd) (Ne:=nm<|bx el) (ld:=bd.length) (le:=el.length) mc (fit true oa na la)<|fit false ob nb lb;exact done false true false true false rfl _ zt key
  ·have key:=agA (to:=to) (z:=z) (Nd:=nm<|bx bd) (Ne:=nm<|bx el) (ld:=bd.length) (le:=el.length) mc (fit false oa na la)<|fit false ob nb lb;exact done false false false false false rfl _ zt key
  ·have key:=agB (to:=to) (z:=z) (Nd:=nm<|bx bd) (Ne:=nm<|bx el) (ld:=bd.length) (le:=el.length) mc (fit false oa na la)<|fit false ob nb lb;exact done false false false true true rfl _ zt key
  ·have key:=agC (to:=to) (z:=z) (Nd:=nm<|bx bd) (Ne:=nm<|bx el) (ld:=bd.length) (le:=el.length) mc (fit true oa na la)<|fit false ob nb lb;exact done false true false false false rfl _ zt key
 ·have e0:pU kind=[false,false,false,false,false,false]:=by
   by_cases h9:9<=kind
   ·unfold pU;rw[List.getD_eq_getElem?_getD,List.getElem?_eq_none (show K3.length<=kind.toNat by show 9<=kind.toNat;omega)];rfl
   ·obtain rfl:kind=0:=by omega
    rfl
  have ho:ba (aP ku) [.int .u8 kind]=some (.agg [.bool false,.bool false,.bool false,.bool false,.bool false,.bool false]):=by have:=eP (eK ku.bM ⟨kind,rfl,hk.1,hk.2,rfl⟩:aP ku [.int .u8 kind]=_) rfl (by unfold we;rw[e0];rfl);rw[this];unfold we;rw[e0];rfl
  have key:=agu (to:=to) (z:=z) (xa:=0) (xb:=0) (Na:=nm<|cH la) (La:=la.length) (oa:=oa) (na:=na) (Nb:=nm<|cH lb) (Lb:=lb.length) (ob:=ob) (nb:=nb) (Nd:=nm<|bx bd) (Ne:=nm<|bx el) (ld:=bd.length) (le:=el.length) mc ho;rw[show mA (.mk kind to (.mk oa na la) (.mk ob nb lb) bd el) z=decide False from by show zV (pU kind) to _ _ bd el z=_;rw[e0];rfl];exact key
end xH
end
section
open Go Go.Rn Go.RowKit Go.Proofs
namespace tS
open ch cG cQ di eX fO iB dj uo mN mG tO rr xH
variable {rd:mw} {k N L ld Ne Nd Nb Na Lb La:Nat} {c2 to ob oa nb na kd:Int} {p:fw} {B:aJ} {P:Prop} {v:AV}
noncomputable section
def zX:Code:=aR pg 22 [1,1,1,0,1,0,0]
def wj:Code:=aR pg 22 [1,1,1,0,1,0,1]
def KM:Cb:=⟨22,42,[31],zX,wj,3,4⟩
def XX(v1 v2:AV)(c:List AV):AS:=⟨((sE KM v1 v2 c).h.put 275<|some<|.cells 10 (Tr.fill c 0 .nil) []).put 270<|some<|.loop .busy none 22 (aE [(3,.ptr<|some (272,0)),(4,.ptr<|some (273,0))]) 42 [31] zX wj 271,276,0,[],[]⟩
noncomputable abbrev jB(kd to oa na:Int)(Na La:Nat)(ob nb:Int)(Nb Lb Nd ld Ne le:Nat):List AV:=[(u8<|kd),(i6 to),(u8<|oa),(i6 na),(.U Na 0 La),(u8<|ob),(i6 nb),(.U Nb 0 Lb),(.U Nd 0 ld),(.U Ne 0 le)]
theorem aaY{le:Nat}{n:Int}(hs:ba (aP zW) [.agg<|jB kd to oa na Na La ob nb Nb Lb Nd ld Ne le,.int .i64 n]=some (.bool true)):bc pg (sp<|cZ KM rd k::[lH,jz 60,jD 60,lC 60 60]) FU 6 (.round 270) [.agg<|jB kd to oa na Na La ob nb Nb Lb Nd ld Ne le] (sE KM (i6 n) (.bool false)<|jB kd to oa na Na La ob nb Nb Lb Nd ld Ne le)= .ok (.bool true) (sA KM none (.int .i64 n) (.bool false) (jB kd to oa na Na La ob nb Nb Lb Nd ld Ne le)<|some<|.cells 10 (Tr.fill (jB kd to oa na Na La ob nb Nb Lb Nd ld Ne le) 0 .nil) []):=EC (st:=.ready) (bL:=none) (fn:=22) (nt:=42) (d:=271) (t:=(aE [(3,.ptr<|some (272,0)),(4,.ptr<|some (273,0))])) (ps:=[31]) (a:=zX) (b:=wj) (s0:=sE KM (i6 n) (.bool false)<|jB kd to oa na Na La ob nb Nb Lb Nd ld Ne le) bY rfl<|Chunk.ev 2 ⟨22,jw [31] [.agg<|jB kd to oa na Na La ob nb Nb Lb Nd ld Ne le]<|aE [(3,.ptr<|some (272,0)),(4,.ptr<|some (273,0))],42,[.code zX,.beginRound,.code wj],[],some 270⟩ ⟨22,((jw [31] [.agg<|jB kd to oa na Na La ob nb Nb Lb Nd ld Ne le]<|aE [(3,.ptr<|some (272,0)),(4,.ptr<|some (273,0))]).put 7<|some<|.ptr<|some (275,0)),42,[.code wj],[],some 270⟩ _ (XX (i6 n) (.bool false)<|jB kd to oa na Na La ob nb Nb Lb Nd ld Ne le) bY<|CE (E:=jM<|cZ KM rd k::[lH,jz 60,jD 60,lC 60 60]) (C:=(fun fr s1 _=>fr.round=none/\fr.defers=[]/\AK pg (bc pg (sp<|cZ KM rd k::[lH,jz 60,jD 60,lC 60 60]) FU 5) 270 fr s1=some ((.bool true),(sA KM none (.int .i64 n) (.bool false) (jB kd to oa na Na La ob nb Nb Lb Nd ld Ne le)<|some<|.cells 10 (Tr.fill (jB kd to oa na Na La ob nb Nb Lb Nd ld Ne le) 0 .nil) [])))) eQ rfl (fun fr s p h=>EB h.1 h.2.1 h.2.2) 900 (.st 2<|.rg<|.go 2<|.kn (.bool true)<|.go 1<|.en<|.st 3<|.cut .no)<|ai hs<|G2 (.bool true)<|sA KM none (.int .i64 n) (.bool false) (jB kd to oa na Na La ob nb Nb Lb Nd ld Ne le)<|some<|.cells 10 (Tr.fill (jB kd to oa na Na La ob nb Nb Lb Nd ld Ne le) 0 .nil) []
theorem aad{le:Nat}{n:Int}(hs:ba (aP zW) [.agg<|jB kd to oa na Na La ob nb Nb Lb Nd ld Ne le,.int .i64 n]=some (.bool false)):bc pg (sp<|cZ KM rd k::[lH,jz 60,jD 60,lC 60 60]) FU 6 (.round 270) [.agg<|jB kd to oa na Na La ob nb Nb Lb Nd ld Ne le] (sE KM (i6 n) (.bool false)<|jB kd to oa na Na La ob nb Nb Lb Nd ld Ne le)= .ok (.bool false) (sA KM (some .ret) (.int .i64 n) (.bool false) (jB kd to oa na Na La ob nb Nb Lb Nd ld Ne le)<|some<|.cells 10 (Tr.fill (jB kd to oa na Na La ob nb Nb Lb Nd ld Ne le) 0 .nil) []):=EC (st:=.ready) (bL:=none) (fn:=22) (nt:=42) (d:=271) (t:=(aE [(3,.ptr<|some (272,0)),(4,.ptr<|some (273,0))])) (ps:=[31]) (a:=zX) (b:=wj) (s0:=sE KM (i6 n) (.bool false)<|jB kd to oa na Na La ob nb Nb Lb Nd ld Ne le) bY rfl<|Chunk.ev 2 ⟨22,jw [31] [.agg<|jB kd to oa na Na La ob nb Nb Lb Nd ld Ne le]<|aE [(3,.ptr<|some (272,0)),(4,.ptr<|some (273,0))],42,[.code zX,.beginRound,.code wj],[],some 270⟩ ⟨22,((jw [31] [.agg<|jB kd to oa na Na La ob nb Nb Lb Nd ld Ne le]<|aE [(3,.ptr<|some (272,0)),(4,.ptr<|some (273,0))]).put 7<|some<|.ptr<|some (275,0)),42,[.code wj],[],some 270⟩ _ (XX (i6 n) (.bool false)<|jB kd to oa na Na La ob nb Nb Lb Nd ld Ne le) bY<|CE (E:=jM<|cZ KM rd k::[lH,jz 60,jD 60,lC 60 60]) (C:=(fun fr s1 _=>fr.round=none/\fr.defers=[]/\AK pg (bc pg (sp<|cZ KM rd k::[lH,jz 60,jD 60,lC 60 60]) FU 5) 270 fr s1=some ((.bool false),(sA KM (some .ret) (.int .i64 n) (.bool false) (jB kd to oa na Na La ob nb Nb Lb Nd ld Ne le)<|some<|.cells 10 (Tr.fill (jB kd to oa na Na La ob nb Nb Lb Nd ld Ne le) 0 .nil) [])))) eQ rfl (fun fr s p h=>EB h.1 h.2.1 h.2.2) 900 (.st 2<|.rg<|.go 2<|.kn (.bool false)<|.go 1<|.en<|.st 3<|.cut .no)<|ai hs<|G2 (.bool false)<|sA KM (some .ret) (.int .i64 n) (.bool false) (jB kd to oa na Na La ob nb Nb Lb Nd ld Ne le)<|some<|.cells 10 (Tr.fill (jB kd to oa na Na La ob nb Nb Lb Nd ld Ne le) 0 .nil) []
def lf(N L:Nat)(c1 c2:Int):List<|Nat×AV:=[(3,(.ptr<|some (270,0))),(4,(.ptr<|some (271,0))),(5,(i6 c1)),(6,(i6 c2)),(30,(.func (.func 64) [] [(.ptr<|some (272,0))]))]
def sa(v1 v2:AV)(N L:Nat):List<|Nat×Option ae:=ar++[(270,some<|eH v1),(271,some<|eH v2),(272,(some<|.cells 1 (Tr.fill [(.U N 0 L)] 0 .nil) []))]
def yu(v1 v2:AV)(N L:Nat)(c1 c2:Int):AS:=ah (sa v1 v2 N L++[(273,some .defs),(274,some<|.loop .ready none 22 (aE<|lf N L c1 c2) 42 KM.ps zX wj 273)]) 275
def sb(p:fw)(N L:Nat):AS:=ah (sa p.v1 p.v2 N L++[(273,some .defs),(274,some<|Cb.loop KM p.bL 270 271 273)]) 275
def G3(p:fw)(N L:Nat):AS:=ah (sa p.v1 p.v2 N L++[(273,some .defs),(274,some<|.loop .exhausted p.bL KM.fn (aE [(KM.s1,.ptr<|some (270,0)),(KM.s2,.ptr<|some (271,0))]) KM.nt KM.ps KM.a KM.b 273)]) 275
theorem agD{L0:bO}{v1 v2:AV}{c1:Int}{l:List St}(hN:N=nm (bx l))(hl:L=l.length)(o1:okB v1)(o2:okB v2)(h:fC rd k l v1 v2=some p)(o3:okB p.v1/\okB p.v2):
 bc pg (sp<|cZ KM rd k::L0) FU 5 (.fn 65) [.U N 0 L,.yield 274] (yu v1 v2 N L c1 c2)= .ok (.bool p.ret) (sb p N L):=by
 subst hN;subst hl;have ui:sp (cZ KM rd k::L0) 65=some (qL KM (zh rd k) 270 dT dG):=by kernel_rfl
 have I:Kg KM (yu v1 v2 (nm<|bx l) l.length c1 c2) 274 273 270 271 v1 v2:=by
  refine⟨rfl,(aL.1 aW:275<=top),⟨by show 274<275;omega,by show 273<275;omega,by show 270<275;omega,by show 271<275;omega⟩,⟨by omega,by omega,by omega,by omega,by omega,by omega⟩,⟨aE<|lf (nm<|bx l) l.length c1 c2,?_,?_,?_⟩,?_,⟨eH v1,?_,wB _⟩,⟨eH v2,?_,wB _⟩⟩
  all_goals (as_aux_lemma=>kernel_rfl)
 have key:=NN (P:=pg) (F:=FU) (n:=4) ui (ri l) bY I ((MD o1 o2).trans h) o1 o2 o3.1 o3.2;rw[show KY KM (yu v1 v2 (nm<|bx l) l.length c1 c2) 274 273 270 271 p=sb p (nm<|bx l) l.length from by as_aux_lemma=>kernel_rfl] at key;exact key
theorem aih{v1 v2:AV}{c1:Int}(hE:bc pg (sp<|cZ KM rd k::[lH,jz 60,jD 60,lC 60 60]) FU 5 (.fn 65) [.U N 0 L,.yield 274] (yu v1 v2 N L c1 c2)= .ok (.bool p.ret) (sb p N L)):rT (jM<|cZ KM rd k::[lH,jz 60,jD 60,lC 60 60]) 5 (az Tryd.f64) (fun v s=>v= .tuple []/\s=(sb p N L)) (sF 64 Tryd.f64 [.yield 274,.ptr<|some (272,0)])<|yu v1 v2 N L c1 c2:=by exact FX (C:=fun _ _ _=>False) eQ rfl (fun _ _ _ h=>h.elim) 900 (.rg<|.go 2<|.cu (.bool p.ret) (sb p N L)<|.en<|.rt 1 .no)<|ai hE (show(AV.tuple []=AV.tuple []/\(sb p N L)=(sb p N L)) from⟨rfl,rfl⟩)
theorem alM{v1 v2:AV}{c1:Int}(hE:bc pg (sp<|cZ KM rd k::[lH,jz 60,jD 60,lC 60 60]) FU 5 (.fn 65) [.U N 0 L,.yield 274] (yu v1 v2 N L c1 c2)= .ok (.bool p.ret) (sb p N L)):bc pg (sp<|cZ KM rd k::[lH,jz 60,jD 60,lC 60 60]) FU 6 (.fn 64) [.yield 274,.ptr<|some (272,0)] (yu v1 v2 N L c1 c2)= .ok (.tuple []) (sb p N L):=by obtain⟨v,s2,h1,rfl,rfl⟩:=rT.call (E:=jM<|cZ KM rd k::[lH,jz 60,jD 60,lC 60 60]) (n:=5) Tryd.func64 (E4 Tryd.func64 bY)<|aih (v1:=v1) (v2:=v2) hE;exact h1
theorem agE:aR pg 22 [1,1,1,0,1,0]= .rangeFunc (.tmp 30) #[31] zX wj:=by kernel_rfl
def G4:List Item:=[.inBlock 0,.code<|aR pg 22 [1,1,1,1]]
def DQ(N L:Nat)(c1 c2:Int):AF:=⟨22,aE<|lf N L c1 c2,42,.code (aR pg 22 [1,1,1,0,1,0])::G4,[],none⟩
theorem agF:lM 274 (sb p N L)= .ok p.bL (G3 p N L):=by
 obtain⟨r,v1,v2,bL⟩:=p;cases bL with
 |none=>as_aux_lemma=>kernel_rfl
 |some c=>as_aux_lemma=>kernel_rfl
theorem rgM{v1 v2:AV}{c1:Int}(mc:Mt (cZ KM rd k::[lH,jz 60,jD 60,lC 60 60]) B)(hE:bc pg (sp<|cZ KM rd k::[lH,jz 60,jD 60,lC 60 60]) FU 5 (.fn 65) [.U N 0 L,.yield 274] (yu v1 v2 N L c1 c2)= .ok (.bool p.ret) (sb p N L))(H:au pg B 270 (Fin pg (az Tryd.f22) fun y _=>y=v) ⟨22,aE<|lf N L c1 c2,42,andThen p.bL G4,[273],none⟩<|G3 p N L):au pg B 270 (Fin pg (az Tryd.f22) fun y _=>y=v) (DQ N L c1 c2)<|ah (sa v1 v2 N L) 273:=by unfold DQ;rw[agE];exact au.chunk bH mc.2.2.1 mc.2.2.2 (Ih (gv:=.func (.func 64) [] [.ptr<|some (272,0)]) (s1:=ah (sa v1 v2 N L++[(273,some .defs)]) 274) (s2:=yu v1 v2 N L c1 c2) bY bY bY (alM (rd:=rd) (k:=k) hE) (show lM 274 (sb p N L)= .ok p.bL (G3 p N L) from agF)) (by show 270<=273;omega) H
theorem aii{n:Int}(N L:Nat)(c1 c2:Int)(h:P):((lf N L c1 c2).map (fun q=>some q.2)=(lf N L c1 c2).map (fun q=>some q.2))/\((sa (.int .i64 n) (.bool false) N L).map (fun q=>q.2)=(sa (.int .i64 n) (.bool false) N L).map (fun q=>q.2))/\((DQ N L c1 c2=DQ N L c1 c2/\ah (sa (.int .i64 n) (.bool false) N L) 273=ah (sa (.int .i64 n) (.bool false) N L) 273)/\P):=⟨rfl,rfl,⟨rfl,rfl⟩,h⟩
theorem goM{n dp cs c1:Int}(mc:Mt (cZ KM rd k::[lH,jz 60,jD 60,lC 60 60]) B)(hn:top<=N)(hD:ba (aP<|s8 60) [(.U N 0 L)]=some (.int .i64 dp))(hC:ba (aP<|tA 60) [(.U N 0 L)]=some (.int .i64 cs))(hN:ba (aP<|Bz 60 60) [(.U N 0 L)]=some (.tuple [.int .i64 c1,.int .i64 c2]))(hf:¬(0<=n/\n<6/\dp<=6/\cs<=2000)->AV.bool false=v)(H:(0<=n/\n<6/\dp<=6/\cs<=2000)->au pg B 270 (Fin pg (az Tryd.f22) fun y _=>y=v) (DQ N L c1 c2) (ah (sa (.int .i64 n) (.bool false) N L) 273)):au pg B 270 (Fin pg (az Tryd.f22) fun y _=>y=v) (sF 22 Tryd.f22 [(.U N 0 L),(i6 n)])<|ah ar 270:=by exact wC mc (C:=(fun fr s1 _=>(fr=DQ N L c1 c2/\s1=ah (sa (.int .i64 n) (.bool false) N L) 273)/\(0<=n/\n<6/\dp<=6/\cs<=2000))) (fun fr s1 p hC=>by obtain⟨⟨rfl,rfl⟩,hq⟩:=hC;exact H hq) (.st 4<|.rg<|.go 1<|.fk (.go 14<|.en<|.rt 4 .no)<|.go 2<|.fk (.go 11<|.en<|.rt 4 .no)<|.go 3<|.kn (i6 dp)<|.fk (.go 6<|.en<|.rt 4 .no)<|.go 3<|.kn (i6 cs)<|.fk (.go 1<|.en<|.rt 4 .no)<|.go 1<|.en<|.st 3<|.rg<|.go 1<|.kn (.tuple [(i6 c1),(i6 c2)])<|.go 5<|.en<|.st 2<|.rg<|.go 1<|.il<|.rt 5<|.en<|.st 1<|.ls (lf N L c1 c2) (sa (.int .i64 n) (.bool false) N L) 273 .no)<|aT (n<0) (fun _=>(show AV.bool false=v from hf ab)) fun _=>(aT (n>=6) (fun _=>(show AV.bool false=v from hf ab)) fun _=>(ai hD<|aT (dp>6) (fun _=>(show AV.bool false=v from hf ab)) fun _=>(ai hC<|aT (cs>2000) (fun _=>(show AV.bool false=v from hf ab)) fun _=>(ai hN<|aii (n:=n) N L c1 c2 (show(0<=n/\n<6/\dp<=6/\cs<=2000) from by omega)))))
theorem aij{n c1:Int}(mc:Mt (cZ KM rd k::[lH,jz 60,jD 60,lC 60 60]) B):au pg B 270 (Fin pg (az Tryd.f22) fun y _=>y= .bool false) ⟨22,aE<|lf N L c1 c2,42,andThen (some .ret) G4,[273],none⟩<|G3 ⟨false,.int .i64 n,.bool false,some .ret⟩ N L:=(ME (l:=273) (k:=8) (fr:=⟨22,aE<|lf N L c1 c2,42,.code .ret::G4,[],none⟩) bH mc.2.2.1 mc.2.2.2 rfl rfl bY).2.2 (by show 270<=275;omega)
theorem aik [Decidable P](h:P):(none:Option Nat)=none/\([]:List Nat)=[]/\(some (.bool true):Option AV)=some (.bool<|decide P):=⟨rfl,rfl,by rw[decide_eq_true h]⟩
theorem WU [Decidable P](h:¬P):(none:Option Nat)=none/\([]:List Nat)=[]/\(some (.bool false):Option AV)=some (.bool<|decide P):=⟨rfl,rfl,by rw[decide_eq_false h]⟩
theorem ail{n c1:Int}(mc:Mt (cZ KM rd k::[lH,jz 60,jD 60,lC 60 60]) B):au pg B 270 (Fin pg (az Tryd.f22) fun y _=>y= .bool (decide<|c1<=40/\c2<=300)) ⟨22,aE<|lf N L c1 c2,42,andThen none G4,[273],none⟩<|G3 ⟨true,.int .i64 n,.bool false,none⟩ N L:=by exact adC (E:=jM<|cZ KM rd k::[lH,jz 60,jD 60,lC 60 60]) (C:=(fun fr s1 _=>fr.round=none/\fr.defers=[]/\Pc pg (bc pg (sp<|cZ KM rd k::[lH,jz 60,jD 60,lC 60 60]) FU 6) (az Tryd.f22) 8 273 fr s1=some (.bool<|decide<|c1<=40/\c2<=300))) eQ rfl bH mc.2.2.1 mc.2.2.2 (fun fr s p h=>ME bH mc.2.2.1 mc.2.2.2 h.1 h.2.1 h.2.2) (by show 270<=275;omega) 900 (.st 2<|.rg<|.go 1<|.fk (.go 2<|.fk (.go 2<|.en<|.cut .no)<|.go 2<|.en<|.cut .no)<|.go 5<|.en<|.cut .no)<|aT (c1<=40) (fun _=>(aT (c2<=300) (fun _=>(aik (show(c1<=40/\c2<=300) from by omega))) fun _=>(WU (show ¬(c1<=40/\c2<=300) from by omega)))) fun _=>(WU (show ¬(c1<=40/\c2<=300) from by omega))
end
end tS
end
section
open Go Go.Rn Go.RowKit Go.Proofs
namespace xI
open ch cG cQ di eX By fO tN iB F1 dj uo mN mG tO rr xH tS
noncomputable section
open Classical in
def gw:mw:=fun s v1 v2=>match v1,v2 with
 | .int .i64 n,.bool false=>if 0<=fB s/\fB s<256 then(match mA s n with
  |true=>some ⟨true,.int .i64 n,.bool false,none⟩
  |false=>some ⟨false,.int .i64 n,.bool false,some .ret⟩) else none
 |_,_=>none
abbrev pY(n:Int):fw:=⟨true,.int .i64 n,.bool false,none⟩
abbrev pN(n:Int):fw:=⟨false,.int .i64 n,.bool false,some .ret⟩
theorem NS{s:St}{v1 v2:AV}{p:fw}(h:gw s v1 v2=some p):∃n,(v1= .int .i64 n/\v2= .bool false/\0<=fB s/\fB s<256)/\p=(if mA s n=true then pY n else pN n):=by
 unfold gw at h;split at h
 ·rename_i n;split at h
  ·rename_i q;refine⟨n,⟨rfl,rfl,q⟩,?_⟩;split at h<;>rename_i e<;>injection h with h<;>rw[e]
   ·rw[if_pos rfl];exact h.symm
   ·rw[if_neg (by intro q;cases q)];exact h.symm
  ·cases h
 ·cases h
theorem okF(b:Bool):okB<|.bool b:=⟨rfl,rfl⟩
theorem agG{s:St}{n:Int}(h:0<=fB s/\fB s<256):ba (aP zW) [.agg<|aM s,.int .i64 n]=some (.bool<|mA s n):=eP (eK zW.bM ⟨s,n,rfl,h,rfl⟩) (by rw[List.all_cons,show AV.hi (.agg<|aM s)=true from List.all_eq_true.2 fun x hx=>CD<|List.all_eq_true.1 (mu.gg s) x hx];rfl) rfl
theorem aim(k:Nat):yp KM (cZ KM gw k::[lH,jz 60,jD 60,lC 60 60]) gw:=by
 refine⟨aL.1 aW,aL.1 aW,(by show(3:Nat)≠4;omega),fun s v1 v2 p h _ _=>?_⟩;obtain⟨n,⟨rfl,rfl,hk⟩,rfl⟩:=NS h;have hs:=agG (n:=n) hk;cases e:mA s n with
 |true=>rw[e] at hs;rw[if_pos rfl];refine⟨⟨wh _,okF _,fun _=>rfl⟩,some<|.cells 10 (Tr.fill (aM s) 0 .nil) [],?_⟩;obtain⟨kk,to,⟨oa,xa,la⟩,⟨ob,xb,lb⟩,bd,el⟩:=s;rw[aM,aD,aD] at hs ⊢;exact aaY hs
 |false=>rw[e] at hs;rw[if_neg (by intro q;cases q)];refine⟨⟨wh _,okF _,fun q=>by cases q⟩,some<|.cells 10 (Tr.fill (aM s) 0 .nil) [],?_⟩;obtain⟨kk,to,⟨oa,xa,la⟩,⟨ob,xb,lb⟩,bd,el⟩:=s;rw[aM,aD,aD] at hs ⊢;exact aad hs
theorem UJ{n:Int}{ek:List St->AV->AV->Option fw}(he:∀l p,ek l (.int .i64 n) (.bool false)=some p->p=pY n\/p=pN n):∀l p,kG ek gw l (.int .i64 n) (.bool false)=some p->p=pY n\/p=pN n
 |[],p,h=>by
  have h:some (pY n)=some p:=h;injection h with h
  exact .inl h.symm
 |s::r,p,h=>by
  unfold kG at h;split at h
  ·cases h
  rename_i q e;obtain⟨n',⟨fu,_⟩,hq⟩:=NS e;injection fu with _ fu
  subst fu;cases hs:mA s n with
  |false=>rw[hs,if_neg (by intro q;cases q)] at hq;subst hq;injection h with h;exact .inr h.symm
  |true=>
   rw[hs,if_pos rfl] at hq;subst hq;have h:(match ek (bF s) (.int .i64 n) (.bool false) with
    |none=>none
    |some q=>match q.ret with
     |false=>some q
     |true=>match ek (bE s) q.v1 q.v2 with
      |none=>none
      |some u=>match u.ret with
       |false=>some u
       |true=>kG ek gw r u.v1 u.v2)=some p:=h
   split at h
   ·cases h
   rename_i q2 e2;rcases he _ _ e2 with rfl|rfl
   ·have h:(match ek (bE s) (.int .i64 n) (.bool false) with
     |none=>none
     |some u=>match u.ret with
      |false=>some u
      |true=>kG ek gw r u.v1 u.v2)=some p:=h
    split at h
    ·cases h
    rename_i q3 e3;rcases he _ _ e3 with rfl|rfl
    ·exact UJ he r p h
    ·injection h with h;exact .inr h.symm
   ·injection h with h;exact .inr h.symm
theorem Ak{n:Int}:∀k l p,fC gw k l (.int .i64 n) (.bool false)=some p->p=pY n\/p=pN n
 |0,_,_,h=>by cases h
 |k+1,l,p,h=>by
  unfold fC at h;split at h
  ·exact UJ (Ak k) l p h
  ·cases h
def tT(l:List St)(n:Int)(b:Bool):Prop:=∃(c1 c2:Int) (p:fw),fC (pa 60) 60 l (.int .i64 0) (.int .i64 0)=some ⟨true,.int .i64 c1,.int .i64 c2,none⟩/\fC gw 60 l (.int .i64 n) (.bool false)=some p/\b=(decide (0<=n/\n<6/\fp 60 l<=6/\gh 60 l<=2000)&&(p.ret&&decide (c1<=40/\c2<=300)))
def zi(args:List AV)(v:AV):Prop:=∃(l:List St) (n:Int) (b:Bool),args=[.U (nm<|bx l) 0 l.length,.int .i64 n]/\qk 60 l=true/\ky 60 l=true/\tT l n b/\v= .bool b
theorem zi.bM(args:List AV)(v v':AV)(h:zi args v)(h':zi args v'):v=v':=by
 obtain⟨l,n,b,rfl,_,_,⟨c1,c2,p,a1,a2,a3⟩,rfl⟩:=h;obtain⟨l',n',b',h1,_,_,⟨c1',c2',p',b1,b2,b3⟩,rfl⟩:=h';simp only[List.cons.injEq,AV.U.injEq,AV.int.injEq,true_and,_root_.and_true] at h1;have e:l=l':=sk _ _<|sU (lK _) (lK _) h1.1.1;obtain rfl:=e;obtain rfl:=h1.2;rw[a1] at b1;injection b1 with b1;injection b1 with _ q1 q2 _
 injection q1 with _ q1;injection q2 with _ q2
 rw[a2] at b2;injection b2 with b2
 rw[a3,b3,q1,q2,b2]
def DR:FuncId×KE:=(22,.val<|aP zi)
theorem adO(hP:bS pg){L:bO}(h:aY L):aY<|DR::L:=by
 have h0:aY [lH,jz 60,jD 60,lC 60 60]:=afr hP<|S8 hP 60<|TQ hP 60<|adE hP 60 60 dc;refine gP hP h (Aw hP aim h0 60 h0) Tryd.func22 fun args v e=>?_;obtain⟨l,n,b,rfl,hd,hc,⟨c1,c2,p,e1,e2,hb⟩,rfl⟩:=fV e;refine⟨aL.1 aW,fun B mc=>?_⟩;rw[←ij];have hi:[AV.U (nm<|bx l) 0 l.length].all AV.hi=true:=by rw[List.all_cons,ri];rfl
 have hD:=eP (eK s8.bM ⟨l,rfl,hd,by omega,rfl⟩:aP (s8 60) [.U (nm<|bx l) 0 l.length]=_) hi rfl;have hC:=eP (eK tA.bM ⟨l,rfl,hc,rfl⟩:aP (tA 60) [.U (nm<|bx l) 0 l.length]=_) hi rfl;have hN:=eP (eK Bz.bM ⟨l,_,rfl,e1,rfl⟩:aP (Bz 60 60) [.U (nm<|bx l) 0 l.length]=_) hi rfl;refine goM (rd:=gw) (k:=60) mc (cF _) hD hC hN (fun hq=>?_) fun hq=>?_
 ·rw[hb,decide_eq_false hq];rfl
 ·have ok:okB p.v1/\okB p.v2:=by rcases Ak 60 l p e2 with rfl|rfl<;>exact⟨wh _,okF _⟩
  refine rgM (rd:=gw) (k:=60) (p:=p) mc (agD (c1:=c1) (c2:=c2) rfl rfl (wh _) (okF _) e2 ok) ?_;rw[hb,decide_eq_true hq];rcases Ak 60 l p e2 with rfl|rfl
  ·exact ail mc
  ·exact aij mc
end
end xI
end
section
open Go Go.Rn Go.RowKit Go.Proofs
namespace fT
open ch
variable {α:Type} {bw j K:Nat} {enc:α->List AV} {cap:bW}
theorem G5(enc:α->List AV)(l L:List α){nj n o len:Nat}{X:Prop}(hf:top<=n/\cv FU n o (len*K)=some (L.map enc).flatten/\len=L.length)(h1:∀x,(enc x).length=K/\(enc x).all AV.bR=true)(h2:2*(l.length+L.length)*nj+4096*nj<=room)(h3:(l.length+L.length)*K<=Rn.top)(x:X):
 l.length=l.length/\some (aC enc l)=some (aC enc l)/\top<=n/\cv FU n o (len*K)=some (L.map enc).flatten/\len=L.length/\(∀x,(enc x).length=K/\(enc x).all AV.bR=true)/\2*(l.length+L.length)*nj+4096*nj<=room/\(l.length+L.length)*K<=Rn.top/\X:=
 ⟨rfl,rfl,hf.1,hf.2.1,hf.2.2,h1,h2,h3,x⟩
def BA(bw k:Nat):Nat:=if k<270\/top<=k then k else max k bw
theorem Ij{k:Nat}(h:top<=k):BA bw k=k:=if_pos<|.inr h
theorem Je(he:mf K enc)(l:List α){n:Nat}(hc:(match cap with| .known c=>Nat.ble l.length c| .aq _ _=>true| .lost=>false)=true)(hl:l.length*K<=top)(hj:j<top)(hn:n<top)(hs:bw<top):hJ FU 270 bw [(j,.slice (some (n,0)) l.length cap)] [(n,some<|aC enc l)] [(j,aw enc l)] [] 270:=by
 refine⟨[(n,nm (l.map enc).flatten,(l.map enc).flatten)],BA bw,fun k hk=>if_pos<|.inl hk,fun k h1 h2=>?_,fun k hk=>Ij hk,by unfold top;decide,fun p hp=>?_,fun p hp=>nM,fun p hp=>nM,fun p hp=>?_,fun p _ q hq=>(by cases hq)⟩
 ·unfold BA;rw[if_neg ab];omega
 ·rw[List.mem_singleton] at hp;subst hp;exact⟨hj,_,List.mem_singleton.2 rfl,Fi (List.mem_singleton.2 rfl) (fun k hk=>Ij hk) hc⟩
 ·rw[List.mem_singleton] at hp;subst hp;exact Fj he hl n hn<|List.mem_singleton.2 rfl
theorem Oi(hj:j<top)(hs:bw<top):hJ FU 270 bw [(j,.slice none 0<|.known 0)] [] [(j,aw enc [])] [] 270:=by
 refine⟨[],BA bw,fun k hk=>if_pos<|.inl hk,fun k h1 h2=>?_,fun k hk=>Ij hk,by unfold top;decide,fun p hp=>?_,fun p hp=>nM,fun p hp=>nM,fun p hp=>nM,fun p hp=>nM⟩
 ·unfold BA;rw[if_neg ab];omega
 ·rw[List.mem_singleton] at hp;subst hp;exact⟨hj,_,List.mem_singleton.2 rfl,ID⟩
theorem TV{n:Nat}(hj:j<top)(hs:bw<top):hJ FU 270 bw [(j,.slice (some (n,0)) 0 cap)] [] [(j,aw enc [])] [] 270:=by
 refine⟨[],BA bw,fun k hk=>if_pos<|.inl hk,fun k h1 h2=>?_,fun k hk=>Ij hk,by unfold top;decide,fun p hp=>?_,fun p hp=>nM,fun p hp=>nM,fun p hp=>nM,fun p hp=>nM⟩
 ·unfold BA;rw[if_neg ab];omega
 ·rw[List.mem_singleton] at hp;subst hp;exact⟨hj,_,List.mem_singleton.2 rfl,aaN⟩
end fT
end
section
open Go Go.Rn Go.RowKit Go.Proofs
namespace vL
open ch cG cQ di dj fT
variable {B:aJ} {o N:Nat} {L:bO}
noncomputable section
theorem wk(v:AV):v=v:=rfl
theorem Td(x:Ex):(aD x).all AV.bR=true:=by cases x;rw[aD];rfl
theorem agH:(([(2,(.slice none 0<|.known 0))]:List<|Nat×AV).map (fun q=>some q.2)=([(2,(.slice none 0<|.known 0))]:List<|Nat×AV).map (fun q=>some q.2))/\(([]:List<|Nat×Option ae).map (fun q=>q.2)=([]:List<|Nat×Option ae).map (fun q=>q.2))/\hJ FU 270 270 [(2,(.slice none 0<|.known 0))] [] [(2,aw encI ([]:List Int))] [] 270/\((⟨21,aE [(2,aw encI ([]:List Int))],max Tryd.f21.ntmps 1,[.code<|aR pg 21 [1,0,1,0,1],.code<|aR pg 21 [1,1]],[],none⟩:AF)=⟨21,aE [(2,aw encI ([]:List Int))],max Tryd.f21.ntmps 1,[.code<|aR pg 21 [1,0,1,0,1],.code<|aR pg 21 [1,1]],[],none⟩/\ah [] 270=ah [] 270):=⟨rfl,rfl,(Oi (enc:=encI) (j:=2) (bw:=270) dZ dZ),rfl,rfl⟩
theorem agI(mc:Mt [] B):au pg B 270 (Fin pg (az Tryd.f21) fun y _=>y=(aw encI ([]:List Int))) ⟨21,aE [(2,aw encI ([]:List Int))],max Tryd.f21.ntmps 1,[.code<|aR pg 21 [1,0,1,0,1],.code<|aR pg 21 [1,1]],[],none⟩<|ah [] 270:=by exact wS mc (.rt 1 .no)<|wk<|aw encI ([]:List Int)
theorem go_In(mc:Mt [] B):au pg B 270 (Fin pg (az Tryd.f21) fun y _=>y=(aw encI ([]:List Int))) (sF 21 Tryd.f21 [(.U top 0 0)])<|ah ar 270:=by exact wC mc (C:=(fun fr s1 _=>fr=⟨21,aE [(2,aw encI ([]:List Int))],max Tryd.f21.ntmps 1,[.code<|aR pg 21 [1,0,1,0,1],.code<|aR pg 21 [1,1]],[],none⟩/\s1=ah [] 270)) (fun fr s1 p hC=>by obtain⟨rfl,rfl⟩:=hC;exact agI mc) (.st 8<|.rn [(2,(.slice none 0<|.known 0))] [] [(2,aw encI ([]:List Int))] [] 270 270 .no)<|agH
theorem agK:(([(2,(.slice (some (271,0)) (0)<|.aq 0 1))]:List<|Nat×AV).map (fun q=>some q.2)=([(2,(.slice (some (271,0)) (0)<|.aq 0 1))]:List<|Nat×AV).map (fun q=>some q.2))/\(([]:List<|Nat×Option ae).map (fun q=>q.2)=([]:List<|Nat×Option ae).map (fun q=>q.2))/\hJ FU 270 272 [(2,(.slice (some (271,0)) (0)<|.aq 0 1))] [] [(2,aw encI ([]:List Int))] [] 270/\((⟨21,aE [(2,aw encI ([]:List Int))],max Tryd.f21.ntmps 1,(cO 21 [1,1,1]),[],none⟩:AF)=⟨21,aE [(2,aw encI ([]:List Int))],max Tryd.f21.ntmps 1,(cO 21 [1,1,1]),[],none⟩/\ah [] 270=ah [] 270):=⟨rfl,rfl,(TV (enc:=encI) (j:=2) (bw:=272) dZ dZ),rfl,rfl⟩
theorem agL(mc:Mt [] B):au pg B 270 (Fin pg (az Tryd.f21) fun y _=>y=(aw encI ([]:List Int))) ⟨21,aE [(2,aw encI ([]:List Int))],max Tryd.f21.ntmps 1,(cO 21 [1,1,1]),[],none⟩<|ah [] 270:=by exact wS mc (.rt 1 .no)<|wk<|aw encI ([]:List Int)
theorem go_Ie(mc:Mt [] B):au pg B 270 (Fin pg (az Tryd.f21) fun y _=>y=(aw encI ([]:List Int))) (sF 21 Tryd.f21 [(.U (top+1) 0 0)])<|ah ar 270:=by exact wC mc (C:=(fun fr s1 _=>fr=⟨21,aE [(2,aw encI ([]:List Int))],max Tryd.f21.ntmps 1,(cO 21 [1,1,1]),[],none⟩/\s1=ah [] 270)) (fun fr s1 p hC=>by obtain⟨rfl,rfl⟩:=hC;exact agL mc) (.st 9<|.rn [(2,(.slice (some (271,0)) (0)<|.aq 0 1))] [] [(2,aw encI ([]:List Int))] [] 272 270 .no)<|agK
noncomputable abbrev Jf(l:List Int):List<|Nat×AV:=[(2,(.slice (some (271,0)) (([]++l).length)<|.aq ([]++l).length 1))]
theorem agN(l:List Int)(hlen:l.length<=100000):(((Jf l):List<|Nat×AV).map (fun q=>some q.2)=((Jf l):List<|Nat×AV).map (fun q=>some q.2))/\(([(271,some<|aC encI<|[]++l)]:List<|Nat×Option ae).map (fun q=>q.2)=([(271,some<|aC encI<|[]++l)]:List<|Nat×Option ae).map (fun q=>q.2))/\hJ FU 270 272 (Jf l) [(271,some<|aC encI<|[]++l)] [(2,aw encI<|[]++l)] [] 270/\((⟨21,aE [(2,aw encI<|[]++l)],max Tryd.f21.ntmps 1,(cO 21 [1,1,1]),[],none⟩:AF)=⟨21,aE [(2,aw encI<|[]++l)],max Tryd.f21.ntmps 1,(cO 21 [1,1,1]),[],none⟩/\ah [] 270=ah [] 270):=⟨rfl,rfl,(Je (j:=2) (bw:=272) eI ([]++l) rfl (by rw[List.nil_append];unfold top;omega) dZ dZ dZ),rfl,rfl⟩
theorem agO(mc:Mt [] B)(l:List Int):au pg B 270 (Fin pg (az Tryd.f21) fun y _=>y=(aw encI<|[]++l)) ⟨21,aE [(2,aw encI<|[]++l)],max Tryd.f21.ntmps 1,(cO 21 [1,1,1]),[],none⟩<|ah [] 270:=by exact wS mc (.rt 1 .no)<|wk<|aw encI<|[]++l
theorem go_Im(mc:Mt [] B){l:List Int}{m:Nat}(hlen:l.length<=100000)(hf:top<=N/\cv FU N o ((m+1)*1)=some (l.map encI).flatten/\m+1=l.length):au pg B 270 (Fin pg (az Tryd.f21) fun y _=>y=(aw encI<|[]++l)) (sF 21 Tryd.f21 [(.U N o<|m+1)])<|ah ar 270:=by exact wC mc (C:=(fun fr s1 _=>fr=⟨21,aE [(2,aw encI<|[]++l)],max Tryd.f21.ntmps 1,(cO 21 [1,1,1]),[],none⟩/\s1=ah [] 270)) (fun fr s1 p hC=>by obtain⟨rfl,rfl⟩:=hC;exact agO mc l) (.st 8<|.rg<|.go 2<|.al Int encI [] l<|.go 1<|.en<|.rn (Jf l) [(271,some<|aC encI<|[]++l)] [(2,aw encI<|[]++l)] [] 272 270 .no)<|G5 encI [] l (K:=1) (nj:=8) hf (fun x=>⟨rfl,rfl⟩) PM PN<|agN l hlen
def A5(args:List AV)(v:AV):Prop:=∃(N o:Nat) (l:List Int),args=[.U N o l.length]/\dv encI 1 (.U N o l.length) l/\l.length<=100000/\v=aw encI l
theorem A5.bM(args:List AV)(v v':AV)(h:A5 args v)(h':A5 args v'):v=v':=by
 obtain⟨N,o,l,rfl,hl,_,rfl⟩:=h;obtain⟨N',o',l',h1,kV,_,rfl⟩:=h';injection h1 with h1 _
 rw[h1] at hl;rw[hl.inj sB kV]
def CP:FuncId×KE:=(21,.val<|aP A5)
theorem aae(hP:bS pg)(h:aY L):aY<|CP::L:=by
 refine gP hP h dc Tryd.func21 fun args v e=>?_;obtain⟨N,o,l,rfl,hl,hlen,rfl⟩:=fV e;refine⟨aL.1 aW,fun B mc=>?_⟩;rw[←ij];cases l with
 |nil=>
  refine au.IG (i:=0) (n:=N) (o:=o) bY hl.len.2.1 (aL.1 aW) ?_ ?_
  ·exact go_In mc
  ·exact go_Ie mc
 |cons a l=>
  have hf:cv FU N o ((l.length+1)*1)=some ((a::l).map encI).flatten:=by
   rcases Fh eI.len hl with q|q
   ·exact q
   ·cases q
  have key:=go_Im (l:=a::l) (N:=N) (o:=o) (m:=l.length) mc hlen ⟨hl.len.2.1,hf,rfl⟩;exact key
theorem agQ:(([(2,(.slice none 0<|.known 0))]:List<|Nat×AV).map (fun q=>some q.2)=([(2,(.slice none 0<|.known 0))]:List<|Nat×AV).map (fun q=>some q.2))/\(([]:List<|Nat×Option ae).map (fun q=>q.2)=([]:List<|Nat×Option ae).map (fun q=>q.2))/\hJ FU 270 270 [(2,(.slice none 0<|.known 0))] [] [(2,aw aD ([]:List Ex))] [] 270/\((⟨70,aE [(2,aw aD ([]:List Ex))],max Tryd.f70.ntmps 1,[.code<|aR pg 70 [1,0,1,0,1],.code<|aR pg 70 [1,1]],[],none⟩:AF)=⟨70,aE [(2,aw aD ([]:List Ex))],max Tryd.f70.ntmps 1,[.code<|aR pg 70 [1,0,1,0,1],.code<|aR pg 70 [1,1]],[],none⟩/\ah [] 270=ah [] 270):=⟨rfl,rfl,(Oi (enc:=aD) (j:=2) (bw:=270) dZ dZ),rfl,rfl⟩
theorem agR(mc:Mt [] B):au pg B 270 (Fin pg (az Tryd.f70) fun y _=>y=(aw aD ([]:List Ex))) ⟨70,aE [(2,aw aD ([]:List Ex))],max Tryd.f70.ntmps 1,[.code<|aR pg 70 [1,0,1,0,1],.code<|aR pg 70 [1,1]],[],none⟩<|ah [] 270:=by exact wS mc (.rt 1 .no)<|wk<|aw aD ([]:List Ex)
theorem go_En(mc:Mt [] B):au pg B 270 (Fin pg (az Tryd.f70) fun y _=>y=(aw aD ([]:List Ex))) (sF 70 Tryd.f70 [(.U top 0 0)])<|ah ar 270:=by exact wC mc (C:=(fun fr s1 _=>fr=⟨70,aE [(2,aw aD ([]:List Ex))],max Tryd.f70.ntmps 1,[.code<|aR pg 70 [1,0,1,0,1],.code<|aR pg 70 [1,1]],[],none⟩/\s1=ah [] 270)) (fun fr s1 p hC=>by obtain⟨rfl,rfl⟩:=hC;exact agR mc) (.st 8<|.rn [(2,(.slice none 0<|.known 0))] [] [(2,aw aD ([]:List Ex))] [] 270 270 .no)<|agQ
theorem agT:(([(2,(.slice (some (271,0)) (0)<|.aq 0 3))]:List<|Nat×AV).map (fun q=>some q.2)=([(2,(.slice (some (271,0)) (0)<|.aq 0 3))]:List<|Nat×AV).map (fun q=>some q.2))/\(([]:List<|Nat×Option ae).map (fun q=>q.2)=([]:List<|Nat×Option ae).map (fun q=>q.2))/\hJ FU 270 272 [(2,(.slice (some (271,0)) (0)<|.aq 0 3))] [] [(2,aw aD ([]:List Ex))] [] 270/\((⟨70,aE [(2,aw aD ([]:List Ex))],max Tryd.f70.ntmps 1,(cO 70 [1,1,1]),[],none⟩:AF)=⟨70,aE [(2,aw aD ([]:List Ex))],max Tryd.f70.ntmps 1,(cO 70 [1,1,1]),[],none⟩/\ah [] 270=ah [] 270):=⟨rfl,rfl,(TV (enc:=aD) (j:=2) (bw:=272) dZ dZ),rfl,rfl⟩
theorem agU(mc:Mt [] B):au pg B 270 (Fin pg (az Tryd.f70) fun y _=>y=(aw aD ([]:List Ex))) ⟨70,aE [(2,aw aD ([]:List Ex))],max Tryd.f70.ntmps 1,(cO 70 [1,1,1]),[],none⟩<|ah [] 270:=by exact wS mc (.rt 1 .no)<|wk<|aw aD ([]:List Ex)
theorem go_Ee(mc:Mt [] B):au pg B 270 (Fin pg (az Tryd.f70) fun y _=>y=(aw aD ([]:List Ex))) (sF 70 Tryd.f70 [(.U (top+1) 0 0)])<|ah ar 270:=by exact wC mc (C:=(fun fr s1 _=>fr=⟨70,aE [(2,aw aD ([]:List Ex))],max Tryd.f70.ntmps 1,(cO 70 [1,1,1]),[],none⟩/\s1=ah [] 270)) (fun fr s1 p hC=>by obtain⟨rfl,rfl⟩:=hC;exact agU mc) (.st 9<|.rn [(2,(.slice (some (271,0)) (0)<|.aq 0 3))] [] [(2,aw aD ([]:List Ex))] [] 272 270 .no)<|agT
noncomputable abbrev Jg(l:List Ex):List<|Nat×AV:=[(2,(.slice (some (271,0)) (([]++l).length)<|.aq ([]++l).length 3))]
theorem agW(l:List Ex)(hlen:l.length<=100000):(((Jg l):List<|Nat×AV).map (fun q=>some q.2)=((Jg l):List<|Nat×AV).map (fun q=>some q.2))/\(([(271,some<|aC aD<|[]++l)]:List<|Nat×Option ae).map (fun q=>q.2)=([(271,some<|aC aD<|[]++l)]:List<|Nat×Option ae).map (fun q=>q.2))/\hJ FU 270 272 (Jg l) [(271,some<|aC aD<|[]++l)] [(2,aw aD<|[]++l)] [] 270/\((⟨70,aE [(2,aw aD<|[]++l)],max Tryd.f70.ntmps 1,(cO 70 [1,1,1]),[],none⟩:AF)=⟨70,aE [(2,aw aD<|[]++l)],max Tryd.f70.ntmps 1,(cO 70 [1,1,1]),[],none⟩/\ah [] 270=ah [] 270):=⟨rfl,rfl,(Je (j:=2) (bw:=272) kF ([]++l) rfl (by rw[List.nil_append];unfold top;omega) dZ dZ dZ),rfl,rfl⟩
theorem agX(mc:Mt [] B)(l:List Ex):au pg B 270 (Fin pg (az Tryd.f70) fun y _=>y=(aw aD<|[]++l)) ⟨70,aE [(2,aw aD<|[]++l)],max Tryd.f70.ntmps 1,(cO 70 [1,1,1]),[],none⟩<|ah [] 270:=by exact wS mc (.rt 1 .no)<|wk<|aw aD<|[]++l
theorem go_Em(mc:Mt [] B){l:List Ex}{m:Nat}(hlen:l.length<=100000)(hf:top<=N/\cv FU N o ((m+1)*3)=some (l.map aD).flatten/\m+1=l.length):au pg B 270 (Fin pg (az Tryd.f70) fun y _=>y=(aw aD<|[]++l)) (sF 70 Tryd.f70 [(.U N o<|m+1)])<|ah ar 270:=by exact wC mc (C:=(fun fr s1 _=>fr=⟨70,aE [(2,aw aD<|[]++l)],max Tryd.f70.ntmps 1,(cO 70 [1,1,1]),[],none⟩/\s1=ah [] 270)) (fun fr s1 p hC=>by obtain⟨rfl,rfl⟩:=hC;exact agX mc l) (.st 8<|.rg<|.go 2<|.al Ex aD [] l<|.go 1<|.en<|.rn (Jg l) [(271,some<|aC aD<|[]++l)] [(2,aw aD<|[]++l)] [] 272 270 .no)<|G5 aD [] l (K:=3) (nj:=40) hf (fun x=>⟨kF.len x,Td x⟩) PM PN<|agW l hlen
def A6(args:List AV)(v:AV):Prop:=∃(N o:Nat) (l:List Ex),args=[.U N o l.length]/\dv aD 3 (.U N o l.length) l/\l.length<=100000/\v=aw aD l
theorem A6.bM(args:List AV)(v v':AV)(h:A6 args v)(h':A6 args v'):v=v':=by
 obtain⟨N,o,l,rfl,hl,_,rfl⟩:=h;obtain⟨N',o',l',h1,kV,_,rfl⟩:=h';injection h1 with h1 _
 rw[h1] at hl;rw[hl.inj nr kV]
def UK:FuncId×KE:=(70,.val<|aP A6)
theorem aaf(hP:bS pg)(h:aY L):aY<|UK::L:=by
 refine gP hP h dc Tryd.func70 fun args v e=>?_;obtain⟨N,o,l,rfl,hl,hlen,rfl⟩:=fV e;refine⟨aL.1 aW,fun B mc=>?_⟩;rw[←ij];cases l with
 |nil=>
  refine au.IG (i:=0) (n:=N) (o:=o) bY hl.len.2.1 (aL.1 aW) ?_ ?_
  ·exact go_En mc
  ·exact go_Ee mc
 |cons a l=>
  have hf:cv FU N o ((l.length+1)*3)=some ((a::l).map aD).flatten:=by
   rcases Fh kF.len hl with q|q
   ·exact q
   ·cases q
  have key:=go_Em (l:=a::l) (N:=N) (o:=o) (m:=l.length) mc hlen ⟨hl.len.2.1,hf,rfl⟩;exact key
end
end vL
end
section
open Go Go.Rn Go.RowKit Go.Proofs
namespace Gx
open ch cG cQ di dj fT vL vJ xG
variable {k N:Nat} {bN n1 n0:Int} {l1:List Ex} {B:aJ}
theorem afs{α:Type}{K:Nat}{enc:α->List AV}(he:mf K enc)(l:List α){b n j bw:Nat}(pre post:List AV){cap:bW}(hl:l.length*K<=top)(hb:270<=b)(GZ:b+1<=n)(hj:j<top)(hn:n<top)(hs:bw<top)(e1:∀r:Nat->Nat,(∀k,top<=k->r k=k)->oB r pre pre)(e2:∀r:Nat->Nat,(∀k,top<=k->r k=k)->oB r post post)(h1:(pre++aw enc l::post).all AV.bR=true)(h2:(pre++aw enc l::post).length<=top)(hc:(match cap with| .known c=>Nat.ble l.length c| .aq _ _=>true| .lost=>false)=true):
 hJ FU 270 bw [(j,.ptr<|some (b,0))] [(b,some<|.cells (pre++ .slice (some (n,0)) l.length cap::post).length (Tr.fill (pre++ .slice (some (n,0)) l.length cap::post) 0 .nil) []),(n,some<|aC enc l)] [(j,.ptr<|some (b,0))] [(b,some<|.cells (pre++aw enc l::post).length (Tr.fill (pre++aw enc l::post) 0 .nil) [])] (b+1):=by
 let r:Nat->Nat:=fun k=>if k<b+1\/top<=k then k else max k bw
 have rt:∀k,top<=k->r k=k:=fun k hk=>if_pos<|.inr hk;have rb:r b=b:=if_pos<|.inl ab;have app:∀(fz:kR) (p q p' q':List AV),kK fz r p p'->kK fz r q q'->kK fz r (p++q) (p'++q'):=by
  intro fz p;induction p with
  |nil=>intro q p' q' h1 h2;cases p' with
   |nil=>exact h2
   |cons _ _=>cases h1
  |cons a p ih=>intro q p' q' h1 h2;cases p' with
   |nil=>cases h1
   |cons a' p'=>exact⟨h1.1,ih q p' q' h1.2 h2⟩
 have XY:∀(fz:kR) (p:List AV),oB r p p->kK fz r p p:=by
  intro fz p;induction p with
  |nil=>intro _;trivial
  |cons a p ih=>intro h;exact⟨h.1.z,ih h.2⟩
 refine⟨[(n,nm (l.map enc).flatten,(l.map enc).flatten)],r,fun k hk=>if_pos<|.inl ab,fun k h1 h2=>?_,rt,by omega,fun p hp=>?_,fun p hp=>?_,fun p hp q hq _ _ _=>?_,fun p hp=>?_,fun p hp q hq _=>?_⟩
 ·show bw<=(if _ then _ else _)/\(if _ then _ else _)<top;rw[if_neg ab];omega
 ·rw[List.mem_singleton] at hp;subst hp;exact⟨hj,_,List.mem_singleton.2 rfl,(bg.ptr rb).z⟩
 ·rw[List.mem_singleton] at hp;subst hp;refine⟨by show b<top;omega,fun y hy=>?_⟩;cases hy;refine⟨by rw[rb];omega,rfl,_,by rw[rb];exact List.mem_cons_self,⟨fun _=>rfl,(fun e=>by cases e),fun e=>by cases e⟩,?_⟩;refine fj.cells (by simp only[List.length_append,List.length_cons] at h2 ⊢;exact h2) (app _ _ _ _ _ (XY _ _<|e1 r rt) ⟨Fi (List.mem_singleton.2 rfl) rt hc,XY _ _<|e2 r rt⟩) h1
 ·rw[List.mem_singleton] at hp hq;subst hp;subst hq;rfl
 ·rw[List.mem_singleton] at hp;subst hp;exact Fj he hl n hn<|List.mem_cons_of_mem _ List.mem_cons_self
 ·rw[List.mem_singleton] at hp hq;subst hp;subst hq;show r b≠n;rw[rb];omega
def pb:Nat->Ex->Bool
 |0,_=>false
 |k+1,.mk op n args=>eL (k+1) (.mk op n args)||args.isEmpty
def ru(k:Nat)(args:List AV)(v:AV):Prop:=∃e:Ex,args=[.agg<|aD e]/\pb k e=true/\v= .agg (aD e)
theorem ru.bM(args:List AV)(v v':AV)(h:ru k args v)(h':ru k args v'):v=v':=by obtain⟨e,rfl,_,rfl⟩:=h;obtain⟨e',h1,_,rfl⟩:=h';injection h1 with h1 _
noncomputable def ry(k:Nat):FuncId×KE:=(49,.val<|aP<|ru k)
theorem agZ{op n:Int}(mc:Mt [UK,ry k] B)(o5:ba (aP A6) [.U N 0 0]=some (.U N 0 0)):au pg B 270 (Fin pg (az Tryd.f49) fun y _=>y=(.agg [(u8<|op),(i6 n),(.U N 0 0)])) (sF 49 Tryd.f49 [(.agg [(u8<|op),(i6 n),(.U N 0 0)])])<|ah ar 270:=by exact wS mc (.st 3<|.rg<|.go 2<|.kn (.U N 0 0)<|.go 2<|.en<|.rt 13 .no)<|ai o5<|wk<|.agg [(u8<|op),(i6 n),(.U N 0 0)]
noncomputable abbrev CZ(op n bN n0:Int)(l0:List Ex)(cx n1:Int)(l1:List Ex):List<|Nat×Option ae:=[(271,some<|.cells 3 (Tr.fill [.int .u8 op,.int .i64 n,aw aD [Ex.mk bN n0 l0,Ex.mk cx n1 l1]] 0 .nil) [])]
noncomputable abbrev Jh(op n bN n0:Int)(l0:List Ex)(cx n1:Int)(l1:List Ex):List<|Nat×Option ae:=[(271,some<|.cells 3 (Tr.fill [(u8<|op),(i6 n),(.slice (some (273,0)) (2)<|.aq 2 3)] 0 .nil) []),(273,some<|aC aD [Ex.mk bN n0 l0,Ex.mk cx n1 l1])]
theorem ag0{op n cx:Int}{l0:List Ex}:(([(2,(.ptr<|some (271,0)))]:List<|Nat×AV).map (fun q=>some q.2)=([(2,(.ptr<|some (271,0)))]:List<|Nat×AV).map (fun q=>some q.2))/\(((Jh op n bN n0 l0 cx n1 l1):List<|Nat×Option ae).map (fun q=>q.2)=((Jh op n bN n0 l0 cx n1 l1):List<|Nat×Option ae).map (fun q=>q.2))/\hJ FU 270 276 [(2,(.ptr<|some (271,0)))] (Jh op n bN n0 l0 cx n1 l1) [(2,(.ptr<|some (271,0)))] (CZ op n bN n0 l0 cx n1 l1) 272/\((⟨49,aE [(2,(.ptr<|some (271,0)))],max Tryd.f49.ntmps 1,(cO 49 [1,1,1,1]),[],none⟩:AF)=⟨49,aE [(2,(.ptr<|some (271,0)))],max Tryd.f49.ntmps 1,(cO 49 [1,1,1,1]),[],none⟩/\ah (CZ op n bN n0 l0 cx n1 l1) 272=ah (CZ op n bN n0 l0 cx n1 l1) 272):=⟨rfl,rfl,afs kF (b:=271) (n:=273) (j:=2) (bw:=276) [Ex.mk bN n0 l0,Ex.mk cx n1 l1] [.int .u8 op,.int .i64 n] [] (by simp only[List.length_cons,List.length_nil];unfold top;omega) ab ab dZ dZ dZ (fun r _=>⟨bg.int _ _,bg.int _ _,trivial⟩) (fun r _=>trivial) rfl (by show 3<=top;unfold top;omega) rfl,rfl,rfl⟩
theorem ag1(mc:Mt [ry k] B){op n cx:Int}{l0:List Ex}:au pg B 270 (Fin pg (az Tryd.f49) fun y _=>y=(.agg [.int .u8 op,.int .i64 n,aw aD [Ex.mk bN n0 l0,Ex.mk cx n1 l1]])) ⟨49,aE [(2,(.ptr<|some (271,0)))],max Tryd.f49.ntmps 1,(cO 49 [1,1,1,1]),[],none⟩<|ah (CZ op n bN n0 l0 cx n1 l1) 272:=by exact wS mc (.rt 1 .no)<|wk<|.agg [.int .u8 op,.int .i64 n,aw aD [Ex.mk bN n0 l0,Ex.mk cx n1 l1]]
theorem go_cp(mc:Mt [ry k] B){op n cx:Int}{l0:List Ex}(hn:top<=N)(hf:cv FU N 0 (2*3)=some ([Ex.mk bN n0 l0,Ex.mk cx n1 l1].map aD).flatten)(jk:ba (aP<|ru k) [(.agg [(u8<|bN),(i6 n0),(.U (nm<|cH l0) 0 l0.length)])]=some (.agg [(u8<|bN),(i6 n0),(.U (nm<|cH l0) 0 l0.length)]))(jG:ba (aP<|ru k) [(.agg [(u8<|cx),(i6 n1),(.U (nm<|cH l1) 0 l1.length)])]=some (.agg [(u8<|cx),(i6 n1),(.U (nm<|cH l1) 0 l1.length)])):au pg B 270 (Fin pg (az Tryd.f49) fun y _=>y=(.agg [.int .u8 op,.int .i64 n,aw aD [Ex.mk bN n0 l0,Ex.mk cx n1 l1]])) (sF 49 Tryd.f49 [(.agg [(u8<|op),(i6 n),(.U N 0 2)])])<|ah ar 270:=by exact wC mc (C:=(fun fr s1 _=>fr=⟨49,aE [(2,(.ptr<|some (271,0)))],max Tryd.f49.ntmps 1,(cO 49 [1,1,1,1]),[],none⟩/\s1=ah (CZ op n bN n0 l0 cx n1 l1) 272)) (fun fr s1 p hC=>by obtain⟨rfl,rfl⟩:=hC;exact ag1 mc) (.st 3<|.rg<|.go 2<|.il<|.st 8<|.rg<|.go 2<|.al Ex aD [] [Ex.mk bN n0 l0,Ex.mk cx n1 l1]<|.go 1<|.en<|.rt 1<|.go 2<|.en<|.st 14<|.rg<|.go 4<|.kn (.agg [(u8<|bN),(i6 n0),(.U (nm<|cH l0) 0 l0.length)])<|.go 2<|.en<|.st 12<|.rg<|.go 4<|.kn (.agg [(u8<|cx),(i6 n1),(.U (nm<|cH l1) 0 l1.length)])<|.go 2<|.en<|.st 10<|.rn [(2,(.ptr<|some (271,0)))] (Jh op n bN n0 l0 cx n1 l1) [(2,(.ptr<|some (271,0)))] (CZ op n bN n0 l0 cx n1 l1) 276 272 .no)<|G5 aD [] [Ex.mk bN n0 l0,Ex.mk cx n1 l1] (K:=3) (nj:=40) ⟨hn,hf,rfl⟩ (fun x=>⟨kF.len x,Td x⟩) (by show 2*(0+2)*40+4096*40<=room;unfold room;omega) (by show(0+2)*3<=top;unfold top;omega)<|ai jk<|ai jG<|ag0 (op:=op) (n:=n) (bN:=bN) (n0:=n0) (cx:=cx) (n1:=n1) (l0:=l0) (l1:=l1)
end Gx
end
section
open Go Go.Rn Go.RowKit Go.Proofs
namespace JT
open ch cG cQ di dj fT vL vJ xG Gx
variable {k:Nat} {e:Ex}
theorem Oj(h:eL k e=true):pb k e=true:=by
 cases k with
 |zero=>cases h
 |succ k=>obtain⟨op,n,l⟩:=e;show(eL (k+1) (.mk op n l)||l.isEmpty)=true;rw[h];rfl
theorem adP{op n:Int}{l:List Ex}(h:pb (k+1) (.mk op n l)=true):l=[]\/∃a b,l=[a,b]/\eL k a=true/\eL k b=true:=by
 have h:(eL (k+1) (.mk op n l)||l.isEmpty)=true:=h;rw[Bool.or_eq_true] at h;rcases h with h|h
 ·exact S9 h
 ·exact .inl<|List.isEmpty_iff.1 h
theorem CQ(hw:pb k e=true):ba (aP<|ru k) [.agg<|aD e]=some (.agg<|aD e):=eP (eK ru.bM ⟨e,rfl,hw,rfl⟩) rD<|Bf e
theorem NT(l:List Ex):AV.U (nm<|cH l) 0 l.length=aw aD l:=by rw[Cs];rfl
theorem aaZ{l:List Ex}(h:l.length<=100000):ba (aP A6) [.U (nm<|cH l) 0 l.length]=some (aw aD l):=by rw[NT];exact eP (eK A6.bM ⟨_,0,l,rfl,dv.aw kF l,h,rfl⟩) (by rw[List.all_cons,show AV.hi (aw aD l)=true from aL.2<|cF _];rfl)<|aL.2<|cF _
theorem M9(hP:bS pg):∀(k:Nat) {L:bO},aY L->aY (ry k::L)
 |0,L,h=>by refine gP hP h dc Tryd.func49 fun args v e=>?_;obtain⟨_,_,hw,_⟩:=fV e;cases hw
 |k+1,L,h=>by
  refine acb hP gU rf jR jj h Tryd.func49 (body:=aR pg 49 []) aW aW fun args v e=>?_;obtain⟨⟨op,n,l⟩,rfl,hw,rfl⟩:=fV e;refine⟨aL.1 aW,?_⟩;rcases adP hw with rfl|⟨a,b,rfl,w0,w1⟩
  ·refine⟨_,aaf hP<|M9 hP k dc,fun B mc=>?_⟩;rw[←ij,aD];exact agZ mc (by have:=aaZ (l:=[]) (by show(0:Nat)<=100000;omega);rw[←NT] at this;exact this)
  ·refine⟨_,M9 hP k dc,fun B mc=>?_⟩;obtain⟨bN,n0,l0⟩:=a;obtain⟨cx,n1,l1⟩:=b;rw[←ij,aD];have c0:=CQ<|Oj w0;have c1:=CQ<|Oj w1;rw[aD] at c0 c1;have hf:cv FU (nm<|cH [Ex.mk bN n0 l0,.mk cx n1 l1]) 0 (2*3)=some ([Ex.mk bN n0 l0,.mk cx n1 l1].map aD).flatten:=by
    rcases Fh (K:=3) kF.len (dv.aw kF [Ex.mk bN n0 l0,.mk cx n1 l1]) with q|q
    ·rw[Cs];exact q
    ·cases q
   have key:=go_cp (op:=op) (n:=n) mc (cF _) hf c0 c1;rw[←NT] at key;exact key
end JT
end
section
open Go Go.Rn Go.RowKit Go.Proofs
namespace iq
open ch cG cQ di eX fO dj fT vL vJ xG rr Gx JT
variable {k N L K:Nat} {B:aJ} {to ob oa nb na kd i:Int} {lb la:List Ex} {el bd W:List St} {v x:AV} {α:Type} {r:Nat->Nat} {enc:α->List AV}
noncomputable section
theorem TW:∀p∈ar,∀y,p.2=some y->y.jP=true:=by
 have h:(ar.all fun p=>I5 p.2)=true:=by kernel_rfl
 intro p hp y hy;have:=List.all_eq_true.1 h p hp;rw[hy] at this;exact this
def pC:Nat->List St->Bool
 |0,_=>false
 |k+1,l=>decide (l.length<=10000)&&l.all fun s=>pb 6 (cR s)&&(pb 6 (iw s)&&(pC k (bF s)&&pC k (bE s)))
theorem aa0(x:St):(aM x).all AV.bR=true:=List.all_eq_true.2 fun y hy=>HR<|List.all_eq_true.1 (mu.gg x) y hy
theorem Ol(hr:∀k,top<=k->r k=k)(h:x.hi=true):bg r x x:=fun ρ v hv=>AV.pB (fun k y hk e=>by rw[hr k hk];exact e) h hv
theorem aa1(h:x.gg=true):x.hi=true:=by have:=CD h;cases x<;>first|exact this|cases h
theorem IH(he:mf K enc)(l:List α)(hl:l.length*K<=top){fz:kR}(hr:∀k,top<=k->r k=k):fj fz r (aC enc l)<|aC enc l:=by
 have hz:∀(m:List AV),m.all AV.gg=true->kK fz r m m:=by
  intro m;induction m with
  |nil=>intro _;trivial
  |cons a m ih=>intro h;rw[List.all_cons,Bool.and_eq_true] at h;exact⟨(Ol hr<|aa1 h.1).z,ih h.2⟩
 exact fj.cells (by rw[he.length];exact hl) (hz _<|he.all l)<|List.all_eq_true.2 fun y hy=>HR<|List.all_eq_true.1 (he.all l) y hy
theorem Wb(he:mf K enc)(W:List α){n bw:Nat}{l0 l:List<|Nat×AV}(hl:W.length*K<=top)(hn:270<=n)(iV:n<top)(hs:bw<top)(h:∀r:Nat->Nat,r 270=n->(∀k,top<=k->r k=k)->∀p∈l,p.1<top/\∃x,(p.1,x)∈l0/\jC [] r x p.2):
 hJ FU 270 bw l0 (ar++[(n,some<|aC enc W)]) l (ar++[(270,some<|aC enc W)]) 271:=by
 let r:Nat->Nat:=fun k=>if k=270 then n else if k<270\/top<=k then k else max k bw
 have r0:r 270=n:=if_pos rfl;have rl:∀k,k<270->r k=k:=fun k hk=>by show(if _ then _ else _)=_;rw[if_neg ab,if_pos<|.inl hk]
 have t0:270<top:=by unfold top;omega
 have rt:∀k,top<=k->r k=k:=fun k hk=>by show(if _ then _ else _)=_;rw[if_neg ab,if_pos<|.inr hk]
 have Eo:∀p∈ar,p.1<270:=fun p hp=>by obtain⟨k,hk,e⟩:=List.mem_map.1 hp;rw[←e];exact jj k hk
 refine⟨[],r,rl,fun k h1 h2=>?_,rt,by unfold top;omega,h r r0 rt,fun p hp=>?_,fun p hp q hq _ _ e=>?_,fun p hp=>nM,fun p hp=>nM⟩
 ·show bw<=(if _ then _ else _)/\(if _ then _ else _)<top;rw[if_neg ab,if_neg ab];omega
 ·rcases List.mem_append.1 hp with hp|hp
  ·have bZ:=Eo p hp;refine⟨by omega,fun y hy=>?_⟩;rw[rl _ bZ];refine⟨by omega,?_,y,?_,fK.refl _,(E9 (nx:=270) rl bY p hp y hy).z⟩
   ·exact TW p hp y hy
   ·refine List.mem_append_left _ ?_;rw[←hy];exact hp
  ·rw[List.mem_singleton] at hp;subst hp;refine⟨t0,fun y hy=>?_⟩;cases hy;refine⟨by rw[r0];exact iV,rfl,_,by rw[r0];exact List.mem_append_right _<|List.mem_singleton.2 rfl,fK.refl _,IH he W hl rt⟩
 ·have nm:∀p∈ar++[(270,some<|aC enc W)],p.1<270\/p.1=270:=fun p hp=>by
   rcases List.mem_append.1 hp with hp|hp
   ·exact .inl<|Eo p hp
   ·rw[List.mem_singleton] at hp;subst hp;exact .inr rfl
  rcases nm p hp with a|a<;>rcases nm q hq with b|b
  ·rw[rl _ a,rl _ b] at e;exact e
  ·rw[b,r0,rl _ a] at e;omega
  ·rw[a,r0,rl _ b] at e;omega
  ·rw[a,b]
def qc(k:Nat)(args:List AV)(v:AV):Prop:=∃l:List St,args=[.U (nm<|bx l) 0 l.length]/\pC k l=true/\v= .U (nm<|bx l) 0 l.length
theorem qc.bM(args:List AV)(v v':AV)(h:qc k args v)(h':qc k args v'):v=v':=by obtain⟨l,rfl,_,rfl⟩:=h;obtain⟨l',h1,_,rfl⟩:=h';injection h1 with h1 _
def ov(k:Nat):FuncId×KE:=(25,.val<|aP<|qc k)
def Kk(N L:Nat):List<|Nat×AV:=[(3,(.slice none 0<|.known 0)),(6,(.U N 0 L)),(7,(i6<|(L:Int))),(8,i0)]
def DS(N L:Nat):AF:=⟨25,aE<|Kk N L,max Tryd.f25.ntmps 1,[.code<|aR pg 25 [1,1,0,1,0,0],.inLoop<|aR pg 25 [1,1,0,1,0,0],.inBlock 0,.code<|aR pg 25 [1,1,1]],[],none⟩
def BB(N L:Nat)(W:List St)(i:Int):List<|Nat×AV:=[(3,(.slice (some (270,0)) (W.length)<|.aq W.length 10)),(6,(.U N 0 L)),(7,(i6<|(L:Int))),(8,(i6 i))]
def tU(N L:Nat)(W:List St)(i:Int):AF:=⟨25,aE<|BB N L W i,max Tryd.f25.ntmps 1,[.code<|aR pg 25 [1,1,0,1,0,0],.inLoop<|aR pg 25 [1,1,0,1,0,0],.inBlock 0,.code<|aR pg 25 [1,1,1]],[],none⟩
theorem ain(N L:Nat):((Kk N L).map (fun q=>some q.2)=(Kk N L).map (fun q=>some q.2))/\(ar.map (fun q=>q.2)=ar.map (fun q=>q.2))/\(DS N L=DS N L/\ah ar 270=ah ar 270):=⟨rfl,rfl,rfl,rfl⟩
theorem go_c(mc:Mt [ry 6,ov k] B)(H:au pg B 270 (Fin pg (az Tryd.f25) fun y _=>y=v) (DS N L)<|ah ar 270):au pg B 270 (Fin pg (az Tryd.f25) fun y _=>y=v) (sF 25 Tryd.f25 [(.U N 0 L)])<|ah ar 270:=by exact wC mc (C:=(fun fr s1 _=>fr=DS N L/\s1=ah ar 270)) mQ (.st 9<|.ls (Kk N L) ar 270 .no)<|ain N L
noncomputable abbrev Ji(N L:Nat):List<|Nat×AV:=[(3,(.slice (some (272,0)) (1)<|.aq 1 10)),(6,(.U N 0 L)),(7,(i6<|(L:Int))),(8,(i6<|.ofNat 1))]
noncomputable abbrev C0(kd to oa na:Int)(la:List Ex)(ob nb:Int)(lb:List Ex)(bd el:List St):List<|Nat×Option ae:=ar++[(270,some<|aC aM<|[(St.mk kd to (Ex.mk oa na la) (Ex.mk ob nb lb) bd el)])]
theorem aip(hn:top<=N)(hW:[(St.mk kd to (Ex.mk oa na la) (Ex.mk ob nb lb) bd el)].length<=20000):(((Ji N L):List<|Nat×AV).map (fun q=>some q.2)=((Ji N L):List<|Nat×AV).map (fun q=>some q.2))/\((ar++[(272,some<|aC aM [(St.mk kd to (Ex.mk oa na la) (Ex.mk ob nb lb) bd el)])]:List<|Nat×Option ae).map (fun q=>q.2)=(ar++[(272,some<|aC aM [(St.mk kd to (Ex.mk oa na la) (Ex.mk ob nb lb) bd el)])]:List<|Nat×Option ae).map (fun q=>q.2))/\hJ FU 270 273 (Ji N L) (ar++[(272,some<|aC aM [(St.mk kd to (Ex.mk oa na la) (Ex.mk ob nb lb) bd el)])]) (BB N L ([(St.mk kd to (Ex.mk oa na la) (Ex.mk ob nb lb) bd el)]) 1) (C0 kd to oa na la ob nb lb bd el) 271/\(tU N L ([(St.mk kd to (Ex.mk oa na la) (Ex.mk ob nb lb) bd el)]) 1=tU N L ([(St.mk kd to (Ex.mk oa na la) (Ex.mk ob nb lb) bd el)]) 1/\ah (C0 kd to oa na la ob nb lb bd el) 271=ah (C0 kd to oa na la ob nb lb bd el) 271):=
 ⟨rfl,rfl,Wb mu [(St.mk kd to (Ex.mk oa na la) (Ex.mk ob nb lb) bd el)] (n:=272) (bw:=273) dZ ab dZ dZ (fun r r0 r2 p hp=>by
  simp only[BB,List.mem_cons,List.not_mem_nil,or_false] at hp;rcases hp with rfl|rfl|rfl|rfl
  ·exact⟨by unfold top;omega,_,List.mem_cons_self,(bg.slice r0).z⟩
  ·exact⟨by unfold top;omega,_,(List.mem_cons_of_mem _ List.mem_cons_self),(bg.U (r2 _ hn) r2).z⟩
  ·exact⟨by unfold top;omega,_,(List.mem_cons_of_mem _<|List.mem_cons_of_mem _ List.mem_cons_self),(bg.int _ _).z⟩
  ·exact⟨by unfold top;omega,_,(List.mem_cons_of_mem _<|List.mem_cons_of_mem _<|List.mem_cons_of_mem _ List.mem_cons_self),(bg.int _ _).z⟩),rfl,rfl⟩
noncomputable abbrev Jj(kd to oa na:Int)(la:List Ex)(ob nb:Int)(lb:List Ex)(bd el:List St):List AV:=[(u8<|kd),(i6 to),(u8<|oa),(i6 na),(.U (nm<|cH la) 0 la.length),(u8<|ob),(i6 nb),(.U (nm<|cH lb) 0 lb.length),(.U (nm<|bx bd) 0 bd.length),(.U (nm<|bx el) 0 el.length)]
noncomputable abbrev C1(oa na:Int)(la:List Ex):AV:=.agg [(u8<|oa),(i6 na),(.U (nm<|cH la) 0 la.length)]
noncomputable abbrev C2(ob nb:Int)(lb:List Ex):AV:=.agg [(u8<|ob),(i6 nb),(.U (nm<|cH lb) 0 lb.length)]
theorem aiq(mc:Mt [ry 6,ov k] B)(hn:top<=N)(hL:L<=10000)(hx:cv FU N (0+(0:Int).toNat*10+0) 10=some (Jj kd to oa na la ob nb lb bd el))(hA:ba (aP<|ru 6) [(C1 oa na la)]=some (C1 oa na la))(hB:ba (aP<|ru 6) [(C2 ob nb lb)]=some (C2 ob nb lb))(hD:ba (aP<|qc k) [(.U (nm<|bx bd) 0 bd.length)]=some (.U (nm<|bx bd) 0 bd.length))(hE:ba (aP<|qc k) [(.U (nm<|bx el) 0 el.length)]=some (.U (nm<|bx el) 0 el.length))(hW:[(St.mk kd to (Ex.mk oa na la) (Ex.mk ob nb lb) bd el)].length<=20000)(h1:(0:Int)<(L:Int))(H:au pg B 270 (Fin pg (az Tryd.f25) fun y _=>y=v) (tU N L ([(St.mk kd to (Ex.mk oa na la) (Ex.mk ob nb lb) bd el)]) 1)<|ah (C0 kd to oa na la ob nb lb bd el) 271):au pg B 270 (Fin pg (az Tryd.f25) fun y _=>y=v) (DS N L)<|ah ar 270:=by exact wC mc (C:=(fun fr s1 _=>fr=tU N L ([(St.mk kd to (Ex.mk oa na la) (Ex.mk ob nb lb) bd el)]) 1/\s1=ah (C0 kd to oa na la ob nb lb bd el) 271)) mQ (.st 1<|.rg<|.fk (.en<|.st 6<|.rg<|.eB<|.eC (Jj kd to oa na la ob nb lb bd el)<|.go 2<|.en<|.st 1<|.rg<|.go 2<|.kn (C1 oa na la)<|.go 2<|.kn (C2 ob nb lb)<|.go 2<|.kn (.U (nm<|bx bd) 0 bd.length)<|.go 2<|.kn (.U (nm<|bx el) 0 el.length)<|.go 8<|.en<|.st 4<|.rn (Ji N L) (ar++[(272,(some<|aC aM [(St.mk kd to (Ex.mk oa na la) (Ex.mk ob nb lb) bd el)]))]) (BB N L ([(St.mk kd to (Ex.mk oa na la) (Ex.mk ob nb lb) bd el)]) 1) (C0 kd to oa na la ob nb lb bd el) 273 271 .no)<|.no)<|aT ((0:Int)<(L:Int)) (fun _=>(dS (0:Int) (L:Int)<|ai hn<|ai hx<|ai hA<|ai hB<|ai hD<|ai hE<|aip (N:=N) (L:=L) (kd:=kd) (to:=to) (oa:=oa) (na:=na) (la:=la) (ob:=ob) (nb:=nb) (lb:=lb) (bd:=bd) (el:=el) hn hW)) fZ
noncomputable abbrev Jk(W:List St)(kd to oa na:Int)(la:List Ex)(ob nb:Int)(lb:List Ex)(bd el:List St)(N L:Nat)(i:Int):List<|Nat×AV:=[(3,(.slice (some (273,0)) ((W++[(St.mk kd to (Ex.mk oa na la) (Ex.mk ob nb lb) bd el)]).length)<|.aq (W++[(St.mk kd to (Ex.mk oa na la) (Ex.mk ob nb lb) bd el)]).length 10)),(6,(.U N 0 L)),(7,(i6<|(L:Int))),(8,(i6<|(i+1)))]
noncomputable abbrev C3(W:List St)(kd to oa na:Int)(la:List Ex)(ob nb:Int)(lb:List Ex)(bd el:List St):List<|Nat×Option ae:=ar++[(270,some<|aC aM<|W++[(St.mk kd to (Ex.mk oa na la) (Ex.mk ob nb lb) bd el)])]
theorem air(hn:top<=N)(hW:(W++[(St.mk kd to (Ex.mk oa na la) (Ex.mk ob nb lb) bd el)]).length<=20000):(((Jk W kd to oa na la ob nb lb bd el N L i):List<|Nat×AV).map (fun q=>some q.2)=((Jk W kd to oa na la ob nb lb bd el N L i):List<|Nat×AV).map (fun q=>some q.2))/\((ar++[(273,some<|aC aM<|W++[(St.mk kd to (Ex.mk oa na la) (Ex.mk ob nb lb) bd el)])]:List<|Nat×Option ae).map (fun q=>q.2)=(ar++[(273,some<|aC aM<|W++[(St.mk kd to (Ex.mk oa na la) (Ex.mk ob nb lb) bd el)])]:List<|Nat×Option ae).map (fun q=>q.2))/\hJ FU 270 274 (Jk W kd to oa na la ob nb lb bd el N L i) (ar++[(273,some<|aC aM<|W++[(St.mk kd to (Ex.mk oa na la) (Ex.mk ob nb lb) bd el)])]) (BB N L (W++[(St.mk kd to (Ex.mk oa na la) (Ex.mk ob nb lb) bd el)])<|i+1) (C3 W kd to oa na la ob nb lb bd el) 271/\(tU N L (W++[(St.mk kd to (Ex.mk oa na la) (Ex.mk ob nb lb) bd el)]) (i+1)=tU N L (W++[(St.mk kd to (Ex.mk oa na la) (Ex.mk ob nb lb) bd el)]) (i+1)/\ah (C3 W kd to oa na la ob nb lb bd el) 271=ah (C3 W kd to oa na la ob nb lb bd el) 271):=
 ⟨rfl,rfl,Wb mu (W++[(St.mk kd to (Ex.mk oa na la) (Ex.mk ob nb lb) bd el)]) (n:=273) (bw:=274) dZ ab dZ dZ (fun r r0 r2 p hp=>by
  simp only[BB,List.mem_cons,List.not_mem_nil,or_false] at hp;rcases hp with rfl|rfl|rfl|rfl
  ·exact⟨by unfold top;omega,_,List.mem_cons_self,(bg.slice r0).z⟩
  ·exact⟨by unfold top;omega,_,(List.mem_cons_of_mem _ List.mem_cons_self),(bg.U (r2 _ hn) r2).z⟩
  ·exact⟨by unfold top;omega,_,(List.mem_cons_of_mem _<|List.mem_cons_of_mem _ List.mem_cons_self),(bg.int _ _).z⟩
  ·exact⟨by unfold top;omega,_,(List.mem_cons_of_mem _<|List.mem_cons_of_mem _<|List.mem_cons_of_mem _ List.mem_cons_self),(bg.int _ _).z⟩),rfl,rfl⟩
theorem ais(mc:Mt [ry 6,ov k] B)(hn:top<=N)(hi:0<=i)(hL:L<=10000)(hx:cv FU N (0+i.toNat*10+0) 10=some (Jj kd to oa na la ob nb lb bd el))(hA:ba (aP<|ru 6) [(C1 oa na la)]=some (C1 oa na la))(hB:ba (aP<|ru 6) [(C2 ob nb lb)]=some (C2 ob nb lb))(hD:ba (aP<|qc k) [(.U (nm<|bx bd) 0 bd.length)]=some (.U (nm<|bx bd) 0 bd.length))(hE:ba (aP<|qc k) [(.U (nm<|bx el) 0 el.length)]=some (.U (nm<|bx el) 0 el.length))(hW:(W++[(St.mk kd to (Ex.mk oa na la) (Ex.mk ob nb lb) bd el)]).length<=20000)(h1:i<(L:Int))(H:au pg B 270 (Fin pg (az Tryd.f25) fun y _=>y=v) (tU N L (W++[(St.mk kd to (Ex.mk oa na la) (Ex.mk ob nb lb) bd el)])<|i+1)<|ah (C3 W kd to oa na la ob nb lb bd el) 271):au pg B 270 (Fin pg (az Tryd.f25) fun y _=>y=v) (tU N L W i)<|ah (ar++[(270,some<|aC aM W)]) 271:=by exact wC mc (C:=(fun fr s1 _=>fr=tU N L (W++[(St.mk kd to (Ex.mk oa na la) (Ex.mk ob nb lb) bd el)]) (i+1)/\s1=ah (C3 W kd to oa na la ob nb lb bd el) 271)) mQ (.st 1<|.rg<|.fk (.en<|.st 6<|.rg<|.eB<|.eC (Jj kd to oa na la ob nb lb bd el)<|.go 2<|.en<|.st 1<|.rg<|.go 2<|.kn (C1 oa na la)<|.go 2<|.kn (C2 ob nb lb)<|.go 2<|.kn (.U (nm<|bx bd) 0 bd.length)<|.go 2<|.kn (.U (nm<|bx el) 0 el.length)<|.go 8<|.en<|.rg<|.go 3<|.ap St aM W (St.mk kd to (Ex.mk oa na la) (Ex.mk ob nb lb) bd el)<|.go 1<|.en<|.st 1<|.rg<|.vl (i6<|i+1)<|.go 1<|.en<|.st 1<|.rn (Jk W kd to oa na la ob nb lb bd el N L i) (ar++[(273,(some<|aC aM<|W++[(St.mk kd to (Ex.mk oa na la) (Ex.mk ob nb lb) bd el)]))]) (BB N L (W++[(St.mk kd to (Ex.mk oa na la) (Ex.mk ob nb lb) bd el)])<|i+1) (C3 W kd to oa na la ob nb lb bd el) 274 271 .no)<|.no)<|aT (i<(L:Int)) (fun _=>(dS i (L:Int)<|ai hn<|ai hx<|ai hA<|ai hB<|ai hD<|ai hE<|Qy aM W (St.mk kd to (Ex.mk oa na la) (Ex.mk ob nb lb) bd el) (K:=10) (nj:=144) (fun x=>⟨mu.len x,aa0 x⟩) (by rw[List.length_append] at hW;unfold room;omega) (by rw[List.length_append] at hW;unfold top;omega)<|ai (wI<|i+1)<|air (N:=N) (L:=L) (W:=W) (i:=i) (kd:=kd) (to:=to) (oa:=oa) (na:=na) (la:=la) (ob:=ob) (nb:=nb) (lb:=lb) (bd:=bd) (el:=el) hn hW)) fZ
theorem ait:(([(2,(.slice none 0<|.known 0))]:List<|Nat×AV).map (fun q=>some q.2)=([(2,(.slice none 0<|.known 0))]:List<|Nat×AV).map (fun q=>some q.2))/\(([]:List<|Nat×Option ae).map (fun q=>q.2)=([]:List<|Nat×Option ae).map (fun q=>q.2))/\hJ FU 270 270 [(2,(.slice none 0<|.known 0))] [] [(2,aw aM ([]:List St))] [] 270/\((⟨25,aE [(2,aw aM ([]:List St))],max Tryd.f25.ntmps 1,(cO 25 [1,1,1,1]),[],none⟩:AF)=⟨25,aE [(2,aw aM ([]:List St))],max Tryd.f25.ntmps 1,(cO 25 [1,1,1,1]),[],none⟩/\ah [] 270=ah [] 270):=⟨rfl,rfl,(Oi (enc:=aM) (j:=2) (bw:=270) dZ dZ),rfl,rfl⟩
theorem aiu(mc:Mt [ry 6,ov k] B):au pg B 270 (Fin pg (az Tryd.f25) fun y _=>y=(aw aM ([]:List St))) ⟨25,aE [(2,aw aM ([]:List St))],max Tryd.f25.ntmps 1,(cO 25 [1,1,1,1]),[],none⟩<|ah [] 270:=by exact wS mc (.rt 1 .no)<|wk<|aw aM ([]:List St)
theorem aiv(mc:Mt [ry 6,ov k] B)(h1:(L:Int)<=0):au pg B 270 (Fin pg (az Tryd.f25) fun y _=>y=(aw aM ([]:List St))) (DS N L)<|ah ar 270:=by exact wC mc (C:=(fun fr s1 _=>fr=⟨25,aE [(2,aw aM ([]:List St))],max Tryd.f25.ntmps 1,(cO 25 [1,1,1,1]),[],none⟩/\s1=ah [] 270)) (fun fr s1 p hC=>by obtain⟨rfl,rfl⟩:=hC;exact aiu mc) (.st 1<|.rg<|.fk (.no)<|.en<|.st 5<|.rn [(2,(.slice none 0<|.known 0))] [] [(2,aw aM ([]:List St))] [] 270 270 .no)<|aT ((0:Int)<(L:Int)) fZ fun _=>(ait)
theorem aiw(W:List St)(hW:W.length<=20000):(([(2,(.slice (some (270,0)) (W.length)<|.aq W.length 10))]:List<|Nat×AV).map (fun q=>some q.2)=([(2,(.slice (some (270,0)) (W.length)<|.aq W.length 10))]:List<|Nat×AV).map (fun q=>some q.2))/\(([(270,some<|aC aM W)]:List<|Nat×Option ae).map (fun q=>q.2)=([(270,some<|aC aM W)]:List<|Nat×Option ae).map (fun q=>q.2))/\hJ FU 270 271 [(2,(.slice (some (270,0)) (W.length)<|.aq W.length 10))] [(270,some<|aC aM W)] [(2,aw aM W)] [] 270/\((⟨25,aE [(2,aw aM W)],max Tryd.f25.ntmps 1,(cO 25 [1,1,1,1]),[],none⟩:AF)=⟨25,aE [(2,aw aM W)],max Tryd.f25.ntmps 1,(cO 25 [1,1,1,1]),[],none⟩/\ah [] 270=ah [] 270):=⟨rfl,rfl,(Je (j:=2) (n:=270) (bw:=271) mu W rfl dZ dZ dZ dZ),rfl,rfl⟩
theorem aix(mc:Mt [ry 6,ov k] B)(W:List St):au pg B 270 (Fin pg (az Tryd.f25) fun y _=>y=(aw aM W)) ⟨25,aE [(2,aw aM W)],max Tryd.f25.ntmps 1,(cO 25 [1,1,1,1]),[],none⟩<|ah [] 270:=by exact wS mc (.rt 1 .no)<|wk<|aw aM W
theorem aiy(mc:Mt [ry 6,ov k] B)(h1:(L:Int)<=i)(hW:W.length<=20000):au pg B 270 (Fin pg (az Tryd.f25) fun y _=>y=(aw aM W)) (tU N L W i)<|ah (ar++[(270,some<|aC aM W)]) 271:=by exact wC mc (C:=(fun fr s1 _=>fr=⟨25,aE [(2,aw aM W)],max Tryd.f25.ntmps 1,(cO 25 [1,1,1,1]),[],none⟩/\s1=ah [] 270)) (fun fr s1 p hC=>by obtain⟨rfl,rfl⟩:=hC;exact aix mc W) (.st 1<|.rg<|.fk (.no)<|.en<|.st 5<|.rn [(2,(.slice (some (270,0)) (W.length)<|.aq W.length 10))] [(270,some<|aC aM W)] [(2,aw aM W)] [] 271 270 .no)<|aT (i<(L:Int)) fZ fun _=>(aiw W hW)
end
end iq
end
section
open Go Go.Rn Go.RowKit Go.Proofs
namespace Pe
open ch cG cQ di eX fO tN dj fT vL vJ xG rr mG Gx JT iq
variable {k:Nat}
theorem UL(l:List St):AV.U (nm<|bx l) 0 l.length=aw aM l:=by rw[uH];rfl
theorem Ik{l:List St}(h:pC k l=true):ba (aP<|qc k) [.U (nm<|bx l) 0 l.length]=some (.U (nm<|bx l) 0 l.length):=eP (eK qc.bM ⟨l,rfl,h,rfl⟩) (by rw[List.all_cons,ri];rfl)<|ri l
theorem aag(hP:bS pg)(h':aY [ry 6,ov k]){L:bO}(h:aY L):aY<|ov (k+1)::L:=by
 refine gP hP h h' Tryd.func25 fun args v e=>?_;obtain⟨l,rfl,hg,rfl⟩:=fV e;refine⟨aL.1 aW,fun B mc=>?_⟩;rw[←ij];have hg:(decide (l.length<=10000)&&l.all fun s=>pb 6 (cR s)&&(pb 6 (iw s)&&(pC k (bF s)&&pC k (bE s))))=true:=hg;rw[Bool.and_eq_true,decide_eq_true_eq,List.all_eq_true] at hg;obtain⟨hlen,hd⟩:=hg;have pM:∀s∈l,pb 6 (cR s)=true/\pb 6 (iw s)=true/\pC k (bF s)=true/\pC k (bE s)=true:=fun s hs=>by have:=hd s hs;rw[Bool.and_eq_true,Bool.and_eq_true,Bool.and_eq_true] at this;exact this
 refine go_c mc ?_;cases l with
 |nil=>have:=aiv (N:=nm<|bx []) (L:=0) mc ab;rw[←UL] at this;exact this
 |cons a0 l0=>
  have key:∀(r:List St) (i:Nat),(a0::l0).drop i=r->1<=i->i<=(a0::l0).length->au pg B 270 (Fin pg (az Tryd.f25) fun y _=>y= .U (nm<|bx<|a0::l0) 0 (a0::l0).length) (tU (nm<|bx<|a0::l0) (a0::l0).length ((a0::l0).take i) i) (ah (ar++[(270,some<|aC aM<|(a0::l0).take i)]) 271):=by
   generalize hl:a0::l0=l at*;intro r;induction r with
   |nil=>intro i hr _ hle;have hi:l.length<=i:=List.drop_eq_nil_iff.1 hr;have e:l.take i=l:=List.take_of_length_le hi;rw[e];have:=aiy (N:=nm<|bx l) (L:=l.length) (W:=l) (i:=(i:Int)) mc ab ab;rw[←UL] at this;exact this
   |cons a r ih=>
    intro i hr h1 hle;have bZ:i<l.length:=by
     by_cases q:i<l.length
     ·exact q
     ·rw[List.drop_of_length_le ab] at hr;cases hr
    have ha:l[i]? =some a:=by have:=congrArg (fun q=>q[0]?) hr;simp only[List.getElem?_drop,List.getElem?_cons_zero,Nat.add_zero] at this;exact this
    have hm:a∈l:=List.mem_of_getElem? ha;have j8:l.drop (i+1)=r:=by have:=congrArg (List.drop 1) hr;rw[List.drop_drop] at this;exact this
    have pA:=ih (i+1) j8 ab ab;rw[List.take_add_one,ha] at pA;obtain⟨g1,g2,g3,g4⟩:=pM a hm;have hx:=Fa ha (z:=(i:Int)) ab;obtain⟨kd,to,⟨oa,na,la⟩,⟨ob,nb,lb⟩,bd,el⟩:=a;have cA:=CQ (k:=6) g1;have cB:=CQ (k:=6) g2;have cD:=Ik g3;have cE:=Ik g4;simp only[cR,iw,bF,bE] at cA cB cD cE;rw[aD] at cA cB;rw[aM,aD,aD] at hx;exact ais (i:=(i:Int)) (W:=l.take i) mc (cF _) ab hlen hx cA cB cD cE (by rw[List.length_append,List.length_take];show _+1<=20000;omega) ab pA
  have pA:=key l0 1 rfl ab (by show 1<=l0.length+1;omega);rw[List.take_succ_cons,List.take_zero] at pA;obtain⟨g1,g2,g3,g4⟩:=pM a0 List.mem_cons_self;have hx:=Fa (l:=a0::l0) (i:=0) (a:=a0) rfl (z:=(0:Int)) rfl;obtain⟨kd,to,⟨oa,na,la⟩,⟨ob,nb,lb⟩,bd,el⟩:=a0;have cA:=CQ (k:=6) g1;have cB:=CQ (k:=6) g2;have cD:=Ik g3;have cE:=Ik g4;simp only[cR,iw,bF,bE] at cA cB cD cE;rw[aD] at cA cB;rw[show aM (St.mk kd to (Ex.mk oa na la) (Ex.mk ob nb lb) bd el)=_ from by rw[aM,aD,aD]] at hx;exact aiq mc (cF _) hlen hx cA cB cD cE (by show 1<=20000;omega) (by show(0:Int)<((l0.length+1:Nat):Int);omega) pA
theorem Te(hP:bS pg):∀(k:Nat) {L:bO},aY L->aY (ov k::L)
 |0,L,h=>by refine gP hP h dc Tryd.func25 fun args v e=>?_;obtain⟨_,_,hd,_⟩:=fV e;cases hd
 |k+1,L,h=>aag hP (M9 hP 6<|Te hP k dc) h
end Pe
end
section
open Go Go.Rn Go.RowKit Go.Proofs
namespace PX
open ch fT iq
variable {left:List<|Int×Int} {cur:Option<|AV×AV} {v0 k0:Int}
noncomputable section
def l0:List<|Nat×AV:=[(0,.map<|some 270),(1,.map<|some 271),(6,.map<|some 271),(7,.ptr<|some (272,0))]
def lx(k v:Int):List<|Nat×AV:=[(0,.map<|some 270),(1,.map<|some 271),(4,.int .i64 k),(5,.int .i64 v),(6,.map<|some 271),(7,.ptr<|some (272,0)),(8,.tuple [.bool true,.int .i64 k,.int .i64 v]),(9,.bool true),(10,.tuple [.int .i64 k,.int .i64 v]),(11,.int .i64 k),(12,.int .i64 v),(13,.map<|some 270),(14,.int .i64 k),(15,.int .i64 v)]
def KN:List Item:=[.code<|aR pg 59 [1,0,0,1],.inLoop<|aR pg 59 [1,0,0],.inBlock 0]
def fm(t:Tr AV):AF:=⟨59,t,max Tryd.f59.ntmps 2,.code (aR pg 59 [1,0,0,0])::KN,[],none⟩
def ju(m2 d left:List<|Int×Int)(cur:Option<|AV×AV):AS:=ah (ar++[(270,some<|bz d),(271,some .iA),(272,some<|.iter 271 (cn m2) false (cn left) cur)]) 273
def ur:Oper:=(opsOf<|aR pg 59 [1,0,0,0]).toList.headD default
def tV:Array Oper:=opsOf<|aR pg 59 [1,0,0,0]
def tB:List Oper:=(opsOf<|aR pg 59 [1,0,0,0]).toList.tail
def fF(t:Tr AV)(v:AV)(b:Bool):AF:=⟨59,(t.put 8<|some v).put 9<|some<|.bool b,max Tryd.f59.ntmps 2,KN,[],none⟩
def np:Env:=xX pg 270 dT dG [] 272 true
theorem asks(t:Tr AV):As (fm t)=some (.tmp 7,ur,tV,tB,KN):=by kernel_rfl
theorem ag3{m2 d:List<|Int×Int}:qW (fm<|aE l0) (.tmp 7) (ju m2 d left cur)= .ok (272,.iter 271 (cn m2) false (cn left) cur) (ju m2 d left cur):=by kernel_rfl
theorem Wc{m2 d:List<|Int×Int}{k v:Int}:qW (fm<|aE<|lx k v) (.tmp 7) (ju m2 d left cur)= .ok (272,.iter 271 (cn m2) false (cn left) cur) (ju m2 d left cur):=by kernel_rfl
theorem ag4{m2 d:List<|Int×Int}{YG:aK}:nu pg YG (fm<|aE l0) 272 271 (cn m2) false ur tV tB KN (ju m2 d left cur)= .ok (fF (aE l0) (.tuple [.bool false]) false) (ah (ar++[(270,some<|bz d),(271,some<|bz m2),(272,none)]) 273):=by kernel_rfl
theorem JH{m2 d:List<|Int×Int}{YG:aK}{k v:Int}:nu pg YG (fm<|aE<|lx k v) 272 271 (cn m2) false ur tV tB KN (ju m2 d left cur)= .ok (fF (aE<|lx k v) (.tuple [.bool false]) false) (ah (ar++[(270,some<|bz d),(271,some<|bz m2),(272,none)]) 273):=by kernel_rfl
theorem is0{m2 d r:List<|Int×Int}{YG:aK}{k v:Int}:ny pg YG (fm<|aE l0) 272 (.iter 271 (cn m2) false (cn r)<|some (.int .i64 k,.int .i64 v)) ur tV tB KN (.tuple [.bool true,.int .i64 k,.int .i64 v]) (ju m2 d left cur)= .ok (fF (aE l0) (.tuple [.bool true,.int .i64 k,.int .i64 v]) true) (ju m2 d r<|some (.int .i64 k,.int .i64 v)):=by kernel_rfl
theorem isX{m2 d r:List<|Int×Int}{YG:aK}{k v:Int}:ny pg YG (fm<|aE<|lx k0 v0) 272 (.iter 271 (cn m2) false (cn r)<|some (.int .i64 k,.int .i64 v)) ur tV tB KN (.tuple [.bool true,.int .i64 k,.int .i64 v]) (ju m2 d left cur)= .ok (fF (aE<|lx k0 v0) (.tuple [.bool true,.int .i64 k,.int .i64 v]) true) (ju m2 d r<|some (.int .i64 k,.int .i64 v)):=by kernel_rfl
abbrev FM(m1 m2:List<|Int×Int):=PS 270 pg (az Tryd.f59) m1 m2
theorem Jl:fI<=272:=Nat.le_trans gU ab
theorem WW(m2 d r:List<|Int×Int)(k v:Int)(fr:AF):(some (bz d)=some (bz d))/\(fr=fr/\ju m2 (fM d k v) r (some (.int .i64 k,.int .i64 v))=ju m2 (fM d k v) r (some (.int .i64 k,.int .i64 v))):=⟨rfl,rfl,rfl⟩
section
variable {B:aJ} {m1 m2 d r:List<|Int×Int} {k v:Int}
theorem Pf(mc:Mt [] B)(H:au pg B 272 (FM m1 m2) (fm<|aE<|lx k v)<|ju m2 (fM d k v) r<|some (.int .i64 k,.int .i64 v)):
 au pg B 272 (FM m1 m2) (fF (aE l0) (.tuple [.bool true,.int .i64 k,.int .i64 v]) true) (ju m2 d r<|some (.int .i64 k,.int .i64 v)):=
 wp_cut (E:=np) (C:=fun fr s1 _=>fr=fm (aE<|lx k v)/\s1=ju m2 (fM d k v) r (some (.int .i64 k,.int .i64 v))) eQ rfl bH mc.2.2.1 mc.2.2.2 Jl rfl mc.1 mQ 900 (.st 6<|.rg<|.go 3<|.KS d<|.en<|.st 3<|.cut .no) (WW m2 d r k v<|fm<|aE<|lx k v)
theorem Pg(mc:Mt [] B)(H:au pg B 272 (FM m1 m2) (fm<|aE<|lx k v)<|ju m2 (fM d k v) r<|some (.int .i64 k,.int .i64 v)):
 au pg B 272 (FM m1 m2) (fF (aE<|lx k0 v0) (.tuple [.bool true,.int .i64 k,.int .i64 v]) true) (ju m2 d r<|some (.int .i64 k,.int .i64 v)):=
 wp_cut (E:=np) (C:=fun fr s1 _=>fr=fm (aE<|lx k v)/\s1=ju m2 (fM d k v) r (some (.int .i64 k,.int .i64 v))) eQ rfl bH mc.2.2.1 mc.2.2.2 Jl rfl mc.1 mQ 900 (.st 6<|.rg<|.go 3<|.KS d<|.en<|.st 3<|.cut .no) (WW m2 d r k v<|fm<|aE<|lx k v)
theorem Wd{m1 m2 d:List<|Int×Int}(hk:dU m1)(hp:d.Perm<|fe m1 m2):hJ FU 272 273 [(9,.bool false)] [(270,some<|bz d),(271,some<|bz m2)] [(9,.bool false)] [(270,some<|bz<|fe m1 m2),(271,some<|bz m2)] 272:=by
 let r:Nat->Nat:=fun k=>if k<272\/top<=k then k else max k 273
 have t0:272<top:=by unfold top;omega
 have rl:∀k,k<272->r k=k:=fun k hk=>if_pos<|.inl hk;refine⟨[],r,rl,fun k h1 h2=>?_,fun k hk=>if_pos<|.inr hk,by omega,fun p hp=>?_,fun p hp=>?_,fun p hp q hq _ _ e=>?_,fun p hp=>nM,fun p hp=>nM⟩
 ·show 273<=(if _ then _ else _)/\(if _ then _ else _)<top;rw[if_neg ab];have:273<top:=by unfold top;omega
  omega
 ·rw[List.mem_singleton] at hp;subst hp;exact⟨by show 9<top;omega,_,List.mem_singleton.2 rfl,(bg.bool _).z⟩
 ·rcases List.mem_cons.1 hp with rfl|hp
  ·refine⟨by show 270<top;omega,fun y hy=>?_⟩;cases hy;rw[rl 270 ab];exact⟨by omega,rfl,_,List.mem_cons_self,⟨fun _=>rfl,(fun e=>by cases e),fun e=>by cases e⟩,fun ρ fE N o _ h=>Z3 hk.merge (by assumption) h⟩
  ·rw[List.mem_singleton] at hp;subst hp;refine⟨by show 271<top;omega,fun y hy=>?_⟩;cases hy;rw[rl 271 ab];exact⟨by omega,rfl,_,List.mem_cons_of_mem _ List.mem_cons_self,fK.refl _,fun ρ fE N o _ h=>uL h⟩
 ·rcases List.mem_cons.1 hp with rfl|hp<;>rcases List.mem_cons.1 hq with rfl|hq
  ·rfl
  ·rw[List.mem_singleton] at hq;subst hq;rw[rl _ ab,rl _ ab] at e;exact e
  ·rw[List.mem_singleton] at hp;subst hp;rw[rl _ ab,rl _ ab] at e;exact e
  ·rw[List.mem_singleton] at hp hq;subst hp;subst hq;rfl
def aiz(m1 m2:List<|Int×Int)(s':AS)(y:AV):Prop:=y= .tuple []/\s'.h.get 270=some (bz<|fe m1 m2)/\s'.h.get 271=some (bz m2)
theorem aiA(m1 m2:List<|Int×Int):aiz m1 m2 (ah [(270,some<|bz<|fe m1 m2),(271,some<|bz m2)] 272)<|.tuple []:=⟨rfl,by kernel_rfl,by kernel_rfl⟩
theorem WX(mc:Mt [] B):au pg B 272 (FM m1 m2) ⟨59,aE [(9,.bool false)],max Tryd.f59.ntmps 2,KN,[],none⟩<|ah [(270,some<|bz<|fe m1 m2),(271,some<|bz m2)] 272:=lZ (E:=np) eQ rfl bH mc.2.2.1 mc.2.2.2 900 (.rt 4 .no)<|aiA m1 m2
theorem Ph(mc:Mt [] B)(hk:dU m1)(hp:d.Perm<|fe m1 m2):au pg B 272 (FM m1 m2) (fF (aE l0) (.tuple [.bool false]) false)<|ah (ar++[(270,some<|bz d),(271,some<|bz m2),(272,none)]) 273:=au.rn (l0:=[(9,.bool false)]) (o0:=[(270,some<|bz d),(271,some<|bz m2)]) Jl bY bY (by rw[mc.1];exact Wd hk hp)<|WX mc
theorem Pj(mc:Mt [] B)(hk:dU m1)(hp:d.Perm<|fe m1 m2):au pg B 272 (FM m1 m2) (fF (aE<|lx k0 v0) (.tuple [.bool false]) false)<|ah (ar++[(270,some<|bz d),(271,some<|bz m2),(272,none)]) 273:=au.rn (l0:=[(9,.bool false)]) (o0:=[(270,some<|bz d),(271,some<|bz m2)]) Jl bY bY (by rw[mc.1];exact Wd hk hp)<|WX mc
theorem CU(h:cn left=[]):left=[]:=by cases left with|nil=>rfl|cons _ _=>cases h
theorem ag5(mc:Mt [] B)(hk:dU m1)(K6:dU m2):∀(n:Nat) (left Ep d:List<|Int×Int) (k v:Int) (cur:Option<|AV×AV),left.length=n->m2.Perm (Ep++left)->d=fe m1 Ep->
 au pg B 272 (FM m1 m2) (fm<|aE<|lx k v) (ju m2 d left cur):=by
 intro n;induction n with
 |zero=>intro left Ep d k v cur hn hp hd;have hl:=List.eq_nil_of_length_eq_zero hn;subst hl;refine au.next mc.2.2.1 mc.2.2.2 (asks _) (by show 272<=273;omega) Wc (fun _=>⟨_,_,JH,Pj mc hk ?_⟩) (fun x r h=>by cases h);rw[hd,List.append_nil] at*;exact Z1 hk ((hp.map (·.1)).nodup_iff.1 K6) hp.symm
 |succ n ih=>intro left Ep d k v cur hn hp hd;refine au.next mc.2.2.1 mc.2.2.2 (asks _) (by show 272<=273;omega) Wc (fun h=>by rw[CU h] at hn;cases hn) fun x r h=>?_;obtain⟨p,l',rfl,rfl,B9⟩:=HU h;refine⟨_,_,isX,Pg mc ?_⟩;refine ih l' (Ep++[p]) _ _ _ _ (by have:=B9.length_eq;rw[List.length_cons] at this;omega) ?_ (by rw[Z2,hd]);rw[List.append_assoc];exact hp.trans<|B9.append_left Ep
theorem ag6(mc:Mt [] B)(hk:dU m1)(K6:dU m2):au pg B 272 (FM m1 m2) (fm<|aE l0)<|ju m2 m1 m2 none:=by
 refine au.next mc.2.2.1 mc.2.2.2 (asks _) (by show 272<=273;omega) ag3 (fun h=>⟨_,_,ag4,Ph mc hk ?_⟩) fun x r h=>?_
 ·rw[CU h];exact List.Perm.refl _
 ·obtain⟨p,l',rfl,rfl,B9⟩:=HU h;refine⟨_,_,is0,Pf mc ?_⟩;exact ag5 mc hk K6 l'.length l' [p] _ _ _ _ rfl B9 rfl
end
def yv:FuncId×KE:=(59,.raw wc)
theorem VA(hP:bS pg){L:bO}(h:aY L):aY<|yv::L:=by refine ae3 hP gU (aL.1 aW) jR jj mh lU h dc Tryd.func59 (body:=aR pg 59 []) aW aW fun m1 m2 k1 k2=>?_;refine⟨aL.1 aW,fun B mc=>?_⟩;exact au.chunk (k:=5) (aO:=fm<|aE l0) (s1:=ju m2 m1 m2 none) bH mc.2.2.1 mc.2.2.2 bY (by show 272<=272;omega)<|ag6 mc k1 k2
end
end PX
end
