import Derived.Test.YthbfipeeifofpaaGreatDoorAtGJ
import Derived.Test.YthbfipeeifofpaaGreatDoorRnGH
set_option maxRecDepth 100000
set_option maxHeartbeats 8000000
set_option linter.unusedSimpArgs false
set_option linter.unusedVariables false
section
open Go Go.Rn Go.RowKit Go.Proofs
namespace mA
open ch cG cQ di eX fO tI dj mI
variable {rd:mo} {k:Nat} {K:Cb} {L0:bO}
theorem ZZ(l:List St):Fv (.U (nm<|bx l) 0 l.length)=some l:=by
 unfold Fv;have h:∃l':List St,AV.U (nm<|bx l) 0 l.length= .U (nm<|bx l') 0 l'.length:=⟨l,rfl⟩;rw[dif_pos h];have e:=h.choose_spec;injection e with e1 e2 e3
 exact congrArg some (sf _ _<|sM (lG _) (lG _) e1).symm
theorem Z0{x:AV}{l:List St}(h:Fv x=some l):x= .U (nm<|bx l) 0 l.length:=by
 unfold Fv at h;split at h
 ·rename_i q;injection h with h
  rw[←h];exact q.choose_spec
 ·cases h
theorem Uv(jH:K.s1<top)(kv:K.s2<top)(mH:K.s1≠K.s2)(c d:Nat):(aE [(K.s1,AV.ptr<|some (c,0)),(K.s2,.ptr<|some (d,0))]).get K.s1=some (.ptr<|some (c,0))/\(aE [(K.s1,AV.ptr<|some (c,0)),(K.s2,.ptr<|some (d,0))]).get K.s2=some (.ptr<|some (d,0)):=by
 constructor
 ·show(((Tr.nil:Tr AV).put K.s2 _).put K.s1 _).get K.s1=_;rw[Tr.lH _ _ _ _ jH,if_pos rfl]
 ·show(((Tr.nil:Tr AV).put K.s2 _).put K.s1 _).get K.s2=_;rw[Tr.lH _ _ _ _ jH,if_neg fun e=>mH e.symm,Tr.lH _ _ _ _ kv,if_pos rfl]
structure yk (K:Cb) (L:bO) (rd:mo):Prop where
 s1:K.s1<top
 s2:K.s2<top
 Ef:K.s1≠K.s2
 run:∀s v1 v2 p,rd s v1 v2=some p->okB v1->okB v2->(okB p.v1/\okB p.v2/\(p.ret=true->p.bL=none))/\∃g,aZ pg (sp L) FU 6 (.round 270) [.agg<|aL s] (sE K v1 v2<|aL s)= .ok (.bool p.ret) (sA K p.bL p.v1 p.v2 (aL s) g)
def O3(rd:mo):Prop:=∀s v1 v2 p,rd s v1 v2=some p->okB v1->okB v2->okB p.v1/\okB p.v2/\(p.ret=true->p.bL=none)
theorem Vn{ek:List St->AV->AV->Option fx}{rd:mo}(hr:O3 rd)(he:∀l v1 v2 p,ek l v1 v2=some p->okB v1->okB v2->okB p.v1/\okB p.v2/\(p.ret=true->p.bL=none)):∀l v1 v2 p,kz ek rd l v1 v2=some p->okB v1->okB v2->okB p.v1/\okB p.v2/\(p.ret=true->p.bL=none)
 |[],v1,v2,p,h,o1,o2=>by
  have h:some (⟨true,v1,v2,none⟩:fx)=some p:=h;injection h with h;subst h
  exact⟨o1,o2,fun _=>rfl⟩
 |s::r,v1,v2,p,h,o1,o2=>by
  unfold kz at h;split at h
  ·cases h
  rename_i q e;obtain⟨a1,a2,a3⟩:=hr _ _ _ _ e o1 o2;split at h
  ·injection h with h;subst h;exact⟨a1,a2,a3⟩
  split at h
  ·cases h
  rename_i q2 e2;obtain⟨b1,b2,b3⟩:=he _ _ _ _ e2 a1 a2;split at h
  ·injection h with h;subst h;exact⟨b1,b2,b3⟩
  split at h
  ·cases h
  rename_i q3 e3;obtain⟨c1,c2,c3⟩:=he _ _ _ _ e3 b1 b2;split at h
  ·injection h with h;subst h;exact⟨c1,c2,c3⟩
  exact Vn hr he r _ _ p h c1 c2
theorem MV(hr:O3 rd):∀k l v1 v2 p,fC rd k l v1 v2=some p->okB v1->okB v2->okB p.v1/\okB p.v2/\(p.ret=true->p.bL=none)
 |0,l,v1,v2,p,h,_,_=>by cases h
 |k+1,l,v1,v2,p,h,o1,o2=>by
  unfold fC at h;split at h
  ·exact Vn hr (MV hr k) l v1 v2 p h o1 o2
  ·cases h
theorem Mv{l:List St}{v1 v2:AV}(o1:okB v1)(o2:okB v2):ze rd k (.U (nm<|bx l) 0 l.length) v1 v2=fC rd k l v1 v2:=by unfold ze;rw[ZZ];exact if_pos ⟨o1,o2⟩
theorem rf(l:List St):AV.hi (.U (nm<|bx l) 0 l.length)=true:=aM.2<|cF _
theorem Uw{l:List St}{v1 v2:AV}{p:fx}{c:List AV}{g:Option ae}(jH:K.s1<top)(kv:K.s2<top)(mH:K.s1≠K.s2)(o1:okB v1)(o2:okB v2)(h:fC rd k l v1 v2=some p)(o3:okB p.v1/\okB p.v2):
 aZ pg (sp<|cZ K rd k::L0) FU 6 (.fn 67) [.U (nm<|bx l) 0 l.length,.yield 270] (sA K none v1 v2 c g)= .ok (.bool p.ret) (sA K p.bL p.v1 p.v2 c g):=by
 have ua:sp (cZ K rd k::L0) 67=some (qJ K (ze rd k) 270 dT dF):=by kernel_rfl
 have I:J8 K (sA K none v1 v2 c g) 270 271 272 273 v1 v2:=by
  refine⟨rfl,(aM.1 aV:276<=top),⟨by show 270<276;omega,by show 271<276;omega,by show 272<276;omega,by show 273<276;omega⟩,⟨by omega,by omega,by omega,by omega,by omega,by omega⟩,⟨aE [(K.s1,.ptr<|some (272,0)),(K.s2,.ptr<|some (273,0))],?_,(Uv jH kv mH 272 273).1,(Uv jH kv mH 272 273).2⟩,?_,⟨eH v1,?_,wv _⟩,⟨eH v2,?_,wv _⟩⟩
  ·as_aux_lemma=>kernel_rfl
  ·as_aux_lemma=>kernel_rfl
  ·as_aux_lemma=>kernel_rfl
  ·as_aux_lemma=>kernel_rfl
 have key:=ND (P:=pg) (F:=FU) (n:=5) ua (rf l) bY I ((Mv o1 o2).trans h) o1 o2 o3.1 o3.2;rw[show KP K (sA K none v1 v2 c g) 270 271 272 273 p=sA K p.bL p.v1 p.v2 c g from by as_aux_lemma=>kernel_rfl] at key;exact key
theorem aaN(hP:bR pg)(R:yk K (cZ K rd k::L0) rd)(h':aY<|cZ K rd k::L0){L:bO}(h:aY L):aY<|cZ K rd (k+1)::L:=by
 refine Vi hP gS (aM.1 aV) R.s1 R.s2 R.Ef jQ ji me lQ h h' Tryz.func67 (body:=aS pg 67 []) aV aV fun x v1 v2 p e=>?_;unfold ze at e;split at e
 ·cases e
 rename_i l el;rw[Z0 el];split at e;rotate_left
 ·cases e
 rename_i ok;unfold fC at e;split at e;rotate_left
 ·cases e
 rename_i hlen;have hlen:=of_decide_eq_true hlen;have hg:O3 rd:=fun s a b p e x y=>(R.run s a b p e x y).1;refine⟨aM.1 aV,fun B mc=>?_⟩;show au pg B 274 (rC K 270 pg (az Tryz.f67) p) (sF 67 Tryz.f67 [.U (nm<|bx l) 0 l.length,.yield 270])<|ah (oE K v1 v2) 274;have key:∀(r:List St) (i:Nat) (v1 v2:AV) (p:fx),l.drop i=r->okB v1->okB v2->kz (fC rd k) rd r v1 v2=some p->au pg B 274 (rC K 270 pg (az Tryz.f67) p) (rj (nm<|bx l) l.length i) (ah (oE K v1 v2) 274):=by
  intro r;induction r with
  |nil=>
   intro i v1 v2 p hr _ _ e;have e:some (⟨true,v1,v2,none⟩:fx)=some p:=e;injection e with e;subst e
   exact ae9 mc (by have:l.length<=i:=List.drop_eq_nil_iff.1 hr;omega)
  |cons a r ih=>
   intro i v1 v2 p hr o1 o2 e;have hl:i<l.length:=by
    by_cases q:i<l.length
    ·exact q
    ·rw[List.drop_of_length_le ab] at hr;cases hr
   have ha:l[i]? =some a:=by have:=congrArg (fun q=>q[0]?) hr;simp only[List.getElem?_drop,List.getElem?_cons_zero,Nat.add_zero] at this;exact this
   have j0:l.drop (i+1)=r:=by have:=congrArg (List.drop 1) hr;rw[List.drop_drop] at this;exact this
   have hx:=EY ha (z:=(i:Int)) ab;unfold kz at e;split at e
   ·cases e
   rename_i q eq1;obtain⟨⟨a1,a2,a3⟩,g,run⟩:=R.run _ _ _ _ eq1 o1 o2;obtain⟨kd,to,⟨oa,na,la⟩,⟨ob,nb,lb⟩,bd,el⟩:=a;rw[aL,aC,aC] at hx run;split at e
   ·rename_i qr;injection e with e;subst e
    rw[qr] at run;obtain⟨ret,w1,w2,bL⟩:=q;simp only at qr;subst qr;exact ahQ (u1:=v1) (u2:=v2) (x1:=v1) (x2:=v2) (pf:=⟨true,v1,v2,none⟩) mc (cF _) ab hlen hx run ab
   rename_i qr;rw[qr,a3 qr] at run;split at e
   ·cases e
   rename_i q2 XK;obtain⟨b1,b2,b3⟩:=MV hg _ _ _ _ _ XK a1 a2;have hb:=Uw (K:=K) (L0:=L0) (c:=[(u8<|kd),(i6 to),(u8<|oa),(i6 na),(.U (nm<|cH la) 0 la.length),(u8<|ob),(i6 nb),(.U (nm<|cH lb) 0 lb.length),(.U (nm<|bx bd) 0 bd.length),(.U (nm<|bx el) 0 el.length)]) (g:=g) R.s1 R.s2 R.Ef a1 a2 XK ⟨b1,b2⟩;split at e
   ·rename_i Eg;injection e with e;subst e
    rw[Eg] at hb;obtain⟨alL,u1,u2,alC⟩:=q2;simp only at Eg;subst Eg;exact ahR (x1:=v1) (x2:=v2) (pf:=⟨true,v1,v2,none⟩) mc (cF _) ab hlen hx run hb ab
   rename_i Eg;rw[Eg,b3 Eg] at hb;split at e
   ·cases e
   rename_i q3 XL;obtain⟨c1,c2,c3⟩:=MV hg _ _ _ _ _ XL b1 b2;have ho:=Uw (K:=K) (L0:=L0) (c:=[(u8<|kd),(i6 to),(u8<|oa),(i6 na),(.U (nm<|cH la) 0 la.length),(u8<|ob),(i6 nb),(.U (nm<|cH lb) 0 lb.length),(.U (nm<|bx bd) 0 bd.length),(.U (nm<|bx el) 0 el.length)]) (g:=g) R.s1 R.s2 R.Ef b1 b2 XL ⟨c1,c2⟩;split at e
   ·rename_i Eh;injection e with e;subst e
    rw[Eh] at ho;obtain⟨alM,x1,x2,alD⟩:=q3;simp only at Eh;subst Eh;exact ahS (pf:=⟨true,v1,v2,none⟩) mc (cF _) ab hlen hx run hb ho ab
   rename_i Eh;rw[Eh,c3 Eh] at ho;exact ahT (bL:=none) mc (cF _) ab hlen hx run hb ho ab R.s1 R.s2 R.Ef c1 c2<|ih (i+1) _ _ _ j0 c1 c2 e
 exact af8 mc (cF _) R.s1 R.s2 R.Ef ok.1 ok.2<|key l 0 v1 v2 p List.drop_zero ok.1 ok.2 e
theorem As(hP:bR pg){K:Cb}{rd:mo}{L0:bO}(R:∀k,yk K (cZ K rd k::L0) rd)(h0:aY L0):∀(k:Nat) {L:bO},aY L->aY (cZ K rd k::L)
 |0,L,h=>by
  refine Vi hP gS (aM.1 aV) (R 0).s1 (R 0).s2 (R 0).Ef jQ ji me lQ h dc Tryz.func67 (body:=aS pg 67 []) aV aV fun x v1 v2 p e=>?_;unfold ze at e;split at e
  ·cases e
  split at e
  ·cases e
  ·cases e
 |k+1,L,h=>aaN hP (R k) (As hP R h0 k h0) h
end mA
end
section
open Go Go.Rn Go.RowKit Go.Proofs
namespace tJ
open ch cG cQ di eX fO dj uf mI mA
variable {rd:mo} {k N L kd:Nat} {p:fx} {B:aJ} {v:AV} {n2 n1:Int}
noncomputable section
theorem GS(v:AV)(s:AS):(none:Option Nat)=none/\([]:List Nat)=[]/\(some (v,s):Option<|AV×AS)=some (v,s):=⟨rfl,rfl,rfl⟩
def jK(L:bO):Env:=xS pg 270 dT dF L 270 false
def Ei:Code:=aS pg 48 [1,0,1,0,0]
def B6:Code:=aS pg 48 [1,0,1,0,1]
def KC:Cb:=⟨48,21,[7],Ei,B6,2,3⟩
def sBC(v1 v2:AV)(c:List AV):AS:=⟨((sE KC v1 v2 c).h.put 275<|some<|.cells 10 (Tr.fill c 0 .nil) []).put 270<|some<|.loop .busy none 48 (aE [(2,.ptr<|some (272,0)),(3,.ptr<|some (273,0))]) 21 [7] Ei B6 271,276,0,[],[]⟩
noncomputable abbrev rh(kk to oa na:Int)(Na La:Nat)(ob nb:Int)(Nb Lb Nd ld Ne le:Nat):List AV:=[(u8<|kk),(i6 to),(u8<|oa),(i6 na),(.U Na 0 La),(u8<|ob),(i6 nb),(.U Nb 0 Lb),(.U Nd 0 ld),(.U Ne 0 le)]
theorem af9{Na La Nb Lb Nd ld Ne le:Nat}{kk to oa na ob nb:Int}{ca cb:Int}(h1:0<=n1/\n1<1000000000000)(h2:0<=n2/\n2<1000000000000)(h3:0<=ca/\ca<=1000000)(h4:0<=cb/\cb<=1000000)(hca:bf (aP<|yQ kd) [(.agg [(u8<|oa),(i6 na),(.U Na 0 La)])]=some (.int .i64 ca))(hcb:bf (aP<|yQ kd) [(.agg [(u8<|ob),(i6 nb),(.U Nb 0 Lb)])]=some (.int .i64 cb)):aZ pg (sp<|cZ KC rd k::[pk kd]) FU 6 (.round 270) [.agg<|rh kk to oa na Na La ob nb Nb Lb Nd ld Ne le] (sE KC (i6 n1) (i6 n2)<|rh kk to oa na Na La ob nb Nb Lb Nd ld Ne le)= .ok (.bool true) (sA KC none (i6<|n1+1) (i6<|n2+(ca+cb)) (rh kk to oa na Na La ob nb Nb Lb Nd ld Ne le)<|some<|.cells 10 (Tr.fill (rh kk to oa na Na La ob nb Nb Lb Nd ld Ne le) 0 .nil) []):=Eu (st:=.ready) (bL:=none) (fn:=48) (nt:=21) (d:=271) (t:=(aE [(2,.ptr<|some (272,0)),(3,.ptr<|some (273,0))])) (ps:=[7]) (a:=Ei) (b:=B6) (s0:=sE KC (i6 n1) (i6 n2)<|rh kk to oa na Na La ob nb Nb Lb Nd ld Ne le) bY rfl<|Chunk.ev 2 ⟨48,ju [7] [.agg<|rh kk to oa na Na La ob nb Nb Lb Nd ld Ne le]<|aE [(2,.ptr<|some (272,0)),(3,.ptr<|some (273,0))],21,[.code Ei,.beginRound,.code B6],[],some 270⟩ ⟨48,((ju [7] [.agg<|rh kk to oa na Na La ob nb Nb Lb Nd ld Ne le]<|aE [(2,.ptr<|some (272,0)),(3,.ptr<|some (273,0))]).put 4<|some<|.ptr<|some (275,0)),21,[.code B6],[],some 270⟩ _ (sBC (i6 n1) (i6 n2)<|rh kk to oa na Na La ob nb Nb Lb Nd ld Ne le) bY<|Cz (E:=jK<|cZ KC rd k::[pk kd]) (C:=(fun fr s1 _=>fr.round=none/\fr.defers=[]/\AE pg (aZ pg (sp<|cZ KC rd k::[pk kd]) FU 5) 270 fr s1=some ((.bool true),(sA KC none (i6<|n1+1) (i6<|n2+(ca+cb)) (rh kk to oa na Na La ob nb Nb Lb Nd ld Ne le)<|some<|.cells 10 (Tr.fill (rh kk to oa na Na La ob nb Nb Lb Nd ld Ne le) 0 .nil) [])))) eQ rfl (fun fr s p h=>Et h.1 h.2.1 h.2.2) 900 (.st 2<|.rg<|.go 1<|.vl (i6<|n1+1)<|.go 1<|.en<|.rg<|.go 3<|.kn (i6 ca)<|.go 2<|.kn (i6 cb)<|.vl (i6<|ca+cb)<|.vl (i6<|n2+(ca+cb))<|.go 1<|.en<|.st 1<|.cut .no)<|ai (wI<|n1+1)<|ai hca<|ai hcb<|ai (wI<|ca+cb)<|ai (wI<|n2+(ca+cb))<|GS (.bool true)<|sA KC none (i6<|n1+1) (i6<|n2+(ca+cb)) (rh kk to oa na Na La ob nb Nb Lb Nd ld Ne le)<|some<|.cells 10 (Tr.fill (rh kk to oa na Na La ob nb Nb Lb Nd ld Ne le) 0 .nil) []
def yl(N L:Nat):List<|Nat×AV:=[(2,(.ptr<|some (270,0))),(3,(.ptr<|some (271,0))),(6,(.func (.func 66) [] [(.ptr<|some (272,0))]))]
def rT(v1 v2:AV)(N L:Nat):List<|Nat×Option ae:=ar++[(270,some<|eH v1),(271,some<|eH v2),(272,(some<|.cells 1 (Tr.fill [(.U N 0 L)] 0 .nil) []))]
def ym(v1 v2:AV)(N L:Nat):AS:=ah (rT v1 v2 N L++[(273,some .defs),(274,some<|.loop .ready none 48 (aE<|yl N L) 21 KC.ps Ei B6 273)]) 275
def rU(p:fx)(N L:Nat):AS:=ah (rT p.v1 p.v2 N L++[(273,some .defs),(274,some<|Cb.loop KC p.bL 270 271 273)]) 275
def KV(p:fx)(N L:Nat):AS:=ah (rT p.v1 p.v2 N L++[(273,some .defs),(274,some<|.loop .exhausted p.bL KC.fn (aE [(KC.s1,.ptr<|some (270,0)),(KC.s2,.ptr<|some (271,0))]) KC.nt KC.ps KC.a KC.b 273)]) 275
theorem aga{L0:bO}{v1 v2:AV}{l:List St}(hN:N=nm (bx l))(hl:L=l.length)(o1:okB v1)(o2:okB v2)(h:fC rd k l v1 v2=some p)(o3:okB p.v1/\okB p.v2):
 aZ pg (sp<|cZ KC rd k::L0) FU 5 (.fn 67) [.U N 0 L,.yield 274] (ym v1 v2 N L)= .ok (.bool p.ret) (rU p N L):=by
 subst hN;subst hl;have ua:sp (cZ KC rd k::L0) 67=some (qJ KC (ze rd k) 270 dT dF):=by kernel_rfl
 have I:J8 KC (ym v1 v2 (nm<|bx l) l.length) 274 273 270 271 v1 v2:=by
  refine⟨rfl,(aM.1 aV:275<=top),⟨by show 274<275;omega,by show 273<275;omega,by show 270<275;omega,by show 271<275;omega⟩,⟨by omega,by omega,by omega,by omega,by omega,by omega⟩,⟨aE<|yl (nm<|bx l) l.length,?_,?_,?_⟩,?_,⟨eH v1,?_,wv _⟩,⟨eH v2,?_,wv _⟩⟩
  all_goals (as_aux_lemma=>kernel_rfl)
 have key:=ND (P:=pg) (F:=FU) (n:=4) ua (rf l) bY I ((Mv o1 o2).trans h) o1 o2 o3.1 o3.2;rw[show KP KC (ym v1 v2 (nm<|bx l) l.length) 274 273 270 271 p=rU p (nm<|bx l) l.length from by as_aux_lemma=>kernel_rfl] at key;exact key
theorem ahU{v1 v2:AV}(hE:aZ pg (sp<|cZ KC rd k::[pk kd]) FU 5 (.fn 67) [.U N 0 L,.yield 274] (ym v1 v2 N L)= .ok (.bool p.ret) (rU p N L)):rP (jK<|cZ KC rd k::[pk kd]) 5 (az Tryz.f66) (fun v s=>v= .tuple []/\s=(rU p N L)) (sF 66 Tryz.f66 [.yield 274,.ptr<|some (272,0)])<|ym v1 v2 N L:=by exact FK (C:=fun _ _ _=>False) eQ rfl (fun _ _ _ h=>h.elim) 900 (.rg<|.go 2<|.cu (.bool p.ret) (rU p N L)<|.en<|.rt 1 .no)<|ai hE (show(AV.tuple []=AV.tuple []/\(rU p N L)=(rU p N L)) from⟨rfl,rfl⟩)
theorem alC{v1 v2:AV}(hE:aZ pg (sp<|cZ KC rd k::[pk kd]) FU 5 (.fn 67) [.U N 0 L,.yield 274] (ym v1 v2 N L)= .ok (.bool p.ret) (rU p N L)):aZ pg (sp<|cZ KC rd k::[pk kd]) FU 6 (.fn 66) [.yield 274,.ptr<|some (272,0)] (ym v1 v2 N L)= .ok (.tuple []) (rU p N L):=by obtain⟨v,s2,h1,rfl,rfl⟩:=rP.call (E:=jK<|cZ KC rd k::[pk kd]) (n:=5) Tryz.func66 (EV Tryz.func66 bY)<|ahU (v1:=v1) (v2:=v2) hE;exact h1
theorem xw:aS pg 48 [1,0,1,0]= .rangeFunc (.tmp 6) #[7] Ei B6:=by kernel_rfl
def KX:List Item:=[.inBlock 0,.code<|aS pg 48 [1,1]]
def DK(N L:Nat):AF:=⟨48,aE<|yl N L,21,.code (aS pg 48 [1,0,1,0])::KX,[],none⟩
theorem agb:lI 274 (rU p N L)= .ok p.bL (KV p N L):=by
 obtain⟨r,v1,v2,bL⟩:=p;cases bL with
 |none=>as_aux_lemma=>kernel_rfl
 |some c=>as_aux_lemma=>kernel_rfl
theorem rgC{v1 v2:AV}(mc:Mt (cZ KC rd k::[pk kd]) B)(hE:aZ pg (sp<|cZ KC rd k::[pk kd]) FU 5 (.fn 67) [.U N 0 L,.yield 274] (ym v1 v2 N L)= .ok (.bool p.ret) (rU p N L))(H:au pg B 270 (Fin pg (az Tryz.f48) fun y _=>y=v) ⟨48,aE<|yl N L,21,andThen p.bL KX,[273],none⟩<|KV p N L):au pg B 270 (Fin pg (az Tryz.f48) fun y _=>y=v) (DK N L)<|ah (rT v1 v2 N L) 273:=by unfold DK;rw[xw];exact au.chunk bH mc.2.2.1 mc.2.2.2 (H4 (gv:=.func (.func 66) [] [.ptr<|some (272,0)]) (s1:=ah (rT v1 v2 N L++[(273,some .defs)]) 274) (s2:=ym v1 v2 N L) bY bY bY (alC (rd:=rd) (k:=k) (kd:=kd) hE) (show lI 274 (rU p N L)= .ok p.bL (KV p N L) from agb)) (by show 270<=273;omega) H
theorem ahV(N L:Nat):((yl N L).map (fun q=>some q.2)=(yl N L).map (fun q=>some q.2))/\((rT (.int .i64 0) (.int .i64 0) N L).map (fun q=>q.2)=(rT (.int .i64 0) (.int .i64 0) N L).map (fun q=>q.2))/\(DK N L=DK N L/\ah (rT (.int .i64 0) (.int .i64 0) N L) 273=ah (rT (.int .i64 0) (.int .i64 0) N L) 273):=⟨rfl,rfl,rfl,rfl⟩
theorem goC(mc:Mt (cZ KC rd k::[pk kd]) B)(hn:top<=N)(H:au pg B 270 (Fin pg (az Tryz.f48) fun y _=>y=v) (DK N L)<|ah (rT (.int .i64 0) (.int .i64 0) N L) 273):au pg B 270 (Fin pg (az Tryz.f48) fun y _=>y=v) (sF 48 Tryz.f48 [(.U N 0 L)])<|ah ar 270:=by exact wC mc (C:=(fun fr s1 _=>fr=DK N L/\s1=ah (rT (.int .i64 0) (.int .i64 0) N L) 273)) mK (.st 4<|.rg<|.go 1<|.il<|.rt 5<|.en<|.st 1<|.ls (yl N L) (rT (.int .i64 0) (.int .i64 0) N L) 273 .no)<|ahV N L
theorem enC{r:Bool}(mc:Mt (cZ KC rd k::[pk kd]) B):au pg B 270 (Fin pg (az Tryz.f48) fun y _=>y= .tuple [.int .i64 n1,.int .i64 n2]) ⟨48,aE<|yl N L,21,andThen none KX,[273],none⟩<|KV ⟨r,.int .i64 n1,.int .i64 n2,none⟩ N L:=(Mw (l:=273) (k:=8) (fr:=⟨48,aE<|yl N L,21,KX,[],none⟩) bH mc.2.2.1 mc.2.2.2 rfl rfl bY).2.2 (by show 270<=275;omega)
end
end tJ
end
section
open Go Go.Rn Go.RowKit Go.Proofs
namespace rk
open ch cG cQ di eX Bv fO tI dj uf mI mA tJ
variable {kd:Nat} {e:Ex}
noncomputable section
def cR:St->Ex
 | .mk _ _ a _ _ _=>a
def iu:St->Ex
 | .mk _ _ _ b _ _=>b
def O5(kd:Nat)(s:St)(n1 n2:Int):Prop:=(0<=n1/\n1<1000000000000)/\(0<=n2/\n2<1000000000000)/\th kd (cR s)=true/\th kd (iu s)=true/\ll kd (cR s)<=1000000/\ll kd (iu s)<=1000000
open Classical in
def oX(kd:Nat):mo:=fun s v1 v2=>match v1,v2 with
 | .int .i64 n1,.int .i64 n2=>if O5 kd s n1 n2 then some ⟨true,.int .i64<|n1+1,.int .i64<|n2+(lX kd (cR s)+lX kd (iu s)),none⟩ else none
 |_,_=>none
theorem v8(n:Int):okB<|.int .i64 n:=⟨rfl,rfl⟩
theorem TH(h:th kd e=true)(h2:ll kd e<=1000000):0<=lX kd e/\lX kd e<=1000000:=by have:=EK kd e h;unfold lX;split<;>omega
theorem TI(h:th kd e=true)(h2:ll kd e<=1000000):bf (aP<|yQ kd) [.agg<|aC e]=some (i6<|lX kd e):=eP (eK yQ.bM ⟨e,rfl,h,h2,rfl⟩) rA rfl
theorem Ux{s:St}{v1 v2:AV}{p:fx}(h:oX kd s v1 v2=some p):∃n1 n2,v1= .int .i64 n1/\v2= .int .i64 n2/\O5 kd s n1 n2/\p=⟨true,.int .i64<|n1+1,.int .i64<|n2+(lX kd (cR s)+lX kd (iu s)),none⟩:=by
 unfold oX at h;split at h
 ·rename_i n1 n2;split at h
  ·rename_i q;injection h with h
   exact⟨n1,n2,rfl,rfl,q,h.symm⟩
  ·cases h
 ·cases h
theorem ahW(kd k:Nat):yk KC (cZ KC (oX kd) k::[pk kd])<|oX kd:=by refine⟨aM.1 aV,aM.1 aV,(by show(2:Nat)≠3;omega),fun s v1 v2 p h _ _=>?_⟩;obtain⟨n1,n2,rfl,rfl,⟨h1,h2,h3,h4,h5,h6⟩,rfl⟩:=Ux h;refine⟨⟨v8 _,v8 _,fun _=>rfl⟩,some<|.cells 10 (Tr.fill (aL s) 0 .nil) [],?_⟩;have ca:=TI h3 h5;have cb:=TI h4 h6;have na:=TH h3 h5;have nb:=TH h4 h6;obtain⟨kk,to,⟨oa,xa,la⟩,⟨ob,xb,lb⟩,bd,el⟩:=s;simp only[cR,iu] at ca cb na nb ⊢;rw[aL,aC,aC];rw[aC] at ca cb;exact af9 h1 h2 na nb ca cb
def PO(p:fx):Prop:=p.ret=true/\p.bL=none/\∃n1 n2,p.v1= .int .i64 n1/\p.v2= .int .i64 n2
theorem Uy{kd:Nat}{ek:List St->AV->AV->Option fx}(he:∀l n1 n2 p,ek l (.int .i64 n1) (.int .i64 n2)=some p->PO p):∀l n1 n2 p,kz ek (oX kd) l (.int .i64 n1) (.int .i64 n2)=some p->PO p
 |[],n1,n2,p,h=>by
  have h:some (⟨true,.int .i64 n1,.int .i64 n2,none⟩:fx)=some p:=h;injection h with h;subst h
  exact⟨rfl,rfl,_,_,rfl,rfl⟩
 |s::r,n1,n2,p,h=>by
  unfold kz at h;split at h
  ·cases h
  rename_i q e;obtain⟨m1,m2,e1,e2,_,rfl⟩:=Ux e;cases e1;cases e2;simp only at h;split at h
  ·cases h
  rename_i q2 e2;obtain⟨b1,b2,x1,x2,y1,y2⟩:=he _ _ _ _ e2;rw[b1] at h;simp only at h;rw[y1,y2] at h;split at h
  ·cases h
  rename_i q3 e3;obtain⟨c1,c2,x3,x4,y3,y4⟩:=he _ _ _ _ e3;rw[c1] at h;simp only at h;rw[y3,y4] at h;exact Uy he r _ _ p h
theorem S3:∀k l n1 n2 p,fC (oX kd) k l (.int .i64 n1) (.int .i64 n2)=some p->PO p
 |0,_,_,_,_,h=>by cases h
 |k+1,l,n1,n2,p,h=>by
  unfold fC at h;split at h
  ·exact Uy (S3 k) l n1 n2 p h
  ·cases h
def Bw(kd k:Nat)(args:List AV)(v:AV):Prop:=∃(l:List St) (p:fx),args=[.U (nm<|bx l) 0 l.length]/\fC (oX kd) k l (.int .i64 0) (.int .i64 0)=some p/\v= .tuple [p.v1,p.v2]
theorem ado{l l':List St}(h:[AV.U (nm<|bx l) 0 l.length]=[.U (nm<|bx l') 0 l'.length]):l=l':=by
 injection h with h _
 injection h with h1 _ _
 exact sf _ _<|sM (lG _) (lG _) h1
theorem Bw.bM{k:Nat}(args:List AV)(v v':AV)(h:Bw kd k args v)(h':Bw kd k args v'):v=v':=by
 obtain⟨l,p,rfl,a,rfl⟩:=h;obtain⟨l',p',h1,a',rfl⟩:=h';rw[ado h1,a'] at a;injection a with a
 rw[a]
def ly(kd k:Nat):FuncId×KE:=(48,.val<|aP<|Bw kd k)
theorem adp(hP:bR pg)(kd k:Nat){L:bO}(h:aY L):aY<|ly kd k::L:=by refine gO hP h (As hP (fun k=>ahW kd k) (SX hP kd dc) k<|SX hP kd dc) Tryz.func48 fun args v e=>?_;obtain⟨l,p,rfl,he,rfl⟩:=fV e;refine⟨aM.1 aV,fun B mc=>?_⟩;rw[←ib];obtain⟨r1,r2,n1,n2,v1,v2⟩:=S3 k l 0 0 p he;obtain⟨ret,w1,w2,bL⟩:=p;simp only at r1 r2 v1 v2;subst r1;subst r2;subst v1;subst v2;exact goC (rd:=oX kd) (k:=k) (kd:=kd) mc (cF _)<|rgC mc (aga (rd:=oX kd) (k:=k) rfl rfl (v8 _) (v8 _) he ⟨v8 _,v8 _⟩)<|enC mc
end
end rk
end
section
open Go Go.Rn Go.RowKit Go.Proofs
namespace vC
open ch cG cQ di fD eX fO dj uf B5 vB xA mI mA
variable {xb xa to ob oa nb na:Int} {ld Ne Nd Nb Na Lb La:Nat} {B:aJ}
theorem agc{le:Nat}{kk z xa xb:Int}(mc:Mt [v7,vg,ve] B)(ho:bf (aP kq) [.int .u8 kk]=some (.agg [.bool false,.bool false,.bool false,.bool false,.bool false,.bool false])):au pg B 270 (Fin pg (az Tryz.f50) fun y _=>y=(.bool<|decide<|False)) (sF 50 Tryz.f50 [(.agg [(u8<|kk),(i6 to),(u8<|oa),(i6 na),(.U Na 0 La),(u8<|ob),(i6 nb),(.U Nb 0 Lb),(.U Nd 0 ld),(.U Ne 0 le)]),(i6 z)])<|ah ar 270:=by exact wS mc (.st 3<|.rg<|.go 2<|.kn (.agg [(.bool false),(.bool false),(.bool false),(.bool false),(.bool false),(.bool false)])<|.go 2<|.en<|.rt 10 .no)<|ai ho (show AV.bool false= .bool (decide<|False) from by rw[decide_eq_false fun h=>h])
theorem adq:bf (aP kq) [.int .u8 1]=some (.agg [(.bool true),(.bool true),(.bool true),(.bool false),(.bool false),(.bool false)]):=eP (eK kq.bM ⟨1,rfl,by omega,by omega,rfl⟩) (by rfl) rfl
theorem agd{le:Nat}{z:Int}(mc:Mt [v7,vg,ve] B)(ha:bf (aP ox) [(.agg [(u8<|oa),(i6 na),(.U Na 0 La)]),.int .i64 z]=some (.bool<|decide<|xa=1))(hb:bf (aP mT) [(.agg [(u8<|ob),(i6 nb),(.U Nb 0 Lb)])]=some (.bool<|decide<|xb=1)):au pg B 270 (Fin pg (az Tryz.f50) fun y _=>y=(.bool<|decide<|0<=to/\to<8/\xa=1/\xb=1/\ld=0/\le=0)) (sF 50 Tryz.f50 [(.agg [(u8<|.ofNat 1),(i6 to),(u8<|oa),(i6 na),(.U Na 0 La),(u8<|ob),(i6 nb),(.U Nb 0 Lb),(.U Nd 0 ld),(.U Ne 0 le)]),(i6 z)])<|ah ar 270:=by exact wS mc (.st 3<|.rg<|.go 2<|.kn (.agg [(.bool true),(.bool true),(.bool true),(.bool false),(.bool false),(.bool false)])<|.go 2<|.en<|.st 8<|.rg<|.go 2<|.fk (.go 16<|.en<|.rt 4 .no)<|.go 3<|.fk (.go 12<|.en<|.rt 4 .no)<|.go 12<|.en<|.st 4<|.rg<|.go 5<|.il<|.st 7<|.rg<|.go 2<|.kp (xa=1) inferInstance (.go 1<|.en<|.rt 1<|.go 6<|.il<|.st 8<|.rg<|.go 1<|.kp (xb=1) inferInstance (.go 1<|.en<|.rt 1<|.go 8<|.fk (.go 9<|.fk (.go 3<|.en<|.rt 1 .no)<|.go 3<|.en<|.rt 1 .no)<|.go 13<|.en<|.rt 1 .no)<|.go 1<|.en<|.rt 1<|.go 22<|.en<|.rt 1 .no)<|.go 1<|.en<|.rt 1<|.go 29<|.en<|.rt 1 .no)<|ai (adq) Xz
theorem adr:bf (aP kq) [.int .u8 2]=some (.agg [(.bool true),(.bool true),(.bool true),(.bool false),(.bool false),(.bool false)]):=eP (eK kq.bM ⟨2,rfl,by omega,by omega,rfl⟩) (by rfl) rfl
theorem age{le:Nat}{z:Int}(mc:Mt [v7,vg,ve] B)(ha:bf (aP ox) [(.agg [(u8<|oa),(i6 na),(.U Na 0 La)]),.int .i64 z]=some (.bool<|decide<|xa=1))(hb:bf (aP mT) [(.agg [(u8<|ob),(i6 nb),(.U Nb 0 Lb)])]=some (.bool<|decide<|xb=1)):au pg B 270 (Fin pg (az Tryz.f50) fun y _=>y=(.bool<|decide<|0<=to/\to<8/\xa=1/\xb=1/\ld=0/\le=0)) (sF 50 Tryz.f50 [(.agg [(u8<|.ofNat 2),(i6 to),(u8<|oa),(i6 na),(.U Na 0 La),(u8<|ob),(i6 nb),(.U Nb 0 Lb),(.U Nd 0 ld),(.U Ne 0 le)]),(i6 z)])<|ah ar 270:=by exact wS mc (.st 3<|.rg<|.go 2<|.kn (.agg [(.bool true),(.bool true),(.bool true),(.bool false),(.bool false),(.bool false)])<|.go 2<|.en<|.st 8<|.rg<|.go 2<|.fk (.go 16<|.en<|.rt 4 .no)<|.go 3<|.fk (.go 12<|.en<|.rt 4 .no)<|.go 12<|.en<|.st 4<|.rg<|.go 5<|.il<|.st 7<|.rg<|.go 2<|.kp (xa=1) inferInstance (.go 1<|.en<|.rt 1<|.go 6<|.il<|.st 8<|.rg<|.go 1<|.kp (xb=1) inferInstance (.go 1<|.en<|.rt 1<|.go 8<|.fk (.go 9<|.fk (.go 3<|.en<|.rt 1 .no)<|.go 3<|.en<|.rt 1 .no)<|.go 13<|.en<|.rt 1 .no)<|.go 1<|.en<|.rt 1<|.go 22<|.en<|.rt 1 .no)<|.go 1<|.en<|.rt 1<|.go 29<|.en<|.rt 1 .no)<|ai (adr) Xz
theorem ads:bf (aP kq) [.int .u8 3]=some (.agg [(.bool true),(.bool false),(.bool true),(.bool true),(.bool false),(.bool false)]):=eP (eK kq.bM ⟨3,rfl,by omega,by omega,rfl⟩) (by rfl) rfl
theorem agf{le:Nat}{z:Int}(mc:Mt [v7,vg,ve] B)(ha:bf (aP ox) [(.agg [(u8<|oa),(i6 na),(.U Na 0 La)]),.int .i64 z]=some (.bool<|decide<|xa=1))(hb:bf (aP ox) [(.agg [(u8<|ob),(i6 nb),(.U Nb 0 Lb)]),.int .i64 z]=some (.bool<|decide<|xb=1)):au pg B 270 (Fin pg (az Tryz.f50) fun y _=>y=(.bool<|decide<|0<=to/\to<8/\to=0/\xa=1/\xb=1/\ld=0/\le=0)) (sF 50 Tryz.f50 [(.agg [(u8<|.ofNat 3),(i6 to),(u8<|oa),(i6 na),(.U Na 0 La),(u8<|ob),(i6 nb),(.U Nb 0 Lb),(.U Nd 0 ld),(.U Ne 0 le)]),(i6 z)])<|ah ar 270:=by exact wS mc (.st 3<|.rg<|.go 2<|.kn (.agg [(.bool true),(.bool false),(.bool true),(.bool true),(.bool false),(.bool false)])<|.go 2<|.en<|.st 8<|.rg<|.go 2<|.fk (.go 16<|.en<|.rt 4 .no)<|.go 3<|.fk (.go 12<|.en<|.rt 4 .no)<|.go 8<|.fk (.go 3<|.en<|.rt 4 .no)<|.go 3<|.en<|.st 4<|.rg<|.go 5<|.il<|.st 7<|.rg<|.go 2<|.kp (xa=1) inferInstance (.go 1<|.en<|.rt 1<|.go 6<|.il<|.st 7<|.rg<|.go 2<|.kp (xb=1) inferInstance (.go 1<|.en<|.rt 1<|.go 8<|.fk (.go 9<|.fk (.go 3<|.en<|.rt 1 .no)<|.go 3<|.en<|.rt 1 .no)<|.go 13<|.en<|.rt 1 .no)<|.go 1<|.en<|.rt 1<|.go 22<|.en<|.rt 1 .no)<|.go 1<|.en<|.rt 1<|.go 29<|.en<|.rt 1 .no)<|ai (ads) Qt
theorem adt:bf (aP kq) [.int .u8 4]=some (.agg [(.bool true),(.bool false),(.bool true),(.bool false),(.bool true),(.bool true)]):=eP (eK kq.bM ⟨4,rfl,by omega,by omega,rfl⟩) (by rfl) rfl
theorem agh{le:Nat}{z:Int}(mc:Mt [v7,vg,ve] B)(ha:bf (aP ox) [(.agg [(u8<|oa),(i6 na),(.U Na 0 La)]),.int .i64 z]=some (.bool<|decide<|xa=1))(hb:bf (aP mT) [(.agg [(u8<|ob),(i6 nb),(.U Nb 0 Lb)])]=some (.bool<|decide<|xb=1)):au pg B 270 (Fin pg (az Tryz.f50) fun y _=>y=(.bool<|decide<|0<=to/\to<8/\to=0/\xa=1/\xb=1)) (sF 50 Tryz.f50 [(.agg [(u8<|.ofNat 4),(i6 to),(u8<|oa),(i6 na),(.U Na 0 La),(u8<|ob),(i6 nb),(.U Nb 0 Lb),(.U Nd 0 ld),(.U Ne 0 le)]),(i6 z)])<|ah ar 270:=by exact wS mc (.st 3<|.rg<|.go 2<|.kn (.agg [(.bool true),(.bool false),(.bool true),(.bool false),(.bool true),(.bool true)])<|.go 2<|.en<|.st 8<|.rg<|.go 2<|.fk (.go 16<|.en<|.rt 4 .no)<|.go 3<|.fk (.go 12<|.en<|.rt 4 .no)<|.go 8<|.fk (.go 3<|.en<|.rt 4 .no)<|.go 3<|.en<|.st 4<|.rg<|.go 5<|.il<|.st 7<|.rg<|.go 2<|.kp (xa=1) inferInstance (.go 1<|.en<|.rt 1<|.go 6<|.il<|.st 8<|.rg<|.go 1<|.kp (xb=1) inferInstance (.go 1<|.en<|.rt 1<|.go 22<|.en<|.rt 1 .no)<|.go 1<|.en<|.rt 1<|.go 22<|.en<|.rt 1 .no)<|.go 1<|.en<|.rt 1<|.go 29<|.en<|.rt 1 .no)<|ai (adt) XA
theorem adu:bf (aP kq) [.int .u8 5]=some (.agg [(.bool true),(.bool false),(.bool true),(.bool false),(.bool true),(.bool false)]):=eP (eK kq.bM ⟨5,rfl,by omega,by omega,rfl⟩) (by rfl) rfl
theorem agi{le:Nat}{z:Int}(mc:Mt [v7,vg,ve] B)(ha:bf (aP ox) [(.agg [(u8<|oa),(i6 na),(.U Na 0 La)]),.int .i64 z]=some (.bool<|decide<|xa=1))(hb:bf (aP mT) [(.agg [(u8<|ob),(i6 nb),(.U Nb 0 Lb)])]=some (.bool<|decide<|xb=1)):au pg B 270 (Fin pg (az Tryz.f50) fun y _=>y=(.bool<|decide<|0<=to/\to<8/\to=0/\xa=1/\xb=1/\le=0)) (sF 50 Tryz.f50 [(.agg [(u8<|.ofNat 5),(i6 to),(u8<|oa),(i6 na),(.U Na 0 La),(u8<|ob),(i6 nb),(.U Nb 0 Lb),(.U Nd 0 ld),(.U Ne 0 le)]),(i6 z)])<|ah ar 270:=by exact wS mc (.st 3<|.rg<|.go 2<|.kn (.agg [(.bool true),(.bool false),(.bool true),(.bool false),(.bool true),(.bool false)])<|.go 2<|.en<|.st 8<|.rg<|.go 2<|.fk (.go 16<|.en<|.rt 4 .no)<|.go 3<|.fk (.go 12<|.en<|.rt 4 .no)<|.go 8<|.fk (.go 3<|.en<|.rt 4 .no)<|.go 3<|.en<|.st 4<|.rg<|.go 5<|.il<|.st 7<|.rg<|.go 2<|.kp (xa=1) inferInstance (.go 1<|.en<|.rt 1<|.go 6<|.il<|.st 8<|.rg<|.go 1<|.kp (xb=1) inferInstance (.go 1<|.en<|.rt 1<|.go 18<|.fk (.go 3<|.en<|.rt 1 .no)<|.go 3<|.en<|.rt 1 .no)<|.go 1<|.en<|.rt 1<|.go 22<|.en<|.rt 1 .no)<|.go 1<|.en<|.rt 1<|.go 29<|.en<|.rt 1 .no)<|ai (adu)<|aR (to<0) (fun _=>(show AV.bool false= .bool (decide<|0<=to/\to<8/\to=0/\xa=1/\xb=1/\le=0) from by rw[decide_eq_false ab])) fun _=>(aR (to>=8) (fun _=>(show AV.bool false= .bool (decide<|0<=to/\to<8/\to=0/\xa=1/\xb=1/\le=0) from by rw[decide_eq_false ab])) fun _=>(aR (to≠0) (fun _=>(show AV.bool false= .bool (decide<|0<=to/\to<8/\to=0/\xa=1/\xb=1/\le=0) from by rw[decide_eq_false ab])) fun _=>(ai ha<|aR (xa=1) (fun _=>(ai hb<|aR (xb=1) (fun _=>(aR ((le:Int)=0) (fun _=>(show AV.bool true= .bool (decide<|0<=to/\to<8/\to=0/\xa=1/\xb=1/\le=0) from by rw[decide_eq_true ab])) fun _=>(show AV.bool false= .bool (decide<|0<=to/\to<8/\to=0/\xa=1/\xb=1/\le=0) from by rw[decide_eq_false ab]))) fun _=>(show AV.bool false= .bool (decide<|0<=to/\to<8/\to=0/\xa=1/\xb=1/\le=0) from by rw[decide_eq_false ab]))) fun _=>(show AV.bool false= .bool (decide<|0<=to/\to<8/\to=0/\xa=1/\xb=1/\le=0) from by rw[decide_eq_false ab]))))
theorem adv:bf (aP kq) [.int .u8 6]=some (.agg [(.bool true),(.bool false),(.bool false),(.bool false),(.bool false),(.bool false)]):=eP (eK kq.bM ⟨6,rfl,by omega,by omega,rfl⟩) (by rfl) rfl
theorem agj{le:Nat}{z:Int}(mc:Mt [v7,vg,ve] B)(ha:bf (aP mT) [(.agg [(u8<|oa),(i6 na),(.U Na 0 La)])]=some (.bool<|decide<|xa=1))(hb:bf (aP mT) [(.agg [(u8<|ob),(i6 nb),(.U Nb 0 Lb)])]=some (.bool<|decide<|xb=1)):au pg B 270 (Fin pg (az Tryz.f50) fun y _=>y=(.bool<|decide<|0<=to/\to<8/\to=0/\xa=1/\xb=1/\ld=0/\le=0)) (sF 50 Tryz.f50 [(.agg [(u8<|.ofNat 6),(i6 to),(u8<|oa),(i6 na),(.U Na 0 La),(u8<|ob),(i6 nb),(.U Nb 0 Lb),(.U Nd 0 ld),(.U Ne 0 le)]),(i6 z)])<|ah ar 270:=by exact wS mc (.st 3<|.rg<|.go 2<|.kn (.agg [(.bool true),(.bool false),(.bool false),(.bool false),(.bool false),(.bool false)])<|.go 2<|.en<|.st 8<|.rg<|.go 2<|.fk (.go 16<|.en<|.rt 4 .no)<|.go 3<|.fk (.go 12<|.en<|.rt 4 .no)<|.go 8<|.fk (.go 3<|.en<|.rt 4 .no)<|.go 3<|.en<|.st 4<|.rg<|.go 5<|.il<|.st 8<|.rg<|.go 1<|.kp (xa=1) inferInstance (.go 1<|.en<|.rt 1<|.go 6<|.il<|.st 8<|.rg<|.go 1<|.kp (xb=1) inferInstance (.go 1<|.en<|.rt 1<|.go 8<|.fk (.go 9<|.fk (.go 3<|.en<|.rt 1 .no)<|.go 3<|.en<|.rt 1 .no)<|.go 13<|.en<|.rt 1 .no)<|.go 1<|.en<|.rt 1<|.go 22<|.en<|.rt 1 .no)<|.go 1<|.en<|.rt 1<|.go 29<|.en<|.rt 1 .no)<|ai (adv) Qt
theorem adw:bf (aP kq) [.int .u8 7]=some (.agg [(.bool true),(.bool false),(.bool false),(.bool false),(.bool true),(.bool true)]):=eP (eK kq.bM ⟨7,rfl,by omega,by omega,rfl⟩) (by rfl) rfl
theorem agk{le:Nat}{z:Int}(mc:Mt [v7,vg,ve] B)(ha:bf (aP mT) [(.agg [(u8<|oa),(i6 na),(.U Na 0 La)])]=some (.bool<|decide<|xa=1))(hb:bf (aP mT) [(.agg [(u8<|ob),(i6 nb),(.U Nb 0 Lb)])]=some (.bool<|decide<|xb=1)):au pg B 270 (Fin pg (az Tryz.f50) fun y _=>y=(.bool<|decide<|0<=to/\to<8/\to=0/\xa=1/\xb=1)) (sF 50 Tryz.f50 [(.agg [(u8<|.ofNat 7),(i6 to),(u8<|oa),(i6 na),(.U Na 0 La),(u8<|ob),(i6 nb),(.U Nb 0 Lb),(.U Nd 0 ld),(.U Ne 0 le)]),(i6 z)])<|ah ar 270:=by exact wS mc (.st 3<|.rg<|.go 2<|.kn (.agg [(.bool true),(.bool false),(.bool false),(.bool false),(.bool true),(.bool true)])<|.go 2<|.en<|.st 8<|.rg<|.go 2<|.fk (.go 16<|.en<|.rt 4 .no)<|.go 3<|.fk (.go 12<|.en<|.rt 4 .no)<|.go 8<|.fk (.go 3<|.en<|.rt 4 .no)<|.go 3<|.en<|.st 4<|.rg<|.go 5<|.il<|.st 8<|.rg<|.go 1<|.kp (xa=1) inferInstance (.go 1<|.en<|.rt 1<|.go 6<|.il<|.st 8<|.rg<|.go 1<|.kp (xb=1) inferInstance (.go 1<|.en<|.rt 1<|.go 22<|.en<|.rt 1 .no)<|.go 1<|.en<|.rt 1<|.go 22<|.en<|.rt 1 .no)<|.go 1<|.en<|.rt 1<|.go 29<|.en<|.rt 1 .no)<|ai (adw) XA
theorem adx:bf (aP kq) [.int .u8 8]=some (.agg [(.bool true),(.bool false),(.bool true),(.bool false),(.bool false),(.bool false)]):=eP (eK kq.bM ⟨8,rfl,by omega,by omega,rfl⟩) (by rfl) rfl
theorem agl{le:Nat}{z:Int}(mc:Mt [v7,vg,ve] B)(ha:bf (aP ox) [(.agg [(u8<|oa),(i6 na),(.U Na 0 La)]),.int .i64 z]=some (.bool<|decide<|xa=1))(hb:bf (aP mT) [(.agg [(u8<|ob),(i6 nb),(.U Nb 0 Lb)])]=some (.bool<|decide<|xb=1)):au pg B 270 (Fin pg (az Tryz.f50) fun y _=>y=(.bool<|decide<|0<=to/\to<8/\to=0/\xa=1/\xb=1/\ld=0/\le=0)) (sF 50 Tryz.f50 [(.agg [(u8<|.ofNat 8),(i6 to),(u8<|oa),(i6 na),(.U Na 0 La),(u8<|ob),(i6 nb),(.U Nb 0 Lb),(.U Nd 0 ld),(.U Ne 0 le)]),(i6 z)])<|ah ar 270:=by exact wS mc (.st 3<|.rg<|.go 2<|.kn (.agg [(.bool true),(.bool false),(.bool true),(.bool false),(.bool false),(.bool false)])<|.go 2<|.en<|.st 8<|.rg<|.go 2<|.fk (.go 16<|.en<|.rt 4 .no)<|.go 3<|.fk (.go 12<|.en<|.rt 4 .no)<|.go 8<|.fk (.go 3<|.en<|.rt 4 .no)<|.go 3<|.en<|.st 4<|.rg<|.go 5<|.il<|.st 7<|.rg<|.go 2<|.kp (xa=1) inferInstance (.go 1<|.en<|.rt 1<|.go 6<|.il<|.st 8<|.rg<|.go 1<|.kp (xb=1) inferInstance (.go 1<|.en<|.rt 1<|.go 8<|.fk (.go 9<|.fk (.go 3<|.en<|.rt 1 .no)<|.go 3<|.en<|.rt 1 .no)<|.go 13<|.en<|.rt 1 .no)<|.go 1<|.en<|.rt 1<|.go 22<|.en<|.rt 1 .no)<|.go 1<|.en<|.rt 1<|.go 29<|.en<|.rt 1 .no)<|ai (adx) Qt
end vC
end
section
open Go Go.Rn Go.RowKit Go.Proofs
namespace xC
open ch cG cQ di fD eX fO dj uf B5 vB xA iz mI mA rk vC
variable {e:Ex}
def tK(asked:Bool)(e:Ex)(z:Int):Bool:=match asked with
 |true=>Kb e z
 |false=>decide<|Dm e
def zS(l:List Bool)(to:Int)(a b:Ex)(body el:List St)(z:Int):Bool:=match l with
 |[is,t,fa,fb,bo,ot]=>is&&(decide (0<=to/\to<8)&&((t||decide (to=0))&&(tK fa a z&&(tK fb b z&&((bo||decide (body.length=0))&&(ot||decide (el.length=0)))))))
 |_=>false
def mr:St->Int->Bool
 | .mk kind to a b body el,z=>zS (pQ kind) to a b body el z
def zT(args:List AV)(v:AV):Prop:=∃(s:St) (z:Int),args=[.agg<|aL s,.int .i64 z]/\(0<=fB s/\fB s<256)/\v= .bool (mr s z)
theorem zT.bM(args:List AV)(v v':AV)(h:zT args v)(h':zT args v'):v=v':=by obtain⟨e,z,rfl,_,rfl⟩:=h;obtain⟨e',z',h1,_,rfl⟩:=h';simp only[List.cons.injEq,AV.agg.injEq,AV.int.injEq,true_and,_root_.and_true] at h1;rw[Mr _ _ h1.1,h1.2]
noncomputable def lD:FuncId×KE:=(50,.val<|aP zT)
theorem afa{z:Int}:bf (aP ox) [.agg<|aC e,.int .i64 z]=some (.bool<|decide<|bit (Kb e z)=1):=by rw[wP];exact eP (eK ox.bM ⟨e,z,rfl,rfl⟩) rA rfl
theorem ady:bf (aP mT) [.agg<|aC e]=some (.bool<|decide<|bit (decide<|Dm e)=1):=by rw[wP];exact eP (eK mT.bM ⟨e,rfl,rfl⟩) rA rfl
theorem afb{fa:Bool}{z:Int}:match fa with
 |true=>bf (aP ox) [.agg<|aC e,.int .i64 z]=some (.bool<|decide<|bit (tK fa e z)=1)
 |false=>bf (aP mT) [.agg<|aC e]=some (.bool<|decide<|bit (tK fa e z)=1):=by
 cases fa
 ·exact ady
 ·exact afa
theorem afc(hP:bR pg){L:bO}(h:aY L):aY<|lD::L:=by
 refine gO hP h (aeW hP<|ab0 hP<|abX hP dc) Tryz.func50 fun args v e=>?_;obtain⟨⟨kind,to,⟨oa,na,la⟩,⟨ob,nb,lb⟩,bd,el⟩,z,rfl,hk,rfl⟩:=fV e;have hk:0<=kind/\kind<256:=hk;refine⟨aM.1 aV,fun B mc=>?_⟩;rw[←ib];have fit:∀(fa:Bool) (op n:Int) (l:List Ex),match fa with
  |true=>bf (aP ox) [.agg [.int .u8 op,.int .i64 n,.U (nm<|cH l) 0 l.length],.int .i64 z]=some (.bool<|decide<|bit (tK fa (.mk op n l) z)=1)
  |false=>bf (aP mT) [.agg [.int .u8 op,.int .i64 n,.U (nm<|cH l) 0 l.length]]=some (.bool<|decide<|bit (tK fa (.mk op n l) z)=1):=fun fa op n l=>by
  have:=afb (fa:=fa) (e:=.mk op n l) (z:=z);rw[aC] at this;exact this
 have bool:∀(t bo ot A B:Bool),(true&&(decide (0<=to/\to<8)&&((t||decide (to=0))&&(A&&(B&&((bo||decide (bd.length=0))&&(ot||decide (el.length=0))))))))=true↔(0<=to/\to<8)/\(t=true\/to=0)/\bit A=1/\bit B=1/\(bo=true\/bd.length=0)/\(ot=true\/el.length=0):=fun t bo ot A B=>by simp only[Bool.true_and,Bool.and_eq_true,Bool.or_eq_true,decide_eq_true_eq,DJ]
 rw[aL,aC,aC];by_cases hb:1<=kind/\kind<=8
 ·have hs:∀(t fa fb bo ot:Bool),pQ kind=[true,t,fa,fb,bo,ot]->∀(Q:Prop) [Decidable Q],(Q↔(0<=to/\to<8)/\(t=true\/to=0)/\bit (tK fa (.mk oa na la) z)=1/\bit (tK fb (.mk ob nb lb) z)=1/\(bo=true\/bd.length=0)/\(ot=true\/el.length=0))->
   mr (.mk kind to (.mk oa na la) (.mk ob nb lb) bd el) z=decide Q:=fun t fa fb bo ot e Q _ hq=>by
   show zS (pQ kind) to _ _ bd el z=_;rw[e,Bool.eq_iff_iff,decide_eq_true_eq,hq];exact bool t bo ot _ _
  have done:∀(t fa fb bo ot:Bool),pQ kind=[true,t,fa,fb,bo,ot]->∀(Q:Prop) [Decidable Q] {l:List AV} {K:List ResultVar} {nt:Nat} {XM:List Item},(Q↔(0<=to/\to<8)/\(t=true\/to=0)/\bit (tK fa (.mk oa na la) z)=1/\bit (tK fb (.mk ob nb lb) z)=1/\(bo=true\/bd.length=0)/\(ot=true\/el.length=0))->
   au pg B 270 (Fin pg K fun y _=>y= .bool (decide Q)) ⟨50,dt l,nt,XM,[],none⟩ (ah ar 270)->au pg B 270 (Fin pg K fun y _=>y= .bool (mr (.mk kind to (.mk oa na la) (.mk ob nb lb) bd el) z)) ⟨50,dt l,nt,XM,[],none⟩ (ah ar 270):=fun t fa fb bo ot e Q _ _ _ _ _ hq key=>by
   rw[hs t fa fb bo ot e Q hq];exact key
  obtain rfl|rfl|rfl|rfl|rfl|rfl|rfl|rfl:kind=1\/kind=2\/kind=3\/kind=4\/kind=5\/kind=6\/kind=7\/kind=8:=by omega
  ·have key:=agd (to:=to) (z:=z) (Nd:=nm<|bx bd) (Ne:=nm<|bx el) (ld:=bd.length) (le:=el.length) mc (fit true oa na la)<|fit false ob nb lb;exact done true true false false false rfl _ zq key
  ·have key:=age (to:=to) (z:=z) (Nd:=nm<|bx bd) (Ne:=nm<|bx el) (ld:=bd.length) (le:=el.length) mc (fit true oa na la)<|fit false ob nb lb;exact done true true false false false rfl _ zq key
  ·have key:=agf (to:=to) (z:=z) (Nd:=nm<|bx bd) (Ne:=nm<|bx el) (ld:=bd.length) (le:=el.length) mc (fit true oa na la)<|fit true ob nb lb;exact done false true true false false rfl _ zq key
  ·have key:=agh (to:=to) (z:=z) (Nd:=nm<|bx bd) (Ne:=nm<|bx el) (ld:=bd.length) (le:=el.length) mc (fit true oa na la)<|fit false ob nb lb;exact done false true false true true rfl _ zq key
  ·have key:=agi (to:=to) (z:=z) (Nd:=nm<|bx bd) (Ne:=nm<|bx el) (ld:=bd.length) (le:=el.length) mc (fit true oa na la)<|fit false ob nb lb;exact done false true false true false rfl _ zq key
  ·have key:=agj (to:=to) (z:=z) (Nd:=nm<|bx bd) (Ne:=nm<|bx el) (ld:=bd.length) (le:=el.length) mc (fit false oa na la)<|fit false ob nb lb;exact done false false false false false rfl _ zq key
  ·have key:=agk (to:=to) (z:=z) (Nd:=nm<|bx bd) (Ne:=nm<|bx el) (ld:=bd.length) (le:=el.length) mc (fit false oa na la)<|fit false ob nb lb;exact done false false false true true rfl _ zq key
  ·have key:=agl (to:=to) (z:=z) (Nd:=nm<|bx bd) (Ne:=nm<|bx el) (ld:=bd.length) (le:=el.length) mc (fit true oa na la)<|fit false ob nb lb;exact done false true false false false rfl _ zq key
 ·have e0:pQ kind=[false,false,false,false,false,false]:=by
   by_cases h9:9<=kind
   ·unfold pQ;rw[List.getD_eq_getElem?_getD,List.getElem?_eq_none (show KU.length<=kind.toNat by show 9<=kind.toNat;omega)];rfl
   ·obtain rfl:kind=0:=by omega
    rfl
  have ho:bf (aP kq) [.int .u8 kind]=some (.agg [.bool false,.bool false,.bool false,.bool false,.bool false,.bool false]):=by have:=eP (eK kq.bM ⟨kind,rfl,hk.1,hk.2,rfl⟩:aP kq [.int .u8 kind]=_) rfl (by unfold vZ;rw[e0];rfl);rw[this];unfold vZ;rw[e0];rfl
  have key:=agc (to:=to) (z:=z) (xa:=0) (xb:=0) (Na:=nm<|cH la) (La:=la.length) (oa:=oa) (na:=na) (Nb:=nm<|cH lb) (Lb:=lb.length) (ob:=ob) (nb:=nb) (Nd:=nm<|bx bd) (Ne:=nm<|bx el) (ld:=bd.length) (le:=el.length) mc ho;rw[show mr (.mk kind to (.mk oa na la) (.mk ob nb lb) bd el) z=decide False from by show zS (pQ kind) to _ _ bd el z=_;rw[e0];rfl];exact key
end xC
end
section
open Go Go.Rn Go.RowKit Go.Proofs
namespace tL
open ch cG cQ di eX fO iz dj uf mI mA tJ rk xC
variable {rd:mo} {k N L ld Ne Nd Nb Na Lb La:Nat} {c2 c1 to ob oa nb na kd:Int} {p:fx} {B:aJ} {P:Prop} {v:AV}
noncomputable section
def zU:Code:=aS pg 24 [1,1,1,0,1,0,0]
def wa:Code:=aS pg 24 [1,1,1,0,1,0,1]
def KM:Cb:=⟨24,42,[31],zU,wa,3,4⟩
def XN(v1 v2:AV)(c:List AV):AS:=⟨((sE KM v1 v2 c).h.put 275<|some<|.cells 10 (Tr.fill c 0 .nil) []).put 270<|some<|.loop .busy none 24 (aE [(3,.ptr<|some (272,0)),(4,.ptr<|some (273,0))]) 42 [31] zU wa 271,276,0,[],[]⟩
noncomputable abbrev jy(kd to oa na:Int)(Na La:Nat)(ob nb:Int)(Nb Lb Nd ld Ne le:Nat):List AV:=[(u8<|kd),(i6 to),(u8<|oa),(i6 na),(.U Na 0 La),(u8<|ob),(i6 nb),(.U Nb 0 Lb),(.U Nd 0 ld),(.U Ne 0 le)]
theorem aaO{le:Nat}{n:Int}(hs:bf (aP zT) [.agg<|jy kd to oa na Na La ob nb Nb Lb Nd ld Ne le,.int .i64 n]=some (.bool true)):aZ pg (sp<|cZ KM rd k::[lD,jx 60,jB 60,ly 60 60]) FU 6 (.round 270) [.agg<|jy kd to oa na Na La ob nb Nb Lb Nd ld Ne le] (sE KM (i6 n) (.bool false)<|jy kd to oa na Na La ob nb Nb Lb Nd ld Ne le)= .ok (.bool true) (sA KM none (.int .i64 n) (.bool false) (jy kd to oa na Na La ob nb Nb Lb Nd ld Ne le)<|some<|.cells 10 (Tr.fill (jy kd to oa na Na La ob nb Nb Lb Nd ld Ne le) 0 .nil) []):=Eu (st:=.ready) (bL:=none) (fn:=24) (nt:=42) (d:=271) (t:=(aE [(3,.ptr<|some (272,0)),(4,.ptr<|some (273,0))])) (ps:=[31]) (a:=zU) (b:=wa) (s0:=sE KM (i6 n) (.bool false)<|jy kd to oa na Na La ob nb Nb Lb Nd ld Ne le) bY rfl<|Chunk.ev 2 ⟨24,ju [31] [.agg<|jy kd to oa na Na La ob nb Nb Lb Nd ld Ne le]<|aE [(3,.ptr<|some (272,0)),(4,.ptr<|some (273,0))],42,[.code zU,.beginRound,.code wa],[],some 270⟩ ⟨24,((ju [31] [.agg<|jy kd to oa na Na La ob nb Nb Lb Nd ld Ne le]<|aE [(3,.ptr<|some (272,0)),(4,.ptr<|some (273,0))]).put 7<|some<|.ptr<|some (275,0)),42,[.code wa],[],some 270⟩ _ (XN (i6 n) (.bool false)<|jy kd to oa na Na La ob nb Nb Lb Nd ld Ne le) bY<|Cz (E:=jK<|cZ KM rd k::[lD,jx 60,jB 60,ly 60 60]) (C:=(fun fr s1 _=>fr.round=none/\fr.defers=[]/\AE pg (aZ pg (sp<|cZ KM rd k::[lD,jx 60,jB 60,ly 60 60]) FU 5) 270 fr s1=some ((.bool true),(sA KM none (.int .i64 n) (.bool false) (jy kd to oa na Na La ob nb Nb Lb Nd ld Ne le)<|some<|.cells 10 (Tr.fill (jy kd to oa na Na La ob nb Nb Lb Nd ld Ne le) 0 .nil) [])))) eQ rfl (fun fr s p h=>Et h.1 h.2.1 h.2.2) 900 (.st 2<|.rg<|.go 2<|.kn (.bool true)<|.go 1<|.en<|.st 3<|.cut .no)<|ai hs<|GS (.bool true)<|sA KM none (.int .i64 n) (.bool false) (jy kd to oa na Na La ob nb Nb Lb Nd ld Ne le)<|some<|.cells 10 (Tr.fill (jy kd to oa na Na La ob nb Nb Lb Nd ld Ne le) 0 .nil) []
theorem Z2{le:Nat}{n:Int}(hs:bf (aP zT) [.agg<|jy kd to oa na Na La ob nb Nb Lb Nd ld Ne le,.int .i64 n]=some (.bool false)):aZ pg (sp<|cZ KM rd k::[lD,jx 60,jB 60,ly 60 60]) FU 6 (.round 270) [.agg<|jy kd to oa na Na La ob nb Nb Lb Nd ld Ne le] (sE KM (i6 n) (.bool false)<|jy kd to oa na Na La ob nb Nb Lb Nd ld Ne le)= .ok (.bool false) (sA KM (some .ret) (.int .i64 n) (.bool false) (jy kd to oa na Na La ob nb Nb Lb Nd ld Ne le)<|some<|.cells 10 (Tr.fill (jy kd to oa na Na La ob nb Nb Lb Nd ld Ne le) 0 .nil) []):=Eu (st:=.ready) (bL:=none) (fn:=24) (nt:=42) (d:=271) (t:=(aE [(3,.ptr<|some (272,0)),(4,.ptr<|some (273,0))])) (ps:=[31]) (a:=zU) (b:=wa) (s0:=sE KM (i6 n) (.bool false)<|jy kd to oa na Na La ob nb Nb Lb Nd ld Ne le) bY rfl<|Chunk.ev 2 ⟨24,ju [31] [.agg<|jy kd to oa na Na La ob nb Nb Lb Nd ld Ne le]<|aE [(3,.ptr<|some (272,0)),(4,.ptr<|some (273,0))],42,[.code zU,.beginRound,.code wa],[],some 270⟩ ⟨24,((ju [31] [.agg<|jy kd to oa na Na La ob nb Nb Lb Nd ld Ne le]<|aE [(3,.ptr<|some (272,0)),(4,.ptr<|some (273,0))]).put 7<|some<|.ptr<|some (275,0)),42,[.code wa],[],some 270⟩ _ (XN (i6 n) (.bool false)<|jy kd to oa na Na La ob nb Nb Lb Nd ld Ne le) bY<|Cz (E:=jK<|cZ KM rd k::[lD,jx 60,jB 60,ly 60 60]) (C:=(fun fr s1 _=>fr.round=none/\fr.defers=[]/\AE pg (aZ pg (sp<|cZ KM rd k::[lD,jx 60,jB 60,ly 60 60]) FU 5) 270 fr s1=some ((.bool false),(sA KM (some .ret) (.int .i64 n) (.bool false) (jy kd to oa na Na La ob nb Nb Lb Nd ld Ne le)<|some<|.cells 10 (Tr.fill (jy kd to oa na Na La ob nb Nb Lb Nd ld Ne le) 0 .nil) [])))) eQ rfl (fun fr s p h=>Et h.1 h.2.1 h.2.2) 900 (.st 2<|.rg<|.go 2<|.kn (.bool false)<|.go 1<|.en<|.st 3<|.cut .no)<|ai hs<|GS (.bool false)<|sA KM (some .ret) (.int .i64 n) (.bool false) (jy kd to oa na Na La ob nb Nb Lb Nd ld Ne le)<|some<|.cells 10 (Tr.fill (jy kd to oa na Na La ob nb Nb Lb Nd ld Ne le) 0 .nil) []
def kV(N L:Nat)(c1 c2:Int):List<|Nat×AV:=[(3,(.ptr<|some (270,0))),(4,(.ptr<|some (271,0))),(5,(i6 c1)),(6,(i6 c2)),(30,(.func (.func 66) [] [(.ptr<|some (272,0))]))]
def rV(v1 v2:AV)(N L:Nat):List<|Nat×Option ae:=ar++[(270,some<|eH v1),(271,some<|eH v2),(272,(some<|.cells 1 (Tr.fill [(.U N 0 L)] 0 .nil) []))]
def yn(v1 v2:AV)(N L:Nat)(c1 c2:Int):AS:=ah (rV v1 v2 N L++[(273,some .defs),(274,some<|.loop .ready none 24 (aE<|kV N L c1 c2) 42 KM.ps zU wa 273)]) 275
def rW(p:fx)(N L:Nat):AS:=ah (rV p.v1 p.v2 N L++[(273,some .defs),(274,some<|Cb.loop KM p.bL 270 271 273)]) 275
def GU(p:fx)(N L:Nat):AS:=ah (rV p.v1 p.v2 N L++[(273,some .defs),(274,some<|.loop .exhausted p.bL KM.fn (aE [(KM.s1,.ptr<|some (270,0)),(KM.s2,.ptr<|some (271,0))]) KM.nt KM.ps KM.a KM.b 273)]) 275
theorem agm{L0:bO}{v1 v2:AV}{l:List St}(hN:N=nm (bx l))(hl:L=l.length)(o1:okB v1)(o2:okB v2)(h:fC rd k l v1 v2=some p)(o3:okB p.v1/\okB p.v2):
 aZ pg (sp<|cZ KM rd k::L0) FU 5 (.fn 67) [.U N 0 L,.yield 274] (yn v1 v2 N L c1 c2)= .ok (.bool p.ret) (rW p N L):=by
 subst hN;subst hl;have ua:sp (cZ KM rd k::L0) 67=some (qJ KM (ze rd k) 270 dT dF):=by kernel_rfl
 have I:J8 KM (yn v1 v2 (nm<|bx l) l.length c1 c2) 274 273 270 271 v1 v2:=by
  refine⟨rfl,(aM.1 aV:275<=top),⟨by show 274<275;omega,by show 273<275;omega,by show 270<275;omega,by show 271<275;omega⟩,⟨by omega,by omega,by omega,by omega,by omega,by omega⟩,⟨aE<|kV (nm<|bx l) l.length c1 c2,?_,?_,?_⟩,?_,⟨eH v1,?_,wv _⟩,⟨eH v2,?_,wv _⟩⟩
  all_goals (as_aux_lemma=>kernel_rfl)
 have key:=ND (P:=pg) (F:=FU) (n:=4) ua (rf l) bY I ((Mv o1 o2).trans h) o1 o2 o3.1 o3.2;rw[show KP KM (yn v1 v2 (nm<|bx l) l.length c1 c2) 274 273 270 271 p=rW p (nm<|bx l) l.length from by as_aux_lemma=>kernel_rfl] at key;exact key
theorem ahX{v1 v2:AV}(hE:aZ pg (sp<|cZ KM rd k::[lD,jx 60,jB 60,ly 60 60]) FU 5 (.fn 67) [.U N 0 L,.yield 274] (yn v1 v2 N L c1 c2)= .ok (.bool p.ret) (rW p N L)):rP (jK<|cZ KM rd k::[lD,jx 60,jB 60,ly 60 60]) 5 (az Tryz.f66) (fun v s=>v= .tuple []/\s=(rW p N L)) (sF 66 Tryz.f66 [.yield 274,.ptr<|some (272,0)])<|yn v1 v2 N L c1 c2:=by exact FK (C:=fun _ _ _=>False) eQ rfl (fun _ _ _ h=>h.elim) 900 (.rg<|.go 2<|.cu (.bool p.ret) (rW p N L)<|.en<|.rt 1 .no)<|ai hE (show(AV.tuple []=AV.tuple []/\(rW p N L)=(rW p N L)) from⟨rfl,rfl⟩)
theorem alM{v1 v2:AV}(hE:aZ pg (sp<|cZ KM rd k::[lD,jx 60,jB 60,ly 60 60]) FU 5 (.fn 67) [.U N 0 L,.yield 274] (yn v1 v2 N L c1 c2)= .ok (.bool p.ret) (rW p N L)):aZ pg (sp<|cZ KM rd k::[lD,jx 60,jB 60,ly 60 60]) FU 6 (.fn 66) [.yield 274,.ptr<|some (272,0)] (yn v1 v2 N L c1 c2)= .ok (.tuple []) (rW p N L):=by obtain⟨v,s2,h1,rfl,rfl⟩:=rP.call (E:=jK<|cZ KM rd k::[lD,jx 60,jB 60,ly 60 60]) (n:=5) Tryz.func66 (EV Tryz.func66 bY)<|ahX (v1:=v1) (v2:=v2) hE;exact h1
theorem agn:aS pg 24 [1,1,1,0,1,0]= .rangeFunc (.tmp 30) #[31] zU wa:=by kernel_rfl
def GV:List Item:=[.inBlock 0,.code<|aS pg 24 [1,1,1,1]]
def DL(N L:Nat)(c1 c2:Int):AF:=⟨24,aE<|kV N L c1 c2,42,.code (aS pg 24 [1,1,1,0,1,0])::GV,[],none⟩
theorem ago:lI 274 (rW p N L)= .ok p.bL (GU p N L):=by
 obtain⟨r,v1,v2,bL⟩:=p;cases bL with
 |none=>as_aux_lemma=>kernel_rfl
 |some c=>as_aux_lemma=>kernel_rfl
theorem rgM{v1 v2:AV}(mc:Mt (cZ KM rd k::[lD,jx 60,jB 60,ly 60 60]) B)(hE:aZ pg (sp<|cZ KM rd k::[lD,jx 60,jB 60,ly 60 60]) FU 5 (.fn 67) [.U N 0 L,.yield 274] (yn v1 v2 N L c1 c2)= .ok (.bool p.ret) (rW p N L))(H:au pg B 270 (Fin pg (az Tryz.f24) fun y _=>y=v) ⟨24,aE<|kV N L c1 c2,42,andThen p.bL GV,[273],none⟩<|GU p N L):au pg B 270 (Fin pg (az Tryz.f24) fun y _=>y=v) (DL N L c1 c2)<|ah (rV v1 v2 N L) 273:=by unfold DL;rw[agn];exact au.chunk bH mc.2.2.1 mc.2.2.2 (H4 (gv:=.func (.func 66) [] [.ptr<|some (272,0)]) (s1:=ah (rV v1 v2 N L++[(273,some .defs)]) 274) (s2:=yn v1 v2 N L c1 c2) bY bY bY (alM (rd:=rd) (k:=k) hE) (show lI 274 (rW p N L)= .ok p.bL (GU p N L) from ago)) (by show 270<=273;omega) H
theorem ahY{n:Int}(N L:Nat)(c1 c2:Int)(h:P):((kV N L c1 c2).map (fun q=>some q.2)=(kV N L c1 c2).map (fun q=>some q.2))/\((rV (.int .i64 n) (.bool false) N L).map (fun q=>q.2)=(rV (.int .i64 n) (.bool false) N L).map (fun q=>q.2))/\((DL N L c1 c2=DL N L c1 c2/\ah (rV (.int .i64 n) (.bool false) N L) 273=ah (rV (.int .i64 n) (.bool false) N L) 273)/\P):=⟨rfl,rfl,⟨rfl,rfl⟩,h⟩
theorem goM{n dp cs:Int}(mc:Mt (cZ KM rd k::[lD,jx 60,jB 60,ly 60 60]) B)(hn:top<=N)(hD:bf (aP<|sR 60) [(.U N 0 L)]=some (.int .i64 dp))(hC:bf (aP<|ti 60) [(.U N 0 L)]=some (.int .i64 cs))(hN:bf (aP<|Bw 60 60) [(.U N 0 L)]=some (.tuple [.int .i64 c1,.int .i64 c2]))(hf:¬(0<=n/\n<6/\dp<=6/\cs<=2000)->AV.bool false=v)(H:(0<=n/\n<6/\dp<=6/\cs<=2000)->au pg B 270 (Fin pg (az Tryz.f24) fun y _=>y=v) (DL N L c1 c2) (ah (rV (.int .i64 n) (.bool false) N L) 273)):au pg B 270 (Fin pg (az Tryz.f24) fun y _=>y=v) (sF 24 Tryz.f24 [(.U N 0 L),(i6 n)])<|ah ar 270:=by exact wC mc (C:=(fun fr s1 _=>(fr=DL N L c1 c2/\s1=ah (rV (.int .i64 n) (.bool false) N L) 273)/\(0<=n/\n<6/\dp<=6/\cs<=2000))) (fun fr s1 p hC=>by obtain⟨⟨rfl,rfl⟩,hq⟩:=hC;exact H hq) (.st 4<|.rg<|.go 1<|.fk (.go 14<|.en<|.rt 4 .no)<|.go 2<|.fk (.go 11<|.en<|.rt 4 .no)<|.go 3<|.kn (i6 dp)<|.fk (.go 6<|.en<|.rt 4 .no)<|.go 3<|.kn (i6 cs)<|.fk (.go 1<|.en<|.rt 4 .no)<|.go 1<|.en<|.st 3<|.rg<|.go 1<|.kn (.tuple [(i6 c1),(i6 c2)])<|.go 5<|.en<|.st 2<|.rg<|.go 1<|.il<|.rt 5<|.en<|.st 1<|.ls (kV N L c1 c2) (rV (.int .i64 n) (.bool false) N L) 273 .no)<|aR (n<0) (fun _=>(show AV.bool false=v from hf ab)) fun _=>(aR (n>=6) (fun _=>(show AV.bool false=v from hf ab)) fun _=>(ai hD<|aR (dp>6) (fun _=>(show AV.bool false=v from hf ab)) fun _=>(ai hC<|aR (cs>2000) (fun _=>(show AV.bool false=v from hf ab)) fun _=>(ai hN<|ahY (n:=n) N L c1 c2 (show(0<=n/\n<6/\dp<=6/\cs<=2000) from by omega)))))
theorem ahZ{n:Int}(mc:Mt (cZ KM rd k::[lD,jx 60,jB 60,ly 60 60]) B):au pg B 270 (Fin pg (az Tryz.f24) fun y _=>y= .bool false) ⟨24,aE<|kV N L c1 c2,42,andThen (some .ret) GV,[273],none⟩<|GU ⟨false,.int .i64 n,.bool false,some .ret⟩ N L:=(Mw (l:=273) (k:=8) (fr:=⟨24,aE<|kV N L c1 c2,42,.code .ret::GV,[],none⟩) bH mc.2.2.1 mc.2.2.2 rfl rfl bY).2.2 (by show 270<=275;omega)
theorem ah0 [Decidable P](h:P):(none:Option Nat)=none/\([]:List Nat)=[]/\(some (.bool true):Option AV)=some (.bool<|decide P):=⟨rfl,rfl,by rw[decide_eq_true h]⟩
theorem WI [Decidable P](h:¬P):(none:Option Nat)=none/\([]:List Nat)=[]/\(some (.bool false):Option AV)=some (.bool<|decide P):=⟨rfl,rfl,by rw[decide_eq_false h]⟩
theorem ah1{n:Int}(mc:Mt (cZ KM rd k::[lD,jx 60,jB 60,ly 60 60]) B):au pg B 270 (Fin pg (az Tryz.f24) fun y _=>y= .bool (decide<|c1<=40/\c2<=300)) ⟨24,aE<|kV N L c1 c2,42,andThen none GV,[273],none⟩<|GU ⟨true,.int .i64 n,.bool false,none⟩ N L:=by exact adn (E:=jK<|cZ KM rd k::[lD,jx 60,jB 60,ly 60 60]) (C:=(fun fr s1 _=>fr.round=none/\fr.defers=[]/\O4 pg (aZ pg (sp<|cZ KM rd k::[lD,jx 60,jB 60,ly 60 60]) FU 6) (az Tryz.f24) 8 273 fr s1=some (.bool<|decide<|c1<=40/\c2<=300))) eQ rfl bH mc.2.2.1 mc.2.2.2 (fun fr s p h=>Mw bH mc.2.2.1 mc.2.2.2 h.1 h.2.1 h.2.2) (by show 270<=275;omega) 900 (.st 2<|.rg<|.go 1<|.fk (.go 2<|.fk (.go 2<|.en<|.cut .no)<|.go 2<|.en<|.cut .no)<|.go 5<|.en<|.cut .no)<|aR (c1<=40) (fun _=>(aR (c2<=300) (fun _=>(ah0 (show(c1<=40/\c2<=300) from by omega))) fun _=>(WI (show ¬(c1<=40/\c2<=300) from by omega)))) fun _=>(WI (show ¬(c1<=40/\c2<=300) from by omega))
end
end tL
end
section
open Go Go.Rn Go.RowKit Go.Proofs
namespace xD
open ch cG cQ di eX Bv fO tI iz FP dj uf mI mA tJ rk xC tL
noncomputable section
open Classical in
def gw:mo:=fun s v1 v2=>match v1,v2 with
 | .int .i64 n,.bool false=>if 0<=fB s/\fB s<256 then(match mr s n with
  |true=>some ⟨true,.int .i64 n,.bool false,none⟩
  |false=>some ⟨false,.int .i64 n,.bool false,some .ret⟩) else none
 |_,_=>none
abbrev pY(n:Int):fx:=⟨true,.int .i64 n,.bool false,none⟩
abbrev pN(n:Int):fx:=⟨false,.int .i64 n,.bool false,some .ret⟩
theorem NJ{s:St}{v1 v2:AV}{p:fx}(h:gw s v1 v2=some p):∃n,(v1= .int .i64 n/\v2= .bool false/\0<=fB s/\fB s<256)/\p=(if mr s n=true then pY n else pN n):=by
 unfold gw at h;split at h
 ·rename_i n;split at h
  ·rename_i q;refine⟨n,⟨rfl,rfl,q⟩,?_⟩;split at h<;>rename_i e<;>injection h with h<;>rw[e]
   ·rw[if_pos rfl];exact h.symm
   ·rw[if_neg (by intro q;cases q)];exact h.symm
  ·cases h
 ·cases h
theorem okF(b:Bool):okB<|.bool b:=⟨rfl,rfl⟩
theorem agp{s:St}{n:Int}(h:0<=fB s/\fB s<256):bf (aP zT) [.agg<|aL s,.int .i64 n]=some (.bool<|mr s n):=eP (eK zT.bM ⟨s,n,rfl,h,rfl⟩) (by rw[List.all_cons,show AV.hi (.agg<|aL s)=true from List.all_eq_true.2 fun x hx=>Cy<|List.all_eq_true.1 (ml.gf s) x hx];rfl) rfl
theorem ah2(k:Nat):yk KM (cZ KM gw k::[lD,jx 60,jB 60,ly 60 60]) gw:=by
 refine⟨aM.1 aV,aM.1 aV,(by show(3:Nat)≠4;omega),fun s v1 v2 p h _ _=>?_⟩;obtain⟨n,⟨rfl,rfl,hk⟩,rfl⟩:=NJ h;have hs:=agp (n:=n) hk;cases e:mr s n with
 |true=>rw[e] at hs;rw[if_pos rfl];refine⟨⟨v8 _,okF _,fun _=>rfl⟩,some<|.cells 10 (Tr.fill (aL s) 0 .nil) [],?_⟩;obtain⟨kk,to,⟨oa,xa,la⟩,⟨ob,xb,lb⟩,bd,el⟩:=s;rw[aL,aC,aC] at hs ⊢;exact aaO hs
 |false=>rw[e] at hs;rw[if_neg (by intro q;cases q)];refine⟨⟨v8 _,okF _,fun q=>by cases q⟩,some<|.cells 10 (Tr.fill (aL s) 0 .nil) [],?_⟩;obtain⟨kk,to,⟨oa,xa,la⟩,⟨ob,xb,lb⟩,bd,el⟩:=s;rw[aL,aC,aC] at hs ⊢;exact Z2 hs
theorem Uz{n:Int}{ek:List St->AV->AV->Option fx}(he:∀l p,ek l (.int .i64 n) (.bool false)=some p->p=pY n\/p=pN n):∀l p,kz ek gw l (.int .i64 n) (.bool false)=some p->p=pY n\/p=pN n
 |[],p,h=>by
  have h:some (pY n)=some p:=h;injection h with h
  exact .inl h.symm
 |s::r,p,h=>by
  unfold kz at h;split at h
  ·cases h
  rename_i q e;obtain⟨n',⟨fw,_⟩,hq⟩:=NJ e;injection fw with _ fw
  subst fw;cases hs:mr s n with
  |false=>rw[hs,if_neg (by intro q;cases q)] at hq;subst hq;injection h with h;exact .inr h.symm
  |true=>
   rw[hs,if_pos rfl] at hq;subst hq;have h:(match ek (bF s) (.int .i64 n) (.bool false) with
    |none=>none
    |some q=>match q.ret with
     |false=>some q
     |true=>match ek (bE s) q.v1 q.v2 with
      |none=>none
      |some u=>match u.ret with
       |false=>some u
       |true=>kz ek gw r u.v1 u.v2)=some p:=h
   split at h
   ·cases h
   rename_i q2 e2;rcases he _ _ e2 with rfl|rfl
   ·have h:(match ek (bE s) (.int .i64 n) (.bool false) with
     |none=>none
     |some u=>match u.ret with
      |false=>some u
      |true=>kz ek gw r u.v1 u.v2)=some p:=h
    split at h
    ·cases h
    rename_i q3 e3;rcases he _ _ e3 with rfl|rfl
    ·exact Uz he r p h
    ·injection h with h;exact .inr h.symm
   ·injection h with h;exact .inr h.symm
theorem Ah{n:Int}:∀k l p,fC gw k l (.int .i64 n) (.bool false)=some p->p=pY n\/p=pN n
 |0,_,_,h=>by cases h
 |k+1,l,p,h=>by
  unfold fC at h;split at h
  ·exact Uz (Ah k) l p h
  ·cases h
def tM(l:List St)(n:Int)(b:Bool):Prop:=∃(c1 c2:Int) (p:fx),fC (oX 60) 60 l (.int .i64 0) (.int .i64 0)=some ⟨true,.int .i64 c1,.int .i64 c2,none⟩/\fC gw 60 l (.int .i64 n) (.bool false)=some p/\b=(decide (0<=n/\n<6/\fq 60 l<=6/\gg 60 l<=2000)&&(p.ret&&decide (c1<=40/\c2<=300)))
def zf(args:List AV)(v:AV):Prop:=∃(l:List St) (n:Int) (b:Bool),args=[.U (nm<|bx l) 0 l.length,.int .i64 n]/\qi 60 l=true/\ks 60 l=true/\tM l n b/\v= .bool b
theorem zf.bM(args:List AV)(v v':AV)(h:zf args v)(h':zf args v'):v=v':=by
 obtain⟨l,n,b,rfl,_,_,⟨c1,c2,p,a1,a2,a3⟩,rfl⟩:=h;obtain⟨l',n',b',h1,_,_,⟨c1',c2',p',b1,b2,b3⟩,rfl⟩:=h';simp only[List.cons.injEq,AV.U.injEq,AV.int.injEq,true_and,_root_.and_true] at h1;have e:l=l':=sf _ _<|sM (lG _) (lG _) h1.1.1;obtain rfl:=e;obtain rfl:=h1.2;rw[a1] at b1;injection b1 with b1;injection b1 with _ q1 q2 _
 injection q1 with _ q1;injection q2 with _ q2
 rw[a2] at b2;injection b2 with b2
 rw[a3,b3,q1,q2,b2]
def DM:FuncId×KE:=(24,.val<|aP zf)
theorem adz(hP:bR pg){L:bO}(h:aY L):aY<|DM::L:=by
 have h0:aY [lD,jx 60,jB 60,ly 60 60]:=afc hP<|SY hP 60<|TG hP 60<|adp hP 60 60 dc;refine gO hP h (As hP ah2 h0 60 h0) Tryz.func24 fun args v e=>?_;obtain⟨l,n,b,rfl,hd,hc,⟨c1,c2,p,e1,e2,hb⟩,rfl⟩:=fV e;refine⟨aM.1 aV,fun B mc=>?_⟩;rw[←ib];have hi:[AV.U (nm<|bx l) 0 l.length].all AV.hi=true:=by rw[List.all_cons,rf];rfl
 have hD:=eP (eK sR.bM ⟨l,rfl,hd,by omega,rfl⟩:aP (sR 60) [.U (nm<|bx l) 0 l.length]=_) hi rfl;have hC:=eP (eK ti.bM ⟨l,rfl,hc,rfl⟩:aP (ti 60) [.U (nm<|bx l) 0 l.length]=_) hi rfl;have hN:=eP (eK Bw.bM ⟨l,_,rfl,e1,rfl⟩:aP (Bw 60 60) [.U (nm<|bx l) 0 l.length]=_) hi rfl;refine goM (rd:=gw) (k:=60) mc (cF _) hD hC hN (fun hq=>?_) fun hq=>?_
 ·rw[hb,decide_eq_false hq];rfl
 ·have ok:okB p.v1/\okB p.v2:=by rcases Ah 60 l p e2 with rfl|rfl<;>exact⟨v8 _,okF _⟩
  refine rgM (rd:=gw) (k:=60) (p:=p) mc (agm (c1:=c1) (c2:=c2) rfl rfl (v8 _) (okF _) e2 ok) ?_;rw[hb,decide_eq_true hq];rcases Ah 60 l p e2 with rfl|rfl
  ·exact ah1 mc
  ·exact ahZ mc
end
end xD
end
section
open Go Go.Rn Go.RowKit Go.Proofs
namespace fT
open ch
variable {α:Type} {bw j K:Nat} {enc:α->List AV} {cap:bW}
theorem GW(enc:α->List AV)(l L:List α){nf n o len:Nat}{X:Prop}(hf:top<=n/\cr FU n o (len*K)=some (L.map enc).flatten/\len=L.length)(h1:∀x,(enc x).length=K/\(enc x).all AV.bQ=true)(h2:2*(l.length+L.length)*nf+4096*nf<=room)(h3:(l.length+L.length)*K<=Rn.top)(x:X):
 l.length=l.length/\some (aA enc l)=some (aA enc l)/\top<=n/\cr FU n o (len*K)=some (L.map enc).flatten/\len=L.length/\(∀x,(enc x).length=K/\(enc x).all AV.bQ=true)/\2*(l.length+L.length)*nf+4096*nf<=room/\(l.length+L.length)*K<=Rn.top/\X:=
 ⟨rfl,rfl,hf.1,hf.2.1,hf.2.2,h1,h2,h3,x⟩
def Bx(bw k:Nat):Nat:=if k<270\/top<=k then k else max k bw
theorem H6{k:Nat}(h:top<=k):Bx bw k=k:=if_pos<|.inr h
theorem I5(he:l9 K enc)(l:List α){n:Nat}(hc:(match cap with| .known c=>Nat.ble l.length c| .aq _ _=>true| .lost=>false)=true)(hl:l.length*K<=top)(hj:j<top)(hn:n<top)(hs:bw<top):hI FU 270 bw [(j,.slice (some (n,0)) l.length cap)] [(n,some<|aA enc l)] [(j,ax enc l)] [] 270:=by
 refine⟨[(n,nm (l.map enc).flatten,(l.map enc).flatten)],Bx bw,fun k hk=>if_pos<|.inl hk,fun k h1 h2=>?_,fun k hk=>H6 hk,by unfold top;decide,fun p hp=>?_,fun p hp=>nH,fun p hp=>nH,fun p hp=>?_,fun p _ q hq=>(by cases hq)⟩
 ·unfold Bx;rw[if_neg ab];omega
 ·rw[List.mem_singleton] at hp;subst hp;exact⟨hj,_,List.mem_singleton.2 rfl,Fa (List.mem_singleton.2 rfl) (fun k hk=>H6 hk) hc⟩
 ·rw[List.mem_singleton] at hp;subst hp;exact Fb he hl n hn<|List.mem_singleton.2 rfl
theorem Oa(hj:j<top)(hs:bw<top):hI FU 270 bw [(j,.slice none 0<|.known 0)] [] [(j,ax enc [])] [] 270:=by
 refine⟨[],Bx bw,fun k hk=>if_pos<|.inl hk,fun k h1 h2=>?_,fun k hk=>H6 hk,by unfold top;decide,fun p hp=>?_,fun p hp=>nH,fun p hp=>nH,fun p hp=>nH,fun p hp=>nH⟩
 ·unfold Bx;rw[if_neg ab];omega
 ·rw[List.mem_singleton] at hp;subst hp;exact⟨hj,_,List.mem_singleton.2 rfl,It⟩
theorem TJ{n:Nat}(hj:j<top)(hs:bw<top):hI FU 270 bw [(j,.slice (some (n,0)) 0 cap)] [] [(j,ax enc [])] [] 270:=by
 refine⟨[],Bx bw,fun k hk=>if_pos<|.inl hk,fun k h1 h2=>?_,fun k hk=>H6 hk,by unfold top;decide,fun p hp=>?_,fun p hp=>nH,fun p hp=>nH,fun p hp=>nH,fun p hp=>nH⟩
 ·unfold Bx;rw[if_neg ab];omega
 ·rw[List.mem_singleton] at hp;subst hp;exact⟨hj,_,List.mem_singleton.2 rfl,aaD⟩
end fT
end
section
open Go Go.Rn Go.RowKit Go.Proofs
namespace vD
open ch cG cQ di dj fT
variable {B:aJ} {o N:Nat} {L:bO}
noncomputable section
theorem wc(v:AV):v=v:=rfl
theorem S4(x:Ex):(aC x).all AV.bQ=true:=by cases x;rw[aC];rfl
theorem agq:(([(2,(.slice none 0<|.known 0))]:List<|Nat×AV).map (fun q=>some q.2)=([(2,(.slice none 0<|.known 0))]:List<|Nat×AV).map (fun q=>some q.2))/\(([]:List<|Nat×Option ae).map (fun q=>q.2)=([]:List<|Nat×Option ae).map (fun q=>q.2))/\hI FU 270 270 [(2,(.slice none 0<|.known 0))] [] [(2,ax encI ([]:List Int))] [] 270/\((⟨23,aE [(2,ax encI ([]:List Int))],max Tryz.f23.ntmps 1,[.code<|aS pg 23 [1,0,1,0,1],.code<|aS pg 23 [1,1]],[],none⟩:AF)=⟨23,aE [(2,ax encI ([]:List Int))],max Tryz.f23.ntmps 1,[.code<|aS pg 23 [1,0,1,0,1],.code<|aS pg 23 [1,1]],[],none⟩/\ah [] 270=ah [] 270):=⟨rfl,rfl,(Oa (enc:=encI) (j:=2) (bw:=270) dZ dZ),rfl,rfl⟩
theorem agr(mc:Mt [] B):au pg B 270 (Fin pg (az Tryz.f23) fun y _=>y=(ax encI ([]:List Int))) ⟨23,aE [(2,ax encI ([]:List Int))],max Tryz.f23.ntmps 1,[.code<|aS pg 23 [1,0,1,0,1],.code<|aS pg 23 [1,1]],[],none⟩<|ah [] 270:=by exact wS mc (.rt 1 .no)<|wc<|ax encI ([]:List Int)
theorem go_In(mc:Mt [] B):au pg B 270 (Fin pg (az Tryz.f23) fun y _=>y=(ax encI ([]:List Int))) (sF 23 Tryz.f23 [(.U top 0 0)])<|ah ar 270:=by exact wC mc (C:=(fun fr s1 _=>fr=⟨23,aE [(2,ax encI ([]:List Int))],max Tryz.f23.ntmps 1,[.code<|aS pg 23 [1,0,1,0,1],.code<|aS pg 23 [1,1]],[],none⟩/\s1=ah [] 270)) (fun fr s1 p hC=>by obtain⟨rfl,rfl⟩:=hC;exact agr mc) (.st 8<|.rn [(2,(.slice none 0<|.known 0))] [] [(2,ax encI ([]:List Int))] [] 270 270 .no)<|agq
theorem agt:(([(2,(.slice (some (271,0)) (0)<|.aq 0 1))]:List<|Nat×AV).map (fun q=>some q.2)=([(2,(.slice (some (271,0)) (0)<|.aq 0 1))]:List<|Nat×AV).map (fun q=>some q.2))/\(([]:List<|Nat×Option ae).map (fun q=>q.2)=([]:List<|Nat×Option ae).map (fun q=>q.2))/\hI FU 270 272 [(2,(.slice (some (271,0)) (0)<|.aq 0 1))] [] [(2,ax encI ([]:List Int))] [] 270/\((⟨23,aE [(2,ax encI ([]:List Int))],max Tryz.f23.ntmps 1,(cO 23 [1,1,1]),[],none⟩:AF)=⟨23,aE [(2,ax encI ([]:List Int))],max Tryz.f23.ntmps 1,(cO 23 [1,1,1]),[],none⟩/\ah [] 270=ah [] 270):=⟨rfl,rfl,(TJ (enc:=encI) (j:=2) (bw:=272) dZ dZ),rfl,rfl⟩
theorem agu(mc:Mt [] B):au pg B 270 (Fin pg (az Tryz.f23) fun y _=>y=(ax encI ([]:List Int))) ⟨23,aE [(2,ax encI ([]:List Int))],max Tryz.f23.ntmps 1,(cO 23 [1,1,1]),[],none⟩<|ah [] 270:=by exact wS mc (.rt 1 .no)<|wc<|ax encI ([]:List Int)
theorem go_Ie(mc:Mt [] B):au pg B 270 (Fin pg (az Tryz.f23) fun y _=>y=(ax encI ([]:List Int))) (sF 23 Tryz.f23 [(.U (top+1) 0 0)])<|ah ar 270:=by exact wC mc (C:=(fun fr s1 _=>fr=⟨23,aE [(2,ax encI ([]:List Int))],max Tryz.f23.ntmps 1,(cO 23 [1,1,1]),[],none⟩/\s1=ah [] 270)) (fun fr s1 p hC=>by obtain⟨rfl,rfl⟩:=hC;exact agu mc) (.st 9<|.rn [(2,(.slice (some (271,0)) (0)<|.aq 0 1))] [] [(2,ax encI ([]:List Int))] [] 272 270 .no)<|agt
noncomputable abbrev I6(l:List Int):List<|Nat×AV:=[(2,(.slice (some (271,0)) (([]++l).length)<|.aq ([]++l).length 1))]
theorem agw(l:List Int)(hlen:l.length<=100000):(((I6 l):List<|Nat×AV).map (fun q=>some q.2)=((I6 l):List<|Nat×AV).map (fun q=>some q.2))/\(([(271,some<|aA encI<|[]++l)]:List<|Nat×Option ae).map (fun q=>q.2)=([(271,some<|aA encI<|[]++l)]:List<|Nat×Option ae).map (fun q=>q.2))/\hI FU 270 272 (I6 l) [(271,some<|aA encI<|[]++l)] [(2,ax encI<|[]++l)] [] 270/\((⟨23,aE [(2,ax encI<|[]++l)],max Tryz.f23.ntmps 1,(cO 23 [1,1,1]),[],none⟩:AF)=⟨23,aE [(2,ax encI<|[]++l)],max Tryz.f23.ntmps 1,(cO 23 [1,1,1]),[],none⟩/\ah [] 270=ah [] 270):=⟨rfl,rfl,(I5 (j:=2) (bw:=272) eI ([]++l) rfl (by rw[List.nil_append];unfold top;omega) dZ dZ dZ),rfl,rfl⟩
theorem agx(mc:Mt [] B)(l:List Int):au pg B 270 (Fin pg (az Tryz.f23) fun y _=>y=(ax encI<|[]++l)) ⟨23,aE [(2,ax encI<|[]++l)],max Tryz.f23.ntmps 1,(cO 23 [1,1,1]),[],none⟩<|ah [] 270:=by exact wS mc (.rt 1 .no)<|wc<|ax encI<|[]++l
theorem go_Im(mc:Mt [] B){l:List Int}{m:Nat}(hlen:l.length<=100000)(hf:top<=N/\cr FU N o ((m+1)*1)=some (l.map encI).flatten/\m+1=l.length):au pg B 270 (Fin pg (az Tryz.f23) fun y _=>y=(ax encI<|[]++l)) (sF 23 Tryz.f23 [(.U N o<|m+1)])<|ah ar 270:=by exact wC mc (C:=(fun fr s1 _=>fr=⟨23,aE [(2,ax encI<|[]++l)],max Tryz.f23.ntmps 1,(cO 23 [1,1,1]),[],none⟩/\s1=ah [] 270)) (fun fr s1 p hC=>by obtain⟨rfl,rfl⟩:=hC;exact agx mc l) (.st 8<|.rg<|.go 2<|.al Int encI [] l<|.go 1<|.en<|.rn (I6 l) [(271,some<|aA encI<|[]++l)] [(2,ax encI<|[]++l)] [] 272 270 .no)<|GW encI [] l (K:=1) (nf:=8) hf (fun x=>⟨rfl,rfl⟩) PF PG<|agw l hlen
def AZ(args:List AV)(v:AV):Prop:=∃(N o:Nat) (l:List Int),args=[.U N o l.length]/\dm encI 1 (.U N o l.length) l/\l.length<=100000/\v=ax encI l
theorem AZ.bM(args:List AV)(v v':AV)(h:AZ args v)(h':AZ args v'):v=v':=by
 obtain⟨N,o,l,rfl,hl,_,rfl⟩:=h;obtain⟨N',o',l',h1,kQ,_,rfl⟩:=h';injection h1 with h1 _
 rw[h1] at hl;rw[hl.inj qT kQ]
def CJ:FuncId×KE:=(23,.val<|aP AZ)
theorem Z3(hP:bR pg)(h:aY L):aY<|CJ::L:=by
 refine gO hP h dc Tryz.func23 fun args v e=>?_;obtain⟨N,o,l,rfl,hl,hlen,rfl⟩:=fV e;refine⟨aM.1 aV,fun B mc=>?_⟩;rw[←ib];cases l with
 |nil=>
  refine au.Iw (i:=0) (n:=N) (o:=o) bY hl.len.2.1 (aM.1 aV) ?_ ?_
  ·exact go_In mc
  ·exact go_Ie mc
 |cons a l=>
  have hf:cr FU N o ((l.length+1)*1)=some ((a::l).map encI).flatten:=by
   rcases E9 eI.len hl with q|q
   ·exact q
   ·cases q
  have key:=go_Im (l:=a::l) (N:=N) (o:=o) (m:=l.length) mc hlen ⟨hl.len.2.1,hf,rfl⟩;exact key
theorem agz:(([(2,(.slice none 0<|.known 0))]:List<|Nat×AV).map (fun q=>some q.2)=([(2,(.slice none 0<|.known 0))]:List<|Nat×AV).map (fun q=>some q.2))/\(([]:List<|Nat×Option ae).map (fun q=>q.2)=([]:List<|Nat×Option ae).map (fun q=>q.2))/\hI FU 270 270 [(2,(.slice none 0<|.known 0))] [] [(2,ax aC ([]:List Ex))] [] 270/\((⟨72,aE [(2,ax aC ([]:List Ex))],max Tryz.f72.ntmps 1,[.code<|aS pg 72 [1,0,1,0,1],.code<|aS pg 72 [1,1]],[],none⟩:AF)=⟨72,aE [(2,ax aC ([]:List Ex))],max Tryz.f72.ntmps 1,[.code<|aS pg 72 [1,0,1,0,1],.code<|aS pg 72 [1,1]],[],none⟩/\ah [] 270=ah [] 270):=⟨rfl,rfl,(Oa (enc:=aC) (j:=2) (bw:=270) dZ dZ),rfl,rfl⟩
theorem agA(mc:Mt [] B):au pg B 270 (Fin pg (az Tryz.f72) fun y _=>y=(ax aC ([]:List Ex))) ⟨72,aE [(2,ax aC ([]:List Ex))],max Tryz.f72.ntmps 1,[.code<|aS pg 72 [1,0,1,0,1],.code<|aS pg 72 [1,1]],[],none⟩<|ah [] 270:=by exact wS mc (.rt 1 .no)<|wc<|ax aC ([]:List Ex)
theorem go_En(mc:Mt [] B):au pg B 270 (Fin pg (az Tryz.f72) fun y _=>y=(ax aC ([]:List Ex))) (sF 72 Tryz.f72 [(.U top 0 0)])<|ah ar 270:=by exact wC mc (C:=(fun fr s1 _=>fr=⟨72,aE [(2,ax aC ([]:List Ex))],max Tryz.f72.ntmps 1,[.code<|aS pg 72 [1,0,1,0,1],.code<|aS pg 72 [1,1]],[],none⟩/\s1=ah [] 270)) (fun fr s1 p hC=>by obtain⟨rfl,rfl⟩:=hC;exact agA mc) (.st 8<|.rn [(2,(.slice none 0<|.known 0))] [] [(2,ax aC ([]:List Ex))] [] 270 270 .no)<|agz
theorem agC:(([(2,(.slice (some (271,0)) (0)<|.aq 0 3))]:List<|Nat×AV).map (fun q=>some q.2)=([(2,(.slice (some (271,0)) (0)<|.aq 0 3))]:List<|Nat×AV).map (fun q=>some q.2))/\(([]:List<|Nat×Option ae).map (fun q=>q.2)=([]:List<|Nat×Option ae).map (fun q=>q.2))/\hI FU 270 272 [(2,(.slice (some (271,0)) (0)<|.aq 0 3))] [] [(2,ax aC ([]:List Ex))] [] 270/\((⟨72,aE [(2,ax aC ([]:List Ex))],max Tryz.f72.ntmps 1,(cO 72 [1,1,1]),[],none⟩:AF)=⟨72,aE [(2,ax aC ([]:List Ex))],max Tryz.f72.ntmps 1,(cO 72 [1,1,1]),[],none⟩/\ah [] 270=ah [] 270):=⟨rfl,rfl,(TJ (enc:=aC) (j:=2) (bw:=272) dZ dZ),rfl,rfl⟩
theorem agD(mc:Mt [] B):au pg B 270 (Fin pg (az Tryz.f72) fun y _=>y=(ax aC ([]:List Ex))) ⟨72,aE [(2,ax aC ([]:List Ex))],max Tryz.f72.ntmps 1,(cO 72 [1,1,1]),[],none⟩<|ah [] 270:=by exact wS mc (.rt 1 .no)<|wc<|ax aC ([]:List Ex)
theorem go_Ee(mc:Mt [] B):au pg B 270 (Fin pg (az Tryz.f72) fun y _=>y=(ax aC ([]:List Ex))) (sF 72 Tryz.f72 [(.U (top+1) 0 0)])<|ah ar 270:=by exact wC mc (C:=(fun fr s1 _=>fr=⟨72,aE [(2,ax aC ([]:List Ex))],max Tryz.f72.ntmps 1,(cO 72 [1,1,1]),[],none⟩/\s1=ah [] 270)) (fun fr s1 p hC=>by obtain⟨rfl,rfl⟩:=hC;exact agD mc) (.st 9<|.rn [(2,(.slice (some (271,0)) (0)<|.aq 0 3))] [] [(2,ax aC ([]:List Ex))] [] 272 270 .no)<|agC
noncomputable abbrev I7(l:List Ex):List<|Nat×AV:=[(2,(.slice (some (271,0)) (([]++l).length)<|.aq ([]++l).length 3))]
theorem agF(l:List Ex)(hlen:l.length<=100000):(((I7 l):List<|Nat×AV).map (fun q=>some q.2)=((I7 l):List<|Nat×AV).map (fun q=>some q.2))/\(([(271,some<|aA aC<|[]++l)]:List<|Nat×Option ae).map (fun q=>q.2)=([(271,some<|aA aC<|[]++l)]:List<|Nat×Option ae).map (fun q=>q.2))/\hI FU 270 272 (I7 l) [(271,some<|aA aC<|[]++l)] [(2,ax aC<|[]++l)] [] 270/\((⟨72,aE [(2,ax aC<|[]++l)],max Tryz.f72.ntmps 1,(cO 72 [1,1,1]),[],none⟩:AF)=⟨72,aE [(2,ax aC<|[]++l)],max Tryz.f72.ntmps 1,(cO 72 [1,1,1]),[],none⟩/\ah [] 270=ah [] 270):=⟨rfl,rfl,(I5 (j:=2) (bw:=272) ky ([]++l) rfl (by rw[List.nil_append];unfold top;omega) dZ dZ dZ),rfl,rfl⟩
theorem agG(mc:Mt [] B)(l:List Ex):au pg B 270 (Fin pg (az Tryz.f72) fun y _=>y=(ax aC<|[]++l)) ⟨72,aE [(2,ax aC<|[]++l)],max Tryz.f72.ntmps 1,(cO 72 [1,1,1]),[],none⟩<|ah [] 270:=by exact wS mc (.rt 1 .no)<|wc<|ax aC<|[]++l
theorem go_Em(mc:Mt [] B){l:List Ex}{m:Nat}(hlen:l.length<=100000)(hf:top<=N/\cr FU N o ((m+1)*3)=some (l.map aC).flatten/\m+1=l.length):au pg B 270 (Fin pg (az Tryz.f72) fun y _=>y=(ax aC<|[]++l)) (sF 72 Tryz.f72 [(.U N o<|m+1)])<|ah ar 270:=by exact wC mc (C:=(fun fr s1 _=>fr=⟨72,aE [(2,ax aC<|[]++l)],max Tryz.f72.ntmps 1,(cO 72 [1,1,1]),[],none⟩/\s1=ah [] 270)) (fun fr s1 p hC=>by obtain⟨rfl,rfl⟩:=hC;exact agG mc l) (.st 8<|.rg<|.go 2<|.al Ex aC [] l<|.go 1<|.en<|.rn (I7 l) [(271,some<|aA aC<|[]++l)] [(2,ax aC<|[]++l)] [] 272 270 .no)<|GW aC [] l (K:=3) (nf:=40) hf (fun x=>⟨ky.len x,S4 x⟩) PF PG<|agF l hlen
def A0(args:List AV)(v:AV):Prop:=∃(N o:Nat) (l:List Ex),args=[.U N o l.length]/\dm aC 3 (.U N o l.length) l/\l.length<=100000/\v=ax aC l
theorem A0.bM(args:List AV)(v v':AV)(h:A0 args v)(h':A0 args v'):v=v':=by
 obtain⟨N,o,l,rfl,hl,_,rfl⟩:=h;obtain⟨N',o',l',h1,kQ,_,rfl⟩:=h';injection h1 with h1 _
 rw[h1] at hl;rw[hl.inj nk kQ]
def UA:FuncId×KE:=(72,.val<|aP A0)
theorem Z4(hP:bR pg)(h:aY L):aY<|UA::L:=by
 refine gO hP h dc Tryz.func72 fun args v e=>?_;obtain⟨N,o,l,rfl,hl,hlen,rfl⟩:=fV e;refine⟨aM.1 aV,fun B mc=>?_⟩;rw[←ib];cases l with
 |nil=>
  refine au.Iw (i:=0) (n:=N) (o:=o) bY hl.len.2.1 (aM.1 aV) ?_ ?_
  ·exact go_En mc
  ·exact go_Ee mc
 |cons a l=>
  have hf:cr FU N o ((l.length+1)*3)=some ((a::l).map aC).flatten:=by
   rcases E9 ky.len hl with q|q
   ·exact q
   ·cases q
  have key:=go_Em (l:=a::l) (N:=N) (o:=o) (m:=l.length) mc hlen ⟨hl.len.2.1,hf,rfl⟩;exact key
end
end vD
end
section
open Go Go.Rn Go.RowKit Go.Proofs
namespace Gm
open ch cG cQ di dj fT vD vB xA
variable {k N:Nat} {bN n1 n0:Int} {l1:List Ex} {B:aJ}
theorem afd{α:Type}{K:Nat}{enc:α->List AV}(he:l9 K enc)(l:List α){b n j bw:Nat}(pre post:List AV){cap:bW}(hl:l.length*K<=top)(hb:270<=b)(GP:b+1<=n)(hj:j<top)(hn:n<top)(hs:bw<top)(e1:∀r:Nat->Nat,(∀k,top<=k->r k=k)->ou r pre pre)(e2:∀r:Nat->Nat,(∀k,top<=k->r k=k)->ou r post post)(h1:(pre++ax enc l::post).all AV.bQ=true)(h2:(pre++ax enc l::post).length<=top)(hc:(match cap with| .known c=>Nat.ble l.length c| .aq _ _=>true| .lost=>false)=true):
 hI FU 270 bw [(j,.ptr<|some (b,0))] [(b,some<|.cells (pre++ .slice (some (n,0)) l.length cap::post).length (Tr.fill (pre++ .slice (some (n,0)) l.length cap::post) 0 .nil) []),(n,some<|aA enc l)] [(j,.ptr<|some (b,0))] [(b,some<|.cells (pre++ax enc l::post).length (Tr.fill (pre++ax enc l::post) 0 .nil) [])] (b+1):=by
 let r:Nat->Nat:=fun k=>if k<b+1\/top<=k then k else max k bw
 have rt:∀k,top<=k->r k=k:=fun k hk=>if_pos<|.inr hk;have rb:r b=b:=if_pos<|.inl ab;have app:∀(fz:kN) (p q p' q':List AV),kG fz r p p'->kG fz r q q'->kG fz r (p++q) (p'++q'):=by
  intro fz p;induction p with
  |nil=>intro q p' q' h1 h2;cases p' with
   |nil=>exact h2
   |cons _ _=>cases h1
  |cons a p ih=>intro q p' q' h1 h2;cases p' with
   |nil=>cases h1
   |cons a' p'=>exact⟨h1.1,ih q p' q' h1.2 h2⟩
 have XO:∀(fz:kN) (p:List AV),ou r p p->kG fz r p p:=by
  intro fz p;induction p with
  |nil=>intro _;trivial
  |cons a p ih=>intro h;exact⟨h.1.z,ih h.2⟩
 refine⟨[(n,nm (l.map enc).flatten,(l.map enc).flatten)],r,fun k hk=>if_pos<|.inl ab,fun k h1 h2=>?_,rt,by omega,fun p hp=>?_,fun p hp=>?_,fun p hp q hq _ _ _=>?_,fun p hp=>?_,fun p hp q hq _=>?_⟩
 ·show bw<=(if _ then _ else _)/\(if _ then _ else _)<top;rw[if_neg ab];omega
 ·rw[List.mem_singleton] at hp;subst hp;exact⟨hj,_,List.mem_singleton.2 rfl,(ba.ptr rb).z⟩
 ·rw[List.mem_singleton] at hp;subst hp;refine⟨by show b<top;omega,fun y hy=>?_⟩;cases hy;refine⟨by rw[rb];omega,rfl,_,by rw[rb];exact List.mem_cons_self,⟨fun _=>rfl,(fun e=>by cases e),fun e=>by cases e⟩,?_⟩;refine eZ.cells (by simp only[List.length_append,List.length_cons] at h2 ⊢;exact h2) (app _ _ _ _ _ (XO _ _<|e1 r rt) ⟨Fa (List.mem_singleton.2 rfl) rt hc,XO _ _<|e2 r rt⟩) h1
 ·rw[List.mem_singleton] at hp hq;subst hp;subst hq;rfl
 ·rw[List.mem_singleton] at hp;subst hp;exact Fb he hl n hn<|List.mem_cons_of_mem _ List.mem_cons_self
 ·rw[List.mem_singleton] at hp hq;subst hp;subst hq;show r b≠n;rw[rb];omega
def oY:Nat->Ex->Bool
 |0,_=>false
 |k+1,.mk op n args=>eL (k+1) (.mk op n args)||args.isEmpty
def rp(k:Nat)(args:List AV)(v:AV):Prop:=∃e:Ex,args=[.agg<|aC e]/\oY k e=true/\v= .agg (aC e)
theorem rp.bM(args:List AV)(v v':AV)(h:rp k args v)(h':rp k args v'):v=v':=by obtain⟨e,rfl,_,rfl⟩:=h;obtain⟨e',h1,_,rfl⟩:=h';injection h1 with h1 _
noncomputable def rr(k:Nat):FuncId×KE:=(51,.val<|aP<|rp k)
theorem agI{op n:Int}(mc:Mt [UA,rr k] B)(oQ:bf (aP A0) [.U N 0 0]=some (.U N 0 0)):au pg B 270 (Fin pg (az Tryz.f51) fun y _=>y=(.agg [(u8<|op),(i6 n),(.U N 0 0)])) (sF 51 Tryz.f51 [(.agg [(u8<|op),(i6 n),(.U N 0 0)])])<|ah ar 270:=by exact wS mc (.st 3<|.rg<|.go 2<|.kn (.U N 0 0)<|.go 2<|.en<|.rt 13 .no)<|ai oQ<|wc<|.agg [(u8<|op),(i6 n),(.U N 0 0)]
noncomputable abbrev CU(op n bN n0:Int)(l0:List Ex)(cz n1:Int)(l1:List Ex):List<|Nat×Option ae:=[(271,some<|.cells 3 (Tr.fill [.int .u8 op,.int .i64 n,ax aC [Ex.mk bN n0 l0,Ex.mk cz n1 l1]] 0 .nil) [])]
noncomputable abbrev I8(op n bN n0:Int)(l0:List Ex)(cz n1:Int)(l1:List Ex):List<|Nat×Option ae:=[(271,some<|.cells 3 (Tr.fill [(u8<|op),(i6 n),(.slice (some (273,0)) (2)<|.aq 2 3)] 0 .nil) []),(273,some<|aA aC [Ex.mk bN n0 l0,Ex.mk cz n1 l1])]
theorem agJ{op n cz:Int}{l0:List Ex}:(([(2,(.ptr<|some (271,0)))]:List<|Nat×AV).map (fun q=>some q.2)=([(2,(.ptr<|some (271,0)))]:List<|Nat×AV).map (fun q=>some q.2))/\(((I8 op n bN n0 l0 cz n1 l1):List<|Nat×Option ae).map (fun q=>q.2)=((I8 op n bN n0 l0 cz n1 l1):List<|Nat×Option ae).map (fun q=>q.2))/\hI FU 270 276 [(2,(.ptr<|some (271,0)))] (I8 op n bN n0 l0 cz n1 l1) [(2,(.ptr<|some (271,0)))] (CU op n bN n0 l0 cz n1 l1) 272/\((⟨51,aE [(2,(.ptr<|some (271,0)))],max Tryz.f51.ntmps 1,(cO 51 [1,1,1,1]),[],none⟩:AF)=⟨51,aE [(2,(.ptr<|some (271,0)))],max Tryz.f51.ntmps 1,(cO 51 [1,1,1,1]),[],none⟩/\ah (CU op n bN n0 l0 cz n1 l1) 272=ah (CU op n bN n0 l0 cz n1 l1) 272):=⟨rfl,rfl,afd ky (b:=271) (n:=273) (j:=2) (bw:=276) [Ex.mk bN n0 l0,Ex.mk cz n1 l1] [.int .u8 op,.int .i64 n] [] (by simp only[List.length_cons,List.length_nil];unfold top;omega) ab ab dZ dZ dZ (fun r _=>⟨ba.int _ _,ba.int _ _,trivial⟩) (fun r _=>trivial) rfl (by show 3<=top;unfold top;omega) rfl,rfl,rfl⟩
theorem agK(mc:Mt [rr k] B){op n cz:Int}{l0:List Ex}:au pg B 270 (Fin pg (az Tryz.f51) fun y _=>y=(.agg [.int .u8 op,.int .i64 n,ax aC [Ex.mk bN n0 l0,Ex.mk cz n1 l1]])) ⟨51,aE [(2,(.ptr<|some (271,0)))],max Tryz.f51.ntmps 1,(cO 51 [1,1,1,1]),[],none⟩<|ah (CU op n bN n0 l0 cz n1 l1) 272:=by exact wS mc (.rt 1 .no)<|wc<|.agg [.int .u8 op,.int .i64 n,ax aC [Ex.mk bN n0 l0,Ex.mk cz n1 l1]]
theorem go_cp(mc:Mt [rr k] B){op n cz:Int}{l0:List Ex}(hn:top<=N)(hf:cr FU N 0 (2*3)=some ([Ex.mk bN n0 l0,Ex.mk cz n1 l1].map aC).flatten)(jj:bf (aP<|rp k) [(.agg [(u8<|bN),(i6 n0),(.U (nm<|cH l0) 0 l0.length)])]=some (.agg [(u8<|bN),(i6 n0),(.U (nm<|cH l0) 0 l0.length)]))(jE:bf (aP<|rp k) [(.agg [(u8<|cz),(i6 n1),(.U (nm<|cH l1) 0 l1.length)])]=some (.agg [(u8<|cz),(i6 n1),(.U (nm<|cH l1) 0 l1.length)])):au pg B 270 (Fin pg (az Tryz.f51) fun y _=>y=(.agg [.int .u8 op,.int .i64 n,ax aC [Ex.mk bN n0 l0,Ex.mk cz n1 l1]])) (sF 51 Tryz.f51 [(.agg [(u8<|op),(i6 n),(.U N 0 2)])])<|ah ar 270:=by exact wC mc (C:=(fun fr s1 _=>fr=⟨51,aE [(2,(.ptr<|some (271,0)))],max Tryz.f51.ntmps 1,(cO 51 [1,1,1,1]),[],none⟩/\s1=ah (CU op n bN n0 l0 cz n1 l1) 272)) (fun fr s1 p hC=>by obtain⟨rfl,rfl⟩:=hC;exact agK mc) (.st 3<|.rg<|.go 2<|.il<|.st 8<|.rg<|.go 2<|.al Ex aC [] [Ex.mk bN n0 l0,Ex.mk cz n1 l1]<|.go 1<|.en<|.rt 1<|.go 2<|.en<|.st 14<|.rg<|.go 4<|.kn (.agg [(u8<|bN),(i6 n0),(.U (nm<|cH l0) 0 l0.length)])<|.go 2<|.en<|.st 12<|.rg<|.go 4<|.kn (.agg [(u8<|cz),(i6 n1),(.U (nm<|cH l1) 0 l1.length)])<|.go 2<|.en<|.st 10<|.rn [(2,(.ptr<|some (271,0)))] (I8 op n bN n0 l0 cz n1 l1) [(2,(.ptr<|some (271,0)))] (CU op n bN n0 l0 cz n1 l1) 276 272 .no)<|GW aC [] [Ex.mk bN n0 l0,Ex.mk cz n1 l1] (K:=3) (nf:=40) ⟨hn,hf,rfl⟩ (fun x=>⟨ky.len x,S4 x⟩) (by show 2*(0+2)*40+4096*40<=room;unfold room;omega) (by show(0+2)*3<=top;unfold top;omega)<|ai jj<|ai jE<|agJ (op:=op) (n:=n) (bN:=bN) (n0:=n0) (cz:=cz) (n1:=n1) (l0:=l0) (l1:=l1)
end Gm
end
section
open Go Go.Rn Go.RowKit Go.Proofs
namespace JK
open ch cG cQ di dj fT vD vB xA Gm
variable {k:Nat} {e:Ex}
theorem Ob(h:eL k e=true):oY k e=true:=by
 cases k with
 |zero=>cases h
 |succ k=>obtain⟨op,n,l⟩:=e;show(eL (k+1) (.mk op n l)||l.isEmpty)=true;rw[h];rfl
theorem adA{op n:Int}{l:List Ex}(h:oY (k+1) (.mk op n l)=true):l=[]\/∃a b,l=[a,b]/\eL k a=true/\eL k b=true:=by
 have h:(eL (k+1) (.mk op n l)||l.isEmpty)=true:=h;rw[Bool.or_eq_true] at h;rcases h with h|h
 ·exact SZ h
 ·exact .inl<|List.isEmpty_iff.1 h
theorem CK(hw:oY k e=true):bf (aP<|rp k) [.agg<|aC e]=some (.agg<|aC e):=eP (eK rp.bM ⟨e,rfl,hw,rfl⟩) rA<|Bb e
theorem NK(l:List Ex):AV.U (nm<|cH l) 0 l.length=ax aC l:=by rw[Co];rfl
theorem aaP{l:List Ex}(h:l.length<=100000):bf (aP A0) [.U (nm<|cH l) 0 l.length]=some (ax aC l):=by rw[NK];exact eP (eK A0.bM ⟨_,0,l,rfl,dm.ax ky l,h,rfl⟩) (by rw[List.all_cons,show AV.hi (ax aC l)=true from aM.2<|cF _];rfl)<|aM.2<|cF _
theorem MY(hP:bR pg):∀(k:Nat) {L:bO},aY L->aY (rr k::L)
 |0,L,h=>by refine gO hP h dc Tryz.func51 fun args v e=>?_;obtain⟨_,_,hw,_⟩:=fV e;cases hw
 |k+1,L,h=>by
  refine ab1 hP gS qZ jQ ji h Tryz.func51 (body:=aS pg 51 []) aV aV fun args v e=>?_;obtain⟨⟨op,n,l⟩,rfl,hw,rfl⟩:=fV e;refine⟨aM.1 aV,?_⟩;rcases adA hw with rfl|⟨a,b,rfl,w0,w1⟩
  ·refine⟨_,Z4 hP<|MY hP k dc,fun B mc=>?_⟩;rw[←ib,aC];exact agI mc (by have:=aaP (l:=[]) (by show(0:Nat)<=100000;omega);rw[←NK] at this;exact this)
  ·refine⟨_,MY hP k dc,fun B mc=>?_⟩;obtain⟨bN,n0,l0⟩:=a;obtain⟨cz,n1,l1⟩:=b;rw[←ib,aC];have c0:=CK<|Ob w0;have c1:=CK<|Ob w1;rw[aC] at c0 c1;have hf:cr FU (nm<|cH [Ex.mk bN n0 l0,.mk cz n1 l1]) 0 (2*3)=some ([Ex.mk bN n0 l0,.mk cz n1 l1].map aC).flatten:=by
    rcases E9 (K:=3) ky.len (dm.ax ky [Ex.mk bN n0 l0,.mk cz n1 l1]) with q|q
    ·rw[Co];exact q
    ·cases q
   have key:=go_cp (op:=op) (n:=n) mc (cF _) hf c0 c1;rw[←NK] at key;exact key
end JK
end
section
open Go Go.Rn Go.RowKit Go.Proofs
namespace ij
open ch cG cQ di eX fO dj fT vD vB xA rk Gm JK
variable {k N L K:Nat} {B:aJ} {to ob oa nb na kd i:Int} {lb la:List Ex} {el bd W:List St} {v x:AV} {α:Type} {r:Nat->Nat} {enc:α->List AV}
noncomputable section
theorem TK:∀p∈ar,∀y,p.2=some y->y.jO=true:=by
 have h:(ar.all fun p=>IW p.2)=true:=by kernel_rfl
 intro p hp y hy;have:=List.all_eq_true.1 h p hp;rw[hy] at this;exact this
def pt:Nat->List St->Bool
 |0,_=>false
 |k+1,l=>decide (l.length<=10000)&&l.all fun s=>oY 6 (cR s)&&(oY 6 (iu s)&&(pt k (bF s)&&pt k (bE s)))
theorem aaQ(x:St):(aL x).all AV.bQ=true:=List.all_eq_true.2 fun y hy=>HF<|List.all_eq_true.1 (ml.gf x) y hy
theorem Oc(hr:∀k,top<=k->r k=k)(h:x.hi=true):ba r x x:=fun ρ v hv=>AV.pq (fun k y hk e=>by rw[hr k hk];exact e) h hv
theorem aaR(h:x.gf=true):x.hi=true:=by have:=Cy h;cases x<;>first|exact this|cases h
theorem Ix(he:l9 K enc)(l:List α)(hl:l.length*K<=top){fz:kN}(hr:∀k,top<=k->r k=k):eZ fz r (aA enc l)<|aA enc l:=by
 have hz:∀(m:List AV),m.all AV.gf=true->kG fz r m m:=by
  intro m;induction m with
  |nil=>intro _;trivial
  |cons a m ih=>intro h;rw[List.all_cons,Bool.and_eq_true] at h;exact⟨(Oc hr<|aaR h.1).z,ih h.2⟩
 exact eZ.cells (by rw[he.length];exact hl) (hz _<|he.all l)<|List.all_eq_true.2 fun y hy=>HF<|List.all_eq_true.1 (he.all l) y hy
theorem VW(he:l9 K enc)(W:List α){n bw:Nat}{l0 l:List<|Nat×AV}(hl:W.length*K<=top)(hn:270<=n)(iT:n<top)(hs:bw<top)(h:∀r:Nat->Nat,r 270=n->(∀k,top<=k->r k=k)->∀p∈l,p.1<top/\∃x,(p.1,x)∈l0/\jz [] r x p.2):
 hI FU 270 bw l0 (ar++[(n,some<|aA enc W)]) l (ar++[(270,some<|aA enc W)]) 271:=by
 let r:Nat->Nat:=fun k=>if k=270 then n else if k<270\/top<=k then k else max k bw
 have r0:r 270=n:=if_pos rfl;have rl:∀k,k<270->r k=k:=fun k hk=>by show(if _ then _ else _)=_;rw[if_neg ab,if_pos<|.inl hk]
 have t0:270<top:=by unfold top;omega
 have rt:∀k,top<=k->r k=k:=fun k hk=>by show(if _ then _ else _)=_;rw[if_neg ab,if_pos<|.inr hk]
 have Ej:∀p∈ar,p.1<270:=fun p hp=>by obtain⟨k,hk,e⟩:=List.mem_map.1 hp;rw[←e];exact ji k hk
 refine⟨[],r,rl,fun k h1 h2=>?_,rt,by unfold top;omega,h r r0 rt,fun p hp=>?_,fun p hp q hq _ _ e=>?_,fun p hp=>nH,fun p hp=>nH⟩
 ·show bw<=(if _ then _ else _)/\(if _ then _ else _)<top;rw[if_neg ab,if_neg ab];omega
 ·rcases List.mem_append.1 hp with hp|hp
  ·have bZ:=Ej p hp;refine⟨by omega,fun y hy=>?_⟩;rw[rl _ bZ];refine⟨by omega,?_,y,?_,fK.refl _,(EX (nx:=270) rl bY p hp y hy).z⟩
   ·exact TK p hp y hy
   ·refine List.mem_append_left _ ?_;rw[←hy];exact hp
  ·rw[List.mem_singleton] at hp;subst hp;refine⟨t0,fun y hy=>?_⟩;cases hy;refine⟨by rw[r0];exact iT,rfl,_,by rw[r0];exact List.mem_append_right _<|List.mem_singleton.2 rfl,fK.refl _,Ix he W hl rt⟩
 ·have nm:∀p∈ar++[(270,some<|aA enc W)],p.1<270\/p.1=270:=fun p hp=>by
   rcases List.mem_append.1 hp with hp|hp
   ·exact .inl<|Ej p hp
   ·rw[List.mem_singleton] at hp;subst hp;exact .inr rfl
  rcases nm p hp with a|a<;>rcases nm q hq with b|b
  ·rw[rl _ a,rl _ b] at e;exact e
  ·rw[b,r0,rl _ a] at e;omega
  ·rw[a,r0,rl _ b] at e;omega
  ·rw[a,b]
def p7(k:Nat)(args:List AV)(v:AV):Prop:=∃l:List St,args=[.U (nm<|bx l) 0 l.length]/\pt k l=true/\v= .U (nm<|bx l) 0 l.length
theorem p7.bM(args:List AV)(v v':AV)(h:p7 k args v)(h':p7 k args v'):v=v':=by obtain⟨l,rfl,_,rfl⟩:=h;obtain⟨l',h1,_,rfl⟩:=h';injection h1 with h1 _
def oi(k:Nat):FuncId×KE:=(27,.val<|aP<|p7 k)
def Kc(N L:Nat):List<|Nat×AV:=[(3,(.slice none 0<|.known 0)),(6,(.U N 0 L)),(7,(i6<|(L:Int))),(8,i0)]
def DN(N L:Nat):AF:=⟨27,aE<|Kc N L,max Tryz.f27.ntmps 1,[.code<|aS pg 27 [1,1,0,1,0,0],.inLoop<|aS pg 27 [1,1,0,1,0,0],.inBlock 0,.code<|aS pg 27 [1,1,1]],[],none⟩
def By(N L:Nat)(W:List St)(i:Int):List<|Nat×AV:=[(3,(.slice (some (270,0)) (W.length)<|.aq W.length 10)),(6,(.U N 0 L)),(7,(i6<|(L:Int))),(8,(i6 i))]
def tN(N L:Nat)(W:List St)(i:Int):AF:=⟨27,aE<|By N L W i,max Tryz.f27.ntmps 1,[.code<|aS pg 27 [1,1,0,1,0,0],.inLoop<|aS pg 27 [1,1,0,1,0,0],.inBlock 0,.code<|aS pg 27 [1,1,1]],[],none⟩
theorem ah3(N L:Nat):((Kc N L).map (fun q=>some q.2)=(Kc N L).map (fun q=>some q.2))/\(ar.map (fun q=>q.2)=ar.map (fun q=>q.2))/\(DN N L=DN N L/\ah ar 270=ah ar 270):=⟨rfl,rfl,rfl,rfl⟩
theorem go_c(mc:Mt [rr 6,oi k] B)(H:au pg B 270 (Fin pg (az Tryz.f27) fun y _=>y=v) (DN N L)<|ah ar 270):au pg B 270 (Fin pg (az Tryz.f27) fun y _=>y=v) (sF 27 Tryz.f27 [(.U N 0 L)])<|ah ar 270:=by exact wC mc (C:=(fun fr s1 _=>fr=DN N L/\s1=ah ar 270)) mK (.st 9<|.ls (Kc N L) ar 270 .no)<|ah3 N L
noncomputable abbrev I9(N L:Nat):List<|Nat×AV:=[(3,(.slice (some (272,0)) (1)<|.aq 1 10)),(6,(.U N 0 L)),(7,(i6<|(L:Int))),(8,(i6<|.ofNat 1))]
noncomputable abbrev CV(kd to oa na:Int)(la:List Ex)(ob nb:Int)(lb:List Ex)(bd el:List St):List<|Nat×Option ae:=ar++[(270,some<|aA aL<|[(St.mk kd to (Ex.mk oa na la) (Ex.mk ob nb lb) bd el)])]
theorem ah5(hn:top<=N)(hW:[(St.mk kd to (Ex.mk oa na la) (Ex.mk ob nb lb) bd el)].length<=20000):(((I9 N L):List<|Nat×AV).map (fun q=>some q.2)=((I9 N L):List<|Nat×AV).map (fun q=>some q.2))/\((ar++[(272,some<|aA aL [(St.mk kd to (Ex.mk oa na la) (Ex.mk ob nb lb) bd el)])]:List<|Nat×Option ae).map (fun q=>q.2)=(ar++[(272,some<|aA aL [(St.mk kd to (Ex.mk oa na la) (Ex.mk ob nb lb) bd el)])]:List<|Nat×Option ae).map (fun q=>q.2))/\hI FU 270 273 (I9 N L) (ar++[(272,some<|aA aL [(St.mk kd to (Ex.mk oa na la) (Ex.mk ob nb lb) bd el)])]) (By N L ([(St.mk kd to (Ex.mk oa na la) (Ex.mk ob nb lb) bd el)]) 1) (CV kd to oa na la ob nb lb bd el) 271/\(tN N L ([(St.mk kd to (Ex.mk oa na la) (Ex.mk ob nb lb) bd el)]) 1=tN N L ([(St.mk kd to (Ex.mk oa na la) (Ex.mk ob nb lb) bd el)]) 1/\ah (CV kd to oa na la ob nb lb bd el) 271=ah (CV kd to oa na la ob nb lb bd el) 271):=
 ⟨rfl,rfl,VW ml [(St.mk kd to (Ex.mk oa na la) (Ex.mk ob nb lb) bd el)] (n:=272) (bw:=273) dZ ab dZ dZ (fun r r0 r2 p hp=>by
  simp only[By,List.mem_cons,List.not_mem_nil,or_false] at hp;rcases hp with rfl|rfl|rfl|rfl
  ·exact⟨by unfold top;omega,_,List.mem_cons_self,(ba.slice r0).z⟩
  ·exact⟨by unfold top;omega,_,(List.mem_cons_of_mem _ List.mem_cons_self),(ba.U (r2 _ hn) r2).z⟩
  ·exact⟨by unfold top;omega,_,(List.mem_cons_of_mem _<|List.mem_cons_of_mem _ List.mem_cons_self),(ba.int _ _).z⟩
  ·exact⟨by unfold top;omega,_,(List.mem_cons_of_mem _<|List.mem_cons_of_mem _<|List.mem_cons_of_mem _ List.mem_cons_self),(ba.int _ _).z⟩),rfl,rfl⟩
noncomputable abbrev Ja(kd to oa na:Int)(la:List Ex)(ob nb:Int)(lb:List Ex)(bd el:List St):List AV:=[(u8<|kd),(i6 to),(u8<|oa),(i6 na),(.U (nm<|cH la) 0 la.length),(u8<|ob),(i6 nb),(.U (nm<|cH lb) 0 lb.length),(.U (nm<|bx bd) 0 bd.length),(.U (nm<|bx el) 0 el.length)]
noncomputable abbrev CW(oa na:Int)(la:List Ex):AV:=.agg [(u8<|oa),(i6 na),(.U (nm<|cH la) 0 la.length)]
noncomputable abbrev CX(ob nb:Int)(lb:List Ex):AV:=.agg [(u8<|ob),(i6 nb),(.U (nm<|cH lb) 0 lb.length)]
theorem ah6(mc:Mt [rr 6,oi k] B)(hn:top<=N)(hL:L<=10000)(hx:cr FU N (0+(0:Int).toNat*10+0) 10=some (Ja kd to oa na la ob nb lb bd el))(hA:bf (aP<|rp 6) [(CW oa na la)]=some (CW oa na la))(hB:bf (aP<|rp 6) [(CX ob nb lb)]=some (CX ob nb lb))(hD:bf (aP<|p7 k) [(.U (nm<|bx bd) 0 bd.length)]=some (.U (nm<|bx bd) 0 bd.length))(hE:bf (aP<|p7 k) [(.U (nm<|bx el) 0 el.length)]=some (.U (nm<|bx el) 0 el.length))(hW:[(St.mk kd to (Ex.mk oa na la) (Ex.mk ob nb lb) bd el)].length<=20000)(h1:(0:Int)<(L:Int))(H:au pg B 270 (Fin pg (az Tryz.f27) fun y _=>y=v) (tN N L ([(St.mk kd to (Ex.mk oa na la) (Ex.mk ob nb lb) bd el)]) 1)<|ah (CV kd to oa na la ob nb lb bd el) 271):au pg B 270 (Fin pg (az Tryz.f27) fun y _=>y=v) (DN N L)<|ah ar 270:=by exact wC mc (C:=(fun fr s1 _=>fr=tN N L ([(St.mk kd to (Ex.mk oa na la) (Ex.mk ob nb lb) bd el)]) 1/\s1=ah (CV kd to oa na la ob nb lb bd el) 271)) mK (.st 1<|.rg<|.fk (.en<|.st 6<|.rg<|.eB<|.eC (Ja kd to oa na la ob nb lb bd el)<|.go 2<|.en<|.st 1<|.rg<|.go 2<|.kn (CW oa na la)<|.go 2<|.kn (CX ob nb lb)<|.go 2<|.kn (.U (nm<|bx bd) 0 bd.length)<|.go 2<|.kn (.U (nm<|bx el) 0 el.length)<|.go 8<|.en<|.st 4<|.rn (I9 N L) (ar++[(272,(some<|aA aL [(St.mk kd to (Ex.mk oa na la) (Ex.mk ob nb lb) bd el)]))]) (By N L ([(St.mk kd to (Ex.mk oa na la) (Ex.mk ob nb lb) bd el)]) 1) (CV kd to oa na la ob nb lb bd el) 273 271 .no)<|.no)<|aR ((0:Int)<(L:Int)) (fun _=>(dS (0:Int) (L:Int)<|ai hn<|ai hx<|ai hA<|ai hB<|ai hD<|ai hE<|ah5 (N:=N) (L:=L) (kd:=kd) (to:=to) (oa:=oa) (na:=na) (la:=la) (ob:=ob) (nb:=nb) (lb:=lb) (bd:=bd) (el:=el) hn hW)) fZ
noncomputable abbrev Jb(W:List St)(kd to oa na:Int)(la:List Ex)(ob nb:Int)(lb:List Ex)(bd el:List St)(N L:Nat)(i:Int):List<|Nat×AV:=[(3,(.slice (some (273,0)) ((W++[(St.mk kd to (Ex.mk oa na la) (Ex.mk ob nb lb) bd el)]).length)<|.aq (W++[(St.mk kd to (Ex.mk oa na la) (Ex.mk ob nb lb) bd el)]).length 10)),(6,(.U N 0 L)),(7,(i6<|(L:Int))),(8,(i6<|(i+1)))]
noncomputable abbrev CY(W:List St)(kd to oa na:Int)(la:List Ex)(ob nb:Int)(lb:List Ex)(bd el:List St):List<|Nat×Option ae:=ar++[(270,some<|aA aL<|W++[(St.mk kd to (Ex.mk oa na la) (Ex.mk ob nb lb) bd el)])]
theorem ah7(hn:top<=N)(hW:(W++[(St.mk kd to (Ex.mk oa na la) (Ex.mk ob nb lb) bd el)]).length<=20000):(((Jb W kd to oa na la ob nb lb bd el N L i):List<|Nat×AV).map (fun q=>some q.2)=((Jb W kd to oa na la ob nb lb bd el N L i):List<|Nat×AV).map (fun q=>some q.2))/\((ar++[(273,some<|aA aL<|W++[(St.mk kd to (Ex.mk oa na la) (Ex.mk ob nb lb) bd el)])]:List<|Nat×Option ae).map (fun q=>q.2)=(ar++[(273,some<|aA aL<|W++[(St.mk kd to (Ex.mk oa na la) (Ex.mk ob nb lb) bd el)])]:List<|Nat×Option ae).map (fun q=>q.2))/\hI FU 270 274 (Jb W kd to oa na la ob nb lb bd el N L i) (ar++[(273,some<|aA aL<|W++[(St.mk kd to (Ex.mk oa na la) (Ex.mk ob nb lb) bd el)])]) (By N L (W++[(St.mk kd to (Ex.mk oa na la) (Ex.mk ob nb lb) bd el)])<|i+1) (CY W kd to oa na la ob nb lb bd el) 271/\(tN N L (W++[(St.mk kd to (Ex.mk oa na la) (Ex.mk ob nb lb) bd el)]) (i+1)=tN N L (W++[(St.mk kd to (Ex.mk oa na la) (Ex.mk ob nb lb) bd el)]) (i+1)/\ah (CY W kd to oa na la ob nb lb bd el) 271=ah (CY W kd to oa na la ob nb lb bd el) 271):=
 ⟨rfl,rfl,VW ml (W++[(St.mk kd to (Ex.mk oa na la) (Ex.mk ob nb lb) bd el)]) (n:=273) (bw:=274) dZ ab dZ dZ (fun r r0 r2 p hp=>by
  simp only[By,List.mem_cons,List.not_mem_nil,or_false] at hp;rcases hp with rfl|rfl|rfl|rfl
  ·exact⟨by unfold top;omega,_,List.mem_cons_self,(ba.slice r0).z⟩
  ·exact⟨by unfold top;omega,_,(List.mem_cons_of_mem _ List.mem_cons_self),(ba.U (r2 _ hn) r2).z⟩
  ·exact⟨by unfold top;omega,_,(List.mem_cons_of_mem _<|List.mem_cons_of_mem _ List.mem_cons_self),(ba.int _ _).z⟩
  ·exact⟨by unfold top;omega,_,(List.mem_cons_of_mem _<|List.mem_cons_of_mem _<|List.mem_cons_of_mem _ List.mem_cons_self),(ba.int _ _).z⟩),rfl,rfl⟩
theorem ah8(mc:Mt [rr 6,oi k] B)(hn:top<=N)(hi:0<=i)(hL:L<=10000)(hx:cr FU N (0+i.toNat*10+0) 10=some (Ja kd to oa na la ob nb lb bd el))(hA:bf (aP<|rp 6) [(CW oa na la)]=some (CW oa na la))(hB:bf (aP<|rp 6) [(CX ob nb lb)]=some (CX ob nb lb))(hD:bf (aP<|p7 k) [(.U (nm<|bx bd) 0 bd.length)]=some (.U (nm<|bx bd) 0 bd.length))(hE:bf (aP<|p7 k) [(.U (nm<|bx el) 0 el.length)]=some (.U (nm<|bx el) 0 el.length))(hW:(W++[(St.mk kd to (Ex.mk oa na la) (Ex.mk ob nb lb) bd el)]).length<=20000)(h1:i<(L:Int))(H:au pg B 270 (Fin pg (az Tryz.f27) fun y _=>y=v) (tN N L (W++[(St.mk kd to (Ex.mk oa na la) (Ex.mk ob nb lb) bd el)])<|i+1)<|ah (CY W kd to oa na la ob nb lb bd el) 271):au pg B 270 (Fin pg (az Tryz.f27) fun y _=>y=v) (tN N L W i)<|ah (ar++[(270,some<|aA aL W)]) 271:=by exact wC mc (C:=(fun fr s1 _=>fr=tN N L (W++[(St.mk kd to (Ex.mk oa na la) (Ex.mk ob nb lb) bd el)]) (i+1)/\s1=ah (CY W kd to oa na la ob nb lb bd el) 271)) mK (.st 1<|.rg<|.fk (.en<|.st 6<|.rg<|.eB<|.eC (Ja kd to oa na la ob nb lb bd el)<|.go 2<|.en<|.st 1<|.rg<|.go 2<|.kn (CW oa na la)<|.go 2<|.kn (CX ob nb lb)<|.go 2<|.kn (.U (nm<|bx bd) 0 bd.length)<|.go 2<|.kn (.U (nm<|bx el) 0 el.length)<|.go 8<|.en<|.rg<|.go 3<|.ap St aL W (St.mk kd to (Ex.mk oa na la) (Ex.mk ob nb lb) bd el)<|.go 1<|.en<|.st 1<|.rg<|.vl (i6<|i+1)<|.go 1<|.en<|.st 1<|.rn (Jb W kd to oa na la ob nb lb bd el N L i) (ar++[(273,(some<|aA aL<|W++[(St.mk kd to (Ex.mk oa na la) (Ex.mk ob nb lb) bd el)]))]) (By N L (W++[(St.mk kd to (Ex.mk oa na la) (Ex.mk ob nb lb) bd el)])<|i+1) (CY W kd to oa na la ob nb lb bd el) 274 271 .no)<|.no)<|aR (i<(L:Int)) (fun _=>(dS i (L:Int)<|ai hn<|ai hx<|ai hA<|ai hB<|ai hD<|ai hE<|Qq aL W (St.mk kd to (Ex.mk oa na la) (Ex.mk ob nb lb) bd el) (K:=10) (nf:=144) (fun x=>⟨ml.len x,aaQ x⟩) (by rw[List.length_append] at hW;unfold room;omega) (by rw[List.length_append] at hW;unfold top;omega)<|ai (wI<|i+1)<|ah7 (N:=N) (L:=L) (W:=W) (i:=i) (kd:=kd) (to:=to) (oa:=oa) (na:=na) (la:=la) (ob:=ob) (nb:=nb) (lb:=lb) (bd:=bd) (el:=el) hn hW)) fZ
theorem ah9:(([(2,(.slice none 0<|.known 0))]:List<|Nat×AV).map (fun q=>some q.2)=([(2,(.slice none 0<|.known 0))]:List<|Nat×AV).map (fun q=>some q.2))/\(([]:List<|Nat×Option ae).map (fun q=>q.2)=([]:List<|Nat×Option ae).map (fun q=>q.2))/\hI FU 270 270 [(2,(.slice none 0<|.known 0))] [] [(2,ax aL ([]:List St))] [] 270/\((⟨27,aE [(2,ax aL ([]:List St))],max Tryz.f27.ntmps 1,(cO 27 [1,1,1,1]),[],none⟩:AF)=⟨27,aE [(2,ax aL ([]:List St))],max Tryz.f27.ntmps 1,(cO 27 [1,1,1,1]),[],none⟩/\ah [] 270=ah [] 270):=⟨rfl,rfl,(Oa (enc:=aL) (j:=2) (bw:=270) dZ dZ),rfl,rfl⟩
theorem aia(mc:Mt [rr 6,oi k] B):au pg B 270 (Fin pg (az Tryz.f27) fun y _=>y=(ax aL ([]:List St))) ⟨27,aE [(2,ax aL ([]:List St))],max Tryz.f27.ntmps 1,(cO 27 [1,1,1,1]),[],none⟩<|ah [] 270:=by exact wS mc (.rt 1 .no)<|wc<|ax aL ([]:List St)
theorem aib(mc:Mt [rr 6,oi k] B)(h1:(L:Int)<=0):au pg B 270 (Fin pg (az Tryz.f27) fun y _=>y=(ax aL ([]:List St))) (DN N L)<|ah ar 270:=by exact wC mc (C:=(fun fr s1 _=>fr=⟨27,aE [(2,ax aL ([]:List St))],max Tryz.f27.ntmps 1,(cO 27 [1,1,1,1]),[],none⟩/\s1=ah [] 270)) (fun fr s1 p hC=>by obtain⟨rfl,rfl⟩:=hC;exact aia mc) (.st 1<|.rg<|.fk (.no)<|.en<|.st 5<|.rn [(2,(.slice none 0<|.known 0))] [] [(2,ax aL ([]:List St))] [] 270 270 .no)<|aR ((0:Int)<(L:Int)) fZ fun _=>(ah9)
theorem aic(W:List St)(hW:W.length<=20000):(([(2,(.slice (some (270,0)) (W.length)<|.aq W.length 10))]:List<|Nat×AV).map (fun q=>some q.2)=([(2,(.slice (some (270,0)) (W.length)<|.aq W.length 10))]:List<|Nat×AV).map (fun q=>some q.2))/\(([(270,some<|aA aL W)]:List<|Nat×Option ae).map (fun q=>q.2)=([(270,some<|aA aL W)]:List<|Nat×Option ae).map (fun q=>q.2))/\hI FU 270 271 [(2,(.slice (some (270,0)) (W.length)<|.aq W.length 10))] [(270,some<|aA aL W)] [(2,ax aL W)] [] 270/\((⟨27,aE [(2,ax aL W)],max Tryz.f27.ntmps 1,(cO 27 [1,1,1,1]),[],none⟩:AF)=⟨27,aE [(2,ax aL W)],max Tryz.f27.ntmps 1,(cO 27 [1,1,1,1]),[],none⟩/\ah [] 270=ah [] 270):=⟨rfl,rfl,(I5 (j:=2) (n:=270) (bw:=271) ml W rfl dZ dZ dZ dZ),rfl,rfl⟩
theorem aid(mc:Mt [rr 6,oi k] B)(W:List St):au pg B 270 (Fin pg (az Tryz.f27) fun y _=>y=(ax aL W)) ⟨27,aE [(2,ax aL W)],max Tryz.f27.ntmps 1,(cO 27 [1,1,1,1]),[],none⟩<|ah [] 270:=by exact wS mc (.rt 1 .no)<|wc<|ax aL W
theorem aie(mc:Mt [rr 6,oi k] B)(h1:(L:Int)<=i)(hW:W.length<=20000):au pg B 270 (Fin pg (az Tryz.f27) fun y _=>y=(ax aL W)) (tN N L W i)<|ah (ar++[(270,some<|aA aL W)]) 271:=by exact wC mc (C:=(fun fr s1 _=>fr=⟨27,aE [(2,ax aL W)],max Tryz.f27.ntmps 1,(cO 27 [1,1,1,1]),[],none⟩/\s1=ah [] 270)) (fun fr s1 p hC=>by obtain⟨rfl,rfl⟩:=hC;exact aid mc W) (.st 1<|.rg<|.fk (.no)<|.en<|.st 5<|.rn [(2,(.slice (some (270,0)) (W.length)<|.aq W.length 10))] [(270,some<|aA aL W)] [(2,ax aL W)] [] 271 270 .no)<|aR (i<(L:Int)) fZ fun _=>(aic W hW)
end
end ij
end
section
open Go Go.Rn Go.RowKit Go.Proofs
namespace O6
open ch cG cQ di eX fO tI dj fT vD vB xA rk mA Gm JK ij
variable {k:Nat}
theorem UB(l:List St):AV.U (nm<|bx l) 0 l.length=ax aL l:=by rw[uB];rfl
theorem H7{l:List St}(h:pt k l=true):bf (aP<|p7 k) [.U (nm<|bx l) 0 l.length]=some (.U (nm<|bx l) 0 l.length):=eP (eK p7.bM ⟨l,rfl,h,rfl⟩) (by rw[List.all_cons,rf];rfl)<|rf l
theorem Z5(hP:bR pg)(h':aY [rr 6,oi k]){L:bO}(h:aY L):aY<|oi (k+1)::L:=by
 refine gO hP h h' Tryz.func27 fun args v e=>?_;obtain⟨l,rfl,hg,rfl⟩:=fV e;refine⟨aM.1 aV,fun B mc=>?_⟩;rw[←ib];have hg:(decide (l.length<=10000)&&l.all fun s=>oY 6 (cR s)&&(oY 6 (iu s)&&(pt k (bF s)&&pt k (bE s))))=true:=hg;rw[Bool.and_eq_true,decide_eq_true_eq,List.all_eq_true] at hg;obtain⟨hlen,hd⟩:=hg;have pG:∀s∈l,oY 6 (cR s)=true/\oY 6 (iu s)=true/\pt k (bF s)=true/\pt k (bE s)=true:=fun s hs=>by have:=hd s hs;rw[Bool.and_eq_true,Bool.and_eq_true,Bool.and_eq_true] at this;exact this
 refine go_c mc ?_;cases l with
 |nil=>have:=aib (N:=nm<|bx []) (L:=0) mc ab;rw[←UB] at this;exact this
 |cons a0 l0=>
  have key:∀(r:List St) (i:Nat),(a0::l0).drop i=r->1<=i->i<=(a0::l0).length->au pg B 270 (Fin pg (az Tryz.f27) fun y _=>y= .U (nm<|bx<|a0::l0) 0 (a0::l0).length) (tN (nm<|bx<|a0::l0) (a0::l0).length ((a0::l0).take i) i) (ah (ar++[(270,some<|aA aL<|(a0::l0).take i)]) 271):=by
   generalize hl:a0::l0=l at*;intro r;induction r with
   |nil=>intro i hr _ hle;have hi:l.length<=i:=List.drop_eq_nil_iff.1 hr;have e:l.take i=l:=List.take_of_length_le hi;rw[e];have:=aie (N:=nm<|bx l) (L:=l.length) (W:=l) (i:=(i:Int)) mc ab ab;rw[←UB] at this;exact this
   |cons a r ih=>
    intro i hr h1 hle;have bZ:i<l.length:=by
     by_cases q:i<l.length
     ·exact q
     ·rw[List.drop_of_length_le ab] at hr;cases hr
    have ha:l[i]? =some a:=by have:=congrArg (fun q=>q[0]?) hr;simp only[List.getElem?_drop,List.getElem?_cons_zero,Nat.add_zero] at this;exact this
    have hm:a∈l:=List.mem_of_getElem? ha;have j0:l.drop (i+1)=r:=by have:=congrArg (List.drop 1) hr;rw[List.drop_drop] at this;exact this
    have po:=ih (i+1) j0 ab ab;rw[List.take_add_one,ha] at po;obtain⟨g1,g2,g3,g4⟩:=pG a hm;have hx:=EY ha (z:=(i:Int)) ab;obtain⟨kd,to,⟨oa,na,la⟩,⟨ob,nb,lb⟩,bd,el⟩:=a;have cA:=CK (k:=6) g1;have cB:=CK (k:=6) g2;have cD:=H7 g3;have cE:=H7 g4;simp only[cR,iu,bF,bE] at cA cB cD cE;rw[aC] at cA cB;rw[aL,aC,aC] at hx;exact ah8 (i:=(i:Int)) (W:=l.take i) mc (cF _) ab hlen hx cA cB cD cE (by rw[List.length_append,List.length_take];show _+1<=20000;omega) ab po
  have po:=key l0 1 rfl ab (by show 1<=l0.length+1;omega);rw[List.take_succ_cons,List.take_zero] at po;obtain⟨g1,g2,g3,g4⟩:=pG a0 List.mem_cons_self;have hx:=EY (l:=a0::l0) (i:=0) (a:=a0) rfl (z:=(0:Int)) rfl;obtain⟨kd,to,⟨oa,na,la⟩,⟨ob,nb,lb⟩,bd,el⟩:=a0;have cA:=CK (k:=6) g1;have cB:=CK (k:=6) g2;have cD:=H7 g3;have cE:=H7 g4;simp only[cR,iu,bF,bE] at cA cB cD cE;rw[aC] at cA cB;rw[show aL (St.mk kd to (Ex.mk oa na la) (Ex.mk ob nb lb) bd el)=_ from by rw[aL,aC,aC]] at hx;exact ah6 mc (cF _) hlen hx cA cB cD cE (by show 1<=20000;omega) (by show(0:Int)<((l0.length+1:Nat):Int);omega) po
theorem S5(hP:bR pg):∀(k:Nat) {L:bO},aY L->aY (oi k::L)
 |0,L,h=>by refine gO hP h dc Tryz.func27 fun args v e=>?_;obtain⟨_,_,hd,_⟩:=fV e;cases hd
 |k+1,L,h=>Z5 hP (MY hP 6<|S5 hP k dc) h
end O6
end
section
open Go Go.Rn Go.RowKit Go.Proofs
namespace PQ
open ch fT ij
variable {left:List<|Int×Int} {cur:Option<|AV×AV} {v0 k0:Int}
noncomputable section
def l0:List<|Nat×AV:=[(0,.map<|some 270),(1,.map<|some 271),(6,.map<|some 271),(7,.ptr<|some (272,0))]
def lx(k v:Int):List<|Nat×AV:=[(0,.map<|some 270),(1,.map<|some 271),(4,.int .i64 k),(5,.int .i64 v),(6,.map<|some 271),(7,.ptr<|some (272,0)),(8,.tuple [.bool true,.int .i64 k,.int .i64 v]),(9,.bool true),(10,.tuple [.int .i64 k,.int .i64 v]),(11,.int .i64 k),(12,.int .i64 v),(13,.map<|some 270),(14,.int .i64 k),(15,.int .i64 v)]
def KN:List Item:=[.code<|aS pg 61 [1,0,0,1],.inLoop<|aS pg 61 [1,0,0],.inBlock 0]
def fp(t:Tr AV):AF:=⟨61,t,max Tryz.f61.ntmps 2,.code (aS pg 61 [1,0,0,0])::KN,[],none⟩
def jt(m2 d left:List<|Int×Int)(cur:Option<|AV×AV):AS:=ah (ar++[(270,some<|bz d),(271,some .iw),(272,some<|.iter 271 (cq m2) false (cq left) cur)]) 273
def uh:Oper:=(opsOf<|aS pg 61 [1,0,0,0]).toList.headD default
def tO:Array Oper:=opsOf<|aS pg 61 [1,0,0,0]
def tj:List Oper:=(opsOf<|aS pg 61 [1,0,0,0]).toList.tail
def fF(t:Tr AV)(v:AV)(b:Bool):AF:=⟨61,(t.put 8<|some v).put 9<|some<|.bool b,max Tryz.f61.ntmps 2,KN,[],none⟩
def nh:Env:=xS pg 270 dT dF [] 272 true
theorem asks(t:Tr AV):Ap (fp t)=some (.tmp 7,uh,tO,tj,KN):=by kernel_rfl
theorem agM{m2 d:List<|Int×Int}:qU (fp<|aE l0) (.tmp 7) (jt m2 d left cur)= .ok (272,.iter 271 (cq m2) false (cq left) cur) (jt m2 d left cur):=by kernel_rfl
theorem VX{m2 d:List<|Int×Int}{k v:Int}:qU (fp<|aE<|lx k v) (.tmp 7) (jt m2 d left cur)= .ok (272,.iter 271 (cq m2) false (cq left) cur) (jt m2 d left cur):=by kernel_rfl
theorem agN{m2 d:List<|Int×Int}{Yw:aK}:np pg Yw (fp<|aE l0) 272 271 (cq m2) false uh tO tj KN (jt m2 d left cur)= .ok (fF (aE l0) (.tuple [.bool false]) false) (ah (ar++[(270,some<|bz d),(271,some<|bz m2),(272,none)]) 273):=by kernel_rfl
theorem Jy{m2 d:List<|Int×Int}{Yw:aK}{k v:Int}:np pg Yw (fp<|aE<|lx k v) 272 271 (cq m2) false uh tO tj KN (jt m2 d left cur)= .ok (fF (aE<|lx k v) (.tuple [.bool false]) false) (ah (ar++[(270,some<|bz d),(271,some<|bz m2),(272,none)]) 273):=by kernel_rfl
theorem is0{m2 d r:List<|Int×Int}{Yw:aK}{k v:Int}:nr pg Yw (fp<|aE l0) 272 (.iter 271 (cq m2) false (cq r)<|some (.int .i64 k,.int .i64 v)) uh tO tj KN (.tuple [.bool true,.int .i64 k,.int .i64 v]) (jt m2 d left cur)= .ok (fF (aE l0) (.tuple [.bool true,.int .i64 k,.int .i64 v]) true) (jt m2 d r<|some (.int .i64 k,.int .i64 v)):=by kernel_rfl
theorem isX{m2 d r:List<|Int×Int}{Yw:aK}{k v:Int}:nr pg Yw (fp<|aE<|lx k0 v0) 272 (.iter 271 (cq m2) false (cq r)<|some (.int .i64 k,.int .i64 v)) uh tO tj KN (.tuple [.bool true,.int .i64 k,.int .i64 v]) (jt m2 d left cur)= .ok (fF (aE<|lx k0 v0) (.tuple [.bool true,.int .i64 k,.int .i64 v]) true) (jt m2 d r<|some (.int .i64 k,.int .i64 v)):=by kernel_rfl
abbrev FM(m1 m2:List<|Int×Int):=PK 270 pg (az Tryz.f61) m1 m2
theorem Jc:fI<=272:=Nat.le_trans gS ab
theorem WK(m2 d r:List<|Int×Int)(k v:Int)(fr:AF):(some (bz d)=some (bz d))/\(fr=fr/\jt m2 (fM d k v) r (some (.int .i64 k,.int .i64 v))=jt m2 (fM d k v) r (some (.int .i64 k,.int .i64 v))):=⟨rfl,rfl,rfl⟩
section
variable {B:aJ} {m1 m2 d r:List<|Int×Int} {k v:Int}
theorem O7(mc:Mt [] B)(H:au pg B 272 (FM m1 m2) (fp<|aE<|lx k v)<|jt m2 (fM d k v) r<|some (.int .i64 k,.int .i64 v)):
 au pg B 272 (FM m1 m2) (fF (aE l0) (.tuple [.bool true,.int .i64 k,.int .i64 v]) true) (jt m2 d r<|some (.int .i64 k,.int .i64 v)):=
 wp_cut (E:=nh) (C:=fun fr s1 _=>fr=fp (aE<|lx k v)/\s1=jt m2 (fM d k v) r (some (.int .i64 k,.int .i64 v))) eQ rfl bH mc.2.2.1 mc.2.2.2 Jc rfl mc.1 mK 900 (.st 6<|.rg<|.go 3<|.KH d<|.en<|.st 3<|.cut .no) (WK m2 d r k v<|fp<|aE<|lx k v)
theorem O8(mc:Mt [] B)(H:au pg B 272 (FM m1 m2) (fp<|aE<|lx k v)<|jt m2 (fM d k v) r<|some (.int .i64 k,.int .i64 v)):
 au pg B 272 (FM m1 m2) (fF (aE<|lx k0 v0) (.tuple [.bool true,.int .i64 k,.int .i64 v]) true) (jt m2 d r<|some (.int .i64 k,.int .i64 v)):=
 wp_cut (E:=nh) (C:=fun fr s1 _=>fr=fp (aE<|lx k v)/\s1=jt m2 (fM d k v) r (some (.int .i64 k,.int .i64 v))) eQ rfl bH mc.2.2.1 mc.2.2.2 Jc rfl mc.1 mK 900 (.st 6<|.rg<|.go 3<|.KH d<|.en<|.st 3<|.cut .no) (WK m2 d r k v<|fp<|aE<|lx k v)
theorem VY{m1 m2 d:List<|Int×Int}(hk:dU m1)(hp:d.Perm<|fj m1 m2):hI FU 272 273 [(9,.bool false)] [(270,some<|bz d),(271,some<|bz m2)] [(9,.bool false)] [(270,some<|bz<|fj m1 m2),(271,some<|bz m2)] 272:=by
 let r:Nat->Nat:=fun k=>if k<272\/top<=k then k else max k 273
 have t0:272<top:=by unfold top;omega
 have rl:∀k,k<272->r k=k:=fun k hk=>if_pos<|.inl hk;refine⟨[],r,rl,fun k h1 h2=>?_,fun k hk=>if_pos<|.inr hk,by omega,fun p hp=>?_,fun p hp=>?_,fun p hp q hq _ _ e=>?_,fun p hp=>nH,fun p hp=>nH⟩
 ·show 273<=(if _ then _ else _)/\(if _ then _ else _)<top;rw[if_neg ab];have:273<top:=by unfold top;omega
  omega
 ·rw[List.mem_singleton] at hp;subst hp;exact⟨by show 9<top;omega,_,List.mem_singleton.2 rfl,(ba.bool _).z⟩
 ·rcases List.mem_cons.1 hp with rfl|hp
  ·refine⟨by show 270<top;omega,fun y hy=>?_⟩;cases hy;rw[rl 270 ab];exact⟨by omega,rfl,_,List.mem_cons_self,⟨fun _=>rfl,(fun e=>by cases e),fun e=>by cases e⟩,fun ρ fE N o _ h=>ZT hk.merge (by assumption) h⟩
  ·rw[List.mem_singleton] at hp;subst hp;refine⟨by show 271<top;omega,fun y hy=>?_⟩;cases hy;rw[rl 271 ab];exact⟨by omega,rfl,_,List.mem_cons_of_mem _ List.mem_cons_self,fK.refl _,fun ρ fE N o _ h=>uF h⟩
 ·rcases List.mem_cons.1 hp with rfl|hp<;>rcases List.mem_cons.1 hq with rfl|hq
  ·rfl
  ·rw[List.mem_singleton] at hq;subst hq;rw[rl _ ab,rl _ ab] at e;exact e
  ·rw[List.mem_singleton] at hp;subst hp;rw[rl _ ab,rl _ ab] at e;exact e
  ·rw[List.mem_singleton] at hp hq;subst hp;subst hq;rfl
def aif(m1 m2:List<|Int×Int)(s':AS)(y:AV):Prop:=y= .tuple []/\s'.h.get 270=some (bz<|fj m1 m2)/\s'.h.get 271=some (bz m2)
theorem aih(m1 m2:List<|Int×Int):aif m1 m2 (ah [(270,some<|bz<|fj m1 m2),(271,some<|bz m2)] 272)<|.tuple []:=⟨rfl,by kernel_rfl,by kernel_rfl⟩
theorem WL(mc:Mt [] B):au pg B 272 (FM m1 m2) ⟨61,aE [(9,.bool false)],max Tryz.f61.ntmps 2,KN,[],none⟩<|ah [(270,some<|bz<|fj m1 m2),(271,some<|bz m2)] 272:=lW (E:=nh) eQ rfl bH mc.2.2.1 mc.2.2.2 900 (.rt 4 .no)<|aih m1 m2
theorem O9(mc:Mt [] B)(hk:dU m1)(hp:d.Perm<|fj m1 m2):au pg B 272 (FM m1 m2) (fF (aE l0) (.tuple [.bool false]) false)<|ah (ar++[(270,some<|bz d),(271,some<|bz m2),(272,none)]) 273:=au.rn (l0:=[(9,.bool false)]) (o0:=[(270,some<|bz d),(271,some<|bz m2)]) Jc bY bY (by rw[mc.1];exact VY hk hp)<|WL mc
theorem Pa(mc:Mt [] B)(hk:dU m1)(hp:d.Perm<|fj m1 m2):au pg B 272 (FM m1 m2) (fF (aE<|lx k0 v0) (.tuple [.bool false]) false)<|ah (ar++[(270,some<|bz d),(271,some<|bz m2),(272,none)]) 273:=au.rn (l0:=[(9,.bool false)]) (o0:=[(270,some<|bz d),(271,some<|bz m2)]) Jc bY bY (by rw[mc.1];exact VY hk hp)<|WL mc
theorem CP(h:cq left=[]):left=[]:=by cases left with|nil=>rfl|cons _ _=>cases h
theorem agO(mc:Mt [] B)(hk:dU m1)(KY:dU m2):∀(n:Nat) (left Ek d:List<|Int×Int) (k v:Int) (cur:Option<|AV×AV),left.length=n->m2.Perm (Ek++left)->d=fj m1 Ek->
 au pg B 272 (FM m1 m2) (fp<|aE<|lx k v) (jt m2 d left cur):=by
 intro n;induction n with
 |zero=>intro left Ek d k v cur hn hp hd;have hl:=List.eq_nil_of_length_eq_zero hn;subst hl;refine au.next mc.2.2.1 mc.2.2.2 (asks _) (by show 272<=273;omega) VX (fun _=>⟨_,_,Jy,Pa mc hk ?_⟩) (fun x r h=>by cases h);rw[hd,List.append_nil] at*;exact ZR hk ((hp.map (·.1)).nodup_iff.1 KY) hp.symm
 |succ n ih=>intro left Ek d k v cur hn hp hd;refine au.next mc.2.2.1 mc.2.2.2 (asks _) (by show 272<=273;omega) VX (fun h=>by rw[CP h] at hn;cases hn) fun x r h=>?_;obtain⟨p,l',rfl,rfl,B7⟩:=HH h;refine⟨_,_,isX,O8 mc ?_⟩;refine ih l' (Ek++[p]) _ _ _ _ (by have:=B7.length_eq;rw[List.length_cons] at this;omega) ?_ (by rw[ZS,hd]);rw[List.append_assoc];exact hp.trans<|B7.append_left Ek
theorem agP(mc:Mt [] B)(hk:dU m1)(KY:dU m2):au pg B 272 (FM m1 m2) (fp<|aE l0)<|jt m2 m1 m2 none:=by
 refine au.next mc.2.2.1 mc.2.2.2 (asks _) (by show 272<=273;omega) agM (fun h=>⟨_,_,agN,O9 mc hk ?_⟩) fun x r h=>?_
 ·rw[CP h];exact List.Perm.refl _
 ·obtain⟨p,l',rfl,rfl,B7⟩:=HH h;refine⟨_,_,is0,O7 mc ?_⟩;exact agO mc hk KY l'.length l' [p] _ _ _ _ rfl B7 rfl
end
def yo:FuncId×KE:=(61,.raw vY)
theorem Vo(hP:bR pg){L:bO}(h:aY L):aY<|yo::L:=by refine aeO hP gS (aM.1 aV) jQ ji me lQ h dc Tryz.func61 (body:=aS pg 61 []) aV aV fun m1 m2 k1 k2=>?_;refine⟨aM.1 aV,fun B mc=>?_⟩;exact au.chunk (k:=5) (aO:=fp<|aE l0) (s1:=jt m2 m1 m2 none) bH mc.2.2.1 mc.2.2.2 bY (by show 272<=272;omega)<|agP mc k1 k2
end
end PQ
end
