import Derived.Test.YtphenfaomchomaaGreatDoorAtGJ
import Derived.Test.YtphenfaomchomaaGreatDoorRnGH
set_option maxRecDepth 100000
set_option maxHeartbeats 8000000
set_option linter.unusedSimpArgs false
set_option linter.unusedVariables false
section
open Go Go.Rn Go.RowKit Go.Proofs
namespace mI
open cj cH cU dm eZ fQ tV dq mQ
variable {rd:mA} {k:Nat} {K:Cb} {L0:bO}
theorem aal(l:List St):FO (.U (nm<|bz l) 0 l.length)=some l:=by
 unfold FO;have h:∃l':List St,AV.U (nm<|bz l) 0 l.length= .U (nm<|bz l') 0 l'.length:=⟨l,rfl⟩;rw[dif_pos h];have e:=h.choose_spec;injection e with e1 e2 e3
 exact congrArg some (sD _ _<|te (lO _) (lO _) e1).symm
theorem aam{x:AV}{l:List St}(h:FO x=some l):x= .U (nm<|bz l) 0 l.length:=by
 unfold FO at h;split at h
 ·rename_i q;injection h with h
  rw[←h];exact q.choose_spec
 ·cases h
theorem UQ(jM:K.s1<top)(kH:K.s2<top)(mP:K.s1≠K.s2)(c d:Nat):(aC [(K.s1,AV.ptr<|some (c,0)),(K.s2,.ptr<|some (d,0))]).get K.s1=some (.ptr<|some (c,0))/\(aC [(K.s1,AV.ptr<|some (c,0)),(K.s2,.ptr<|some (d,0))]).get K.s2=some (.ptr<|some (d,0)):=by
 constructor
 ·show(((Tr.nil:Tr AV).put K.s2 _).put K.s1 _).get K.s1=_;rw[Tr.lP _ _ _ _ jM,if_pos rfl]
 ·show(((Tr.nil:Tr AV).put K.s2 _).put K.s1 _).get K.s2=_;rw[Tr.lP _ _ _ _ jM,if_neg fun e=>mP e.symm,Tr.lP _ _ _ _ kH,if_pos rfl]
structure yA (K:Cb) (L:bO) (rd:mA):Prop where
 s1:K.s1<top
 s2:K.s2<top
 Ey:K.s1≠K.s2
 run:∀s v1 v2 p,rd s v1 v2=some p->okB v1->okB v2->(okB p.v1/\okB p.v2/\(p.ret=true->p.bN=none))/\∃g,aZ pg (sp L) FU 6 (.round 270) [.agg<|aL s] (sE K v1 v2<|aL s)= .ok (.bool p.ret) (sA K p.bN p.v1 p.v2 (aL s) g)
def Pm(rd:mA):Prop:=∀s v1 v2 p,rd s v1 v2=some p->okB v1->okB v2->okB p.v1/\okB p.v2/\(p.ret=true->p.bN=none)
theorem VK{ek:List St->AV->AV->Option fx}{rd:mA}(hr:Pm rd)(he:∀l v1 v2 p,ek l v1 v2=some p->okB v1->okB v2->okB p.v1/\okB p.v2/\(p.ret=true->p.bN=none)):∀l v1 v2 p,kL ek rd l v1 v2=some p->okB v1->okB v2->okB p.v1/\okB p.v2/\(p.ret=true->p.bN=none)
 |[],v1,v2,p,h,o1,o2=>by
  have h:some (⟨true,v1,v2,none⟩:fx)=some p:=h;injection h with h;subst h
  exact⟨o1,o2,fun _=>rfl⟩
 |s::r,v1,v2,p,h,o1,o2=>by
  unfold kL at h;split at h
  ·cases h
  rename_i q e;obtain⟨a1,a2,a3⟩:=hr _ _ _ _ e o1 o2;split at h
  ·injection h with h;subst h;exact⟨a1,a2,a3⟩
  split at h
  ·cases h
  rename_i q2 e2;obtain⟨b1,b2,b3⟩:=he _ _ _ _ e2 a1 a2;split at h
  ·injection h with h;subst h;exact⟨b1,b2,b3⟩
  split at h
  ·cases h
  rename_i q3 e3;obtain⟨c1,c2,c3⟩:=he _ _ _ _ e3 b1 b2;split at h
  ·injection h with h;subst h;exact⟨c1,c2,c3⟩
  exact VK hr he r _ _ p h c1 c2
theorem Nl(hr:Pm rd):∀k l v1 v2 p,fE rd k l v1 v2=some p->okB v1->okB v2->okB p.v1/\okB p.v2/\(p.ret=true->p.bN=none)
 |0,l,v1,v2,p,h,_,_=>by cases h
 |k+1,l,v1,v2,p,h,o1,o2=>by
  unfold fE at h;split at h
  ·exact VK hr (Nl hr k) l v1 v2 p h o1 o2
  ·cases h
theorem MO{l:List St}{v1 v2:AV}(o1:okB v1)(o2:okB v2):zr rd k (.U (nm<|bz l) 0 l.length) v1 v2=fE rd k l v1 v2:=by unfold zr;rw[aal];exact if_pos ⟨o1,o2⟩
theorem tj(l:List St):AV.hi (.U (nm<|bz l) 0 l.length)=true:=aK.2<|cN _
theorem UR{l:List St}{v1 v2:AV}{p:fx}{c:List AV}{g:Option ae}(jM:K.s1<top)(kH:K.s2<top)(mP:K.s1≠K.s2)(o1:okB v1)(o2:okB v2)(h:fE rd k l v1 v2=some p)(o3:okB p.v1/\okB p.v2):
 aZ pg (sp<|dh K rd k::L0) FU 6 (.fn 66) [.U (nm<|bz l) 0 l.length,.yield 270] (sA K none v1 v2 c g)= .ok (.bool p.ret) (sA K p.bN p.v1 p.v2 c g):=by
 have ur:sp (dh K rd k::L0) 66=some (qQ K (zr rd k) 270 dV dH):=by kernel_rfl
 have I:Kq K (sA K none v1 v2 c g) 270 271 272 273 v1 v2:=by
  refine⟨rfl,(aK.1 aU:276<=top),⟨by show 270<276;omega,by show 271<276;omega,by show 272<276;omega,by show 273<276;omega⟩,⟨by omega,by omega,by omega,by omega,by omega,by omega⟩,⟨aC [(K.s1,.ptr<|some (272,0)),(K.s2,.ptr<|some (273,0))],?_,(UQ jM kH mP 272 273).1,(UQ jM kH mP 272 273).2⟩,?_,⟨eN v1,?_,wJ _⟩,⟨eN v2,?_,wJ _⟩⟩
  ·as_aux_lemma=>kernel_rfl
  ·as_aux_lemma=>kernel_rfl
  ·as_aux_lemma=>kernel_rfl
  ·as_aux_lemma=>kernel_rfl
 have key:=NW (P:=pg) (F:=FU) (n:=5) ur (tj l) bW I ((MO o1 o2).trans h) o1 o2 o3.1 o3.2;rw[show Lf K (sA K none v1 v2 c g) 270 271 272 273 p=sA K p.bN p.v1 p.v2 c g from by as_aux_lemma=>kernel_rfl] at key;exact key
theorem aa9(hP:bS pg)(R:yA K (dh K rd k::L0) rd)(h':aX<|dh K rd k::L0){L:bO}(h:aX L):aX<|dh K rd (k+1)::L:=by
 refine VF hP gT (aK.1 aU) R.s1 R.s2 R.Ey jT jq mr lY h h' Tryz.func66 (body:=aQ pg 66 []) aU aU fun x v1 v2 p e=>?_;unfold zr at e;split at e
 ·cases e
 rename_i l el;rw[aam el];split at e;rotate_left
 ·cases e
 rename_i ok;unfold fE at e;split at e;rotate_left
 ·cases e
 rename_i hlen;have hlen:=of_decide_eq_true hlen;have hg:Pm rd:=fun s a b p e x y=>(R.run s a b p e x y).1;refine⟨aK.1 aU,fun B mc=>?_⟩;show au pg B 274 (rO K 270 pg (az Tryz.f66) p) (sF 66 Tryz.f66 [.U (nm<|bz l) 0 l.length,.yield 270])<|ah (oE K v1 v2) 274;have key:∀(r:List St) (i:Nat) (v1 v2:AV) (p:fx),l.drop i=r->okB v1->okB v2->kL (fE rd k) rd r v1 v2=some p->au pg B 274 (rO K 270 pg (az Tryz.f66) p) (rC (nm<|bz l) l.length i) (ah (oE K v1 v2) 274):=by
  intro r;induction r with
  |nil=>
   intro i v1 v2 p hr _ _ e;have e:some (⟨true,v1,v2,none⟩:fx)=some p:=e;injection e with e;subst e
   exact afu mc (by have:l.length<=i:=List.drop_eq_nil_iff.1 hr;omega)
  |cons a r ih=>
   intro i v1 v2 p hr o1 o2 e;have hl:i<l.length:=by
    by_cases q:i<l.length
    ·exact q
    ·rw[List.drop_of_length_le ab] at hr;cases hr
   have ha:l[i]? =some a:=by have:=congrArg (fun q=>q[0]?) hr;simp only[List.getElem?_drop,List.getElem?_cons_zero,Nat.add_zero] at this;exact this
   have kf:l.drop (i+1)=r:=by have:=congrArg (List.drop 1) hr;rw[List.drop_drop] at this;exact this
   have hx:=Fo ha (z:=(i:Int)) ab;unfold kL at e;split at e
   ·cases e
   rename_i q eq1;obtain⟨⟨a1,a2,a3⟩,g,run⟩:=R.run _ _ _ _ eq1 o1 o2;obtain⟨kd,to,⟨oa,na,la⟩,⟨ob,nb,lb⟩,bd,el⟩:=a;rw[aL,aB,aB] at hx run;split at e
   ·rename_i qr;injection e with e;subst e
    rw[qr] at run;obtain⟨ret,w1,w2,bN⟩:=q;simp only at qr;subst qr;exact ah8 (u1:=v1) (u2:=v2) (x1:=v1) (x2:=v2) (pf:=⟨true,v1,v2,none⟩) mc (cN _) ab hlen hx run ab
   rename_i qr;rw[qr,a3 qr] at run;split at e
   ·cases e
   rename_i q2 X8;obtain⟨b1,b2,b3⟩:=Nl hg _ _ _ _ _ X8 a1 a2;have hb:=UR (K:=K) (L0:=L0) (c:=[(u8<|kd),(i6 to),(u8<|oa),(i6 na),(.U (nm<|cK la) 0 la.length),(u8<|ob),(i6 nb),(.U (nm<|cK lb) 0 lb.length),(.U (nm<|bz bd) 0 bd.length),(.U (nm<|bz el) 0 el.length)]) (g:=g) R.s1 R.s2 R.Ey a1 a2 X8 ⟨b1,b2⟩;split at e
   ·rename_i Ez;injection e with e;subst e
    rw[Ez] at hb;obtain⟨al3,u1,u2,alU⟩:=q2;simp only at Ez;subst Ez;exact ah9 (x1:=v1) (x2:=v2) (pf:=⟨true,v1,v2,none⟩) mc (cN _) ab hlen hx run hb ab
   rename_i Ez;rw[Ez,b3 Ez] at hb;split at e
   ·cases e
   rename_i q3 X9;obtain⟨c1,c2,c3⟩:=Nl hg _ _ _ _ _ X9 b1 b2;have ho:=UR (K:=K) (L0:=L0) (c:=[(u8<|kd),(i6 to),(u8<|oa),(i6 na),(.U (nm<|cK la) 0 la.length),(u8<|ob),(i6 nb),(.U (nm<|cK lb) 0 lb.length),(.U (nm<|bz bd) 0 bd.length),(.U (nm<|bz el) 0 el.length)]) (g:=g) R.s1 R.s2 R.Ey b1 b2 X9 ⟨c1,c2⟩;split at e
   ·rename_i EA;injection e with e;subst e
    rw[EA] at ho;obtain⟨al4,x1,x2,alV⟩:=q3;simp only at EA;subst EA;exact aia (pf:=⟨true,v1,v2,none⟩) mc (cN _) ab hlen hx run hb ho ab
   rename_i EA;rw[EA,c3 EA] at ho;exact aib (bN:=none) mc (cN _) ab hlen hx run hb ho ab R.s1 R.s2 R.Ey c1 c2<|ih (i+1) _ _ _ kf c1 c2 e
 exact agt mc (cN _) R.s1 R.s2 R.Ey ok.1 ok.2<|key l 0 v1 v2 p List.drop_zero ok.1 ok.2 e
theorem AH(hP:bS pg){K:Cb}{rd:mA}{L0:bO}(R:∀k,yA K (dh K rd k::L0) rd)(h0:aX L0):∀(k:Nat) {L:bO},aX L->aX (dh K rd k::L)
 |0,L,h=>by
  refine VF hP gT (aK.1 aU) (R 0).s1 (R 0).s2 (R 0).Ey jT jq mr lY h de Tryz.func66 (body:=aQ pg 66 []) aU aU fun x v1 v2 p e=>?_;unfold zr at e;split at e
  ·cases e
  split at e
  ·cases e
  ·cases e
 |k+1,L,h=>aa9 hP (R k) (AH hP R h0 k h0) h
end mI
end
section
open Go Go.Rn Go.RowKit Go.Proofs
namespace tW
open cj cH cU dm eZ fQ dq uw mQ mI
variable {rd:mA} {k N L kd:Nat} {p:fx} {B:aI} {v:AV} {n2 n1:Int}
noncomputable section
theorem Ha(v:AV)(s:AS):(none:Option Nat)=none/\([]:List Nat)=[]/\(some (v,s):Option<|AV×AS)=some (v,s):=⟨rfl,rfl,rfl⟩
def ky(L:bO):Env:=yd pg 270 dV dH L 270 false
def EB:Code:=aQ pg 47 [1,0,1,0,0]
def Ci:Code:=aQ pg 47 [1,0,1,0,1]
def KC:Cb:=⟨47,21,[7],EB,Ci,2,3⟩
def sBC(v1 v2:AV)(c:List AV):AS:=⟨((sE KC v1 v2 c).h.put 275<|some<|.cells 10 (Tr.fill c 0 .nil) []).put 270<|some<|.loop .busy none 47 (aC [(2,.ptr<|some (272,0)),(3,.ptr<|some (273,0))]) 21 [7] EB Ci 271,276,0,[],[]⟩
noncomputable abbrev rA(kk to oa na:Int)(Na La:Nat)(ob nb:Int)(Nb Lb Nd ld Ne le:Nat):List AV:=[(u8<|kk),(i6 to),(u8<|oa),(i6 na),(.U Na 0 La),(u8<|ob),(i6 nb),(.U Nb 0 Lb),(.U Nd 0 ld),(.U Ne 0 le)]
theorem agu{Na La Nb Lb Nd ld Ne le:Nat}{kk to oa na ob nb:Int}{ca cb:Int}(h1:0<=n1/\n1<1000000000000)(h2:0<=n2/\n2<1000000000000)(h3:0<=ca/\ca<=1000000)(h4:0<=cb/\cb<=1000000)(hca:bj (aR<|zb kd) [(.agg [(u8<|oa),(i6 na),(.U Na 0 La)])]=some (.int .i64 ca))(hcb:bj (aR<|zb kd) [(.agg [(u8<|ob),(i6 nb),(.U Nb 0 Lb)])]=some (.int .i64 cb)):aZ pg (sp<|dh KC rd k::[py kd]) FU 6 (.round 270) [.agg<|rA kk to oa na Na La ob nb Nb Lb Nd ld Ne le] (sE KC (i6 n1) (i6 n2)<|rA kk to oa na Na La ob nb Nb Lb Nd ld Ne le)= .ok (.bool true) (sA KC none (i6<|n1+1) (i6<|n2+(ca+cb)) (rA kk to oa na Na La ob nb Nb Lb Nd ld Ne le)<|some<|.cells 10 (Tr.fill (rA kk to oa na Na La ob nb Nb Lb Nd ld Ne le) 0 .nil) []):=ER (st:=.ready) (bN:=none) (fn:=47) (nt:=21) (d:=271) (t:=(aC [(2,.ptr<|some (272,0)),(3,.ptr<|some (273,0))])) (ps:=[7]) (a:=EB) (b:=Ci) (s0:=sE KC (i6 n1) (i6 n2)<|rA kk to oa na Na La ob nb Nb Lb Nd ld Ne le) bW rfl<|Chunk.ev 2 ⟨47,jz [7] [.agg<|rA kk to oa na Na La ob nb Nb Lb Nd ld Ne le]<|aC [(2,.ptr<|some (272,0)),(3,.ptr<|some (273,0))],21,[.code EB,.beginRound,.code Ci],[],some 270⟩ ⟨47,((jz [7] [.agg<|rA kk to oa na Na La ob nb Nb Lb Nd ld Ne le]<|aC [(2,.ptr<|some (272,0)),(3,.ptr<|some (273,0))]).put 4<|some<|.ptr<|some (275,0)),21,[.code Ci],[],some 270⟩ _ (sBC (i6 n1) (i6 n2)<|rA kk to oa na Na La ob nb Nb Lb Nd ld Ne le) bW<|CN (E:=ky<|dh KC rd k::[py kd]) (C:=(fun fr s1 _=>fr.round=none/\fr.defers=[]/\AR pg (aZ pg (sp<|dh KC rd k::[py kd]) FU 5) 270 fr s1=some ((.bool true),(sA KC none (i6<|n1+1) (i6<|n2+(ca+cb)) (rA kk to oa na Na La ob nb Nb Lb Nd ld Ne le)<|some<|.cells 10 (Tr.fill (rA kk to oa na Na La ob nb Nb Lb Nd ld Ne le) 0 .nil) [])))) eT rfl (fun fr s p h=>EP h.1 h.2.1 h.2.2) 900 (.st 2<|.rg<|.go 1<|.vl (i6<|n1+1)<|.go 1<|.en<|.rg<|.go 3<|.kn (i6 ca)<|.go 2<|.kn (i6 cb)<|.vl (i6<|ca+cb)<|.vl (i6<|n2+(ca+cb))<|.go 1<|.en<|.st 1<|.cut .no)<|ai (wI<|n1+1)<|ai hca<|ai hcb<|ai (wI<|ca+cb)<|ai (wI<|n2+(ca+cb))<|Ha (.bool true)<|sA KC none (i6<|n1+1) (i6<|n2+(ca+cb)) (rA kk to oa na Na La ob nb Nb Lb Nd ld Ne le)<|some<|.cells 10 (Tr.fill (rA kk to oa na Na La ob nb Nb Lb Nd ld Ne le) 0 .nil) []
def yB(N L:Nat):List<|Nat×AV:=[(2,(.ptr<|some (270,0))),(3,(.ptr<|some (271,0))),(6,(.func (.func 65) [] [(.ptr<|some (272,0))]))]
def si(v1 v2:AV)(N L:Nat):List<|Nat×Option ae:=ak++[(270,some<|eN v1),(271,some<|eN v2),(272,(some<|.cells 1 (Tr.fill [(.U N 0 L)] 0 .nil) []))]
def yC(v1 v2:AV)(N L:Nat):AS:=ah (si v1 v2 N L++[(273,some .defs),(274,some<|.loop .ready none 47 (aC<|yB N L) 21 KC.ps EB Ci 273)]) 275
def sj(p:fx)(N L:Nat):AS:=ah (si p.v1 p.v2 N L++[(273,some .defs),(274,some<|Cb.loop KC p.bN 270 271 273)]) 275
def Ll(p:fx)(N L:Nat):AS:=ah (si p.v1 p.v2 N L++[(273,some .defs),(274,some<|.loop .exhausted p.bN KC.fn (aC [(KC.s1,.ptr<|some (270,0)),(KC.s2,.ptr<|some (271,0))]) KC.nt KC.ps KC.a KC.b 273)]) 275
theorem agv{L0:bO}{v1 v2:AV}{l:List St}(hN:N=nm (bz l))(hl:L=l.length)(o1:okB v1)(o2:okB v2)(h:fE rd k l v1 v2=some p)(o3:okB p.v1/\okB p.v2):
 aZ pg (sp<|dh KC rd k::L0) FU 5 (.fn 66) [.U N 0 L,.yield 274] (yC v1 v2 N L)= .ok (.bool p.ret) (sj p N L):=by
 subst hN;subst hl;have ur:sp (dh KC rd k::L0) 66=some (qQ KC (zr rd k) 270 dV dH):=by kernel_rfl
 have I:Kq KC (yC v1 v2 (nm<|bz l) l.length) 274 273 270 271 v1 v2:=by
  refine⟨rfl,(aK.1 aU:275<=top),⟨by show 274<275;omega,by show 273<275;omega,by show 270<275;omega,by show 271<275;omega⟩,⟨by omega,by omega,by omega,by omega,by omega,by omega⟩,⟨aC<|yB (nm<|bz l) l.length,?_,?_,?_⟩,?_,⟨eN v1,?_,wJ _⟩,⟨eN v2,?_,wJ _⟩⟩
  all_goals (as_aux_lemma=>kernel_rfl)
 have key:=NW (P:=pg) (F:=FU) (n:=4) ur (tj l) bW I ((MO o1 o2).trans h) o1 o2 o3.1 o3.2;rw[show Lf KC (yC v1 v2 (nm<|bz l) l.length) 274 273 270 271 p=sj p (nm<|bz l) l.length from by as_aux_lemma=>kernel_rfl] at key;exact key
theorem aic{v1 v2:AV}(hE:aZ pg (sp<|dh KC rd k::[py kd]) FU 5 (.fn 66) [.U N 0 L,.yield 274] (yC v1 v2 N L)= .ok (.bool p.ret) (sj p N L)):sd (ky<|dh KC rd k::[py kd]) 5 (az Tryz.f65) (fun v s=>v= .tuple []/\s=(sj p N L)) (sF 65 Tryz.f65 [.yield 274,.ptr<|some (272,0)])<|yC v1 v2 N L:=by exact F5 (C:=fun _ _ _=>False) eT rfl (fun _ _ _ h=>h.elim) 900 (.rg<|.go 2<|.cu (.bool p.ret) (sj p N L)<|.en<|.rt 1 .no)<|ai hE (show(AV.tuple []=AV.tuple []/\(sj p N L)=(sj p N L)) from⟨rfl,rfl⟩)
theorem alC{v1 v2:AV}(hE:aZ pg (sp<|dh KC rd k::[py kd]) FU 5 (.fn 66) [.U N 0 L,.yield 274] (yC v1 v2 N L)= .ok (.bool p.ret) (sj p N L)):aZ pg (sp<|dh KC rd k::[py kd]) FU 6 (.fn 65) [.yield 274,.ptr<|some (272,0)] (yC v1 v2 N L)= .ok (.tuple []) (sj p N L):=by obtain⟨v,s2,h1,rfl,rfl⟩:=sd.call (E:=ky<|dh KC rd k::[py kd]) (n:=5) Tryz.func65 (Fk Tryz.func65 bW)<|aic (v1:=v1) (v2:=v2) hE;exact h1
theorem xK:aQ pg 47 [1,0,1,0]= .rangeFunc (.tmp 6) #[7] EB Ci:=by kernel_rfl
def Lm:List Item:=[.inBlock 0,.code<|aQ pg 47 [1,1]]
def DZ(N L:Nat):AF:=⟨47,aC<|yB N L,21,.code (aQ pg 47 [1,0,1,0])::Lm,[],none⟩
theorem agw:lQ 274 (sj p N L)= .ok p.bN (Ll p N L):=by
 obtain⟨r,v1,v2,bN⟩:=p;cases bN with
 |none=>as_aux_lemma=>kernel_rfl
 |some c=>as_aux_lemma=>kernel_rfl
theorem rgC{v1 v2:AV}(mc:Mt (dh KC rd k::[py kd]) B)(hE:aZ pg (sp<|dh KC rd k::[py kd]) FU 5 (.fn 66) [.U N 0 L,.yield 274] (yC v1 v2 N L)= .ok (.bool p.ret) (sj p N L))(H:au pg B 270 (Fin pg (az Tryz.f47) fun y _=>y=v) ⟨47,aC<|yB N L,21,andThen p.bN Lm,[273],none⟩<|Ll p N L):au pg B 270 (Fin pg (az Tryz.f47) fun y _=>y=v) (DZ N L)<|ah (si v1 v2 N L) 273:=by unfold DZ;rw[xK];exact au.chunk bI mc.2.2.1 mc.2.2.2 (Im (gv:=.func (.func 65) [] [.ptr<|some (272,0)]) (s1:=ah (si v1 v2 N L++[(273,some .defs)]) 274) (s2:=yC v1 v2 N L) bW bW bW (alC (rd:=rd) (k:=k) (kd:=kd) hE) (show lQ 274 (sj p N L)= .ok p.bN (Ll p N L) from agw)) (by show 270<=273;omega) H
theorem aid(N L:Nat):((yB N L).map (fun q=>some q.2)=(yB N L).map (fun q=>some q.2))/\((si (.int .i64 0) (.int .i64 0) N L).map (fun q=>q.2)=(si (.int .i64 0) (.int .i64 0) N L).map (fun q=>q.2))/\(DZ N L=DZ N L/\ah (si (.int .i64 0) (.int .i64 0) N L) 273=ah (si (.int .i64 0) (.int .i64 0) N L) 273):=⟨rfl,rfl,rfl,rfl⟩
theorem goC(mc:Mt (dh KC rd k::[py kd]) B)(hn:top<=N)(H:au pg B 270 (Fin pg (az Tryz.f47) fun y _=>y=v) (DZ N L)<|ah (si (.int .i64 0) (.int .i64 0) N L) 273):au pg B 270 (Fin pg (az Tryz.f47) fun y _=>y=v) (sF 47 Tryz.f47 [(.U N 0 L)])<|ah ak 270:=by exact wC mc (C:=(fun fr s1 _=>fr=DZ N L/\s1=ah (si (.int .i64 0) (.int .i64 0) N L) 273)) mT (.st 4<|.rg<|.go 1<|.il<|.rt 5<|.en<|.st 1<|.ls (yB N L) (si (.int .i64 0) (.int .i64 0) N L) 273 .no)<|aid N L
theorem enC{r:Bool}(mc:Mt (dh KC rd k::[py kd]) B):au pg B 270 (Fin pg (az Tryz.f47) fun y _=>y= .tuple [.int .i64 n1,.int .i64 n2]) ⟨47,aC<|yB N L,21,andThen none Lm,[273],none⟩<|Ll ⟨r,.int .i64 n1,.int .i64 n2,none⟩ N L:=(MP (l:=273) (k:=8) (fr:=⟨47,aC<|yB N L,21,Lm,[],none⟩) bI mc.2.2.1 mc.2.2.2 rfl rfl bW).2.2 (by show 270<=275;omega)
end
end tW
end
section
open Go Go.Rn Go.RowKit Go.Proofs
namespace rD
open cj cH cU dm eZ BH fQ tV dq uw mQ mI tW
variable {kd:Nat} {e:Ex}
noncomputable section
def cV:St->Ex
 | .mk _ _ a _ _ _=>a
def iv:St->Ex
 | .mk _ _ _ b _ _=>b
def Po(kd:Nat)(s:St)(n1 n2:Int):Prop:=(0<=n1/\n1<1000000000000)/\(0<=n2/\n2<1000000000000)/\tF kd (cV s)=true/\tF kd (iv s)=true/\lz kd (cV s)<=1000000/\lz kd (iv s)<=1000000
open Classical in
def o9(kd:Nat):mA:=fun s v1 v2=>match v1,v2 with
 | .int .i64 n1,.int .i64 n2=>if Po kd s n1 n2 then some ⟨true,.int .i64<|n1+1,.int .i64<|n2+(mf kd (cV s)+mf kd (iv s)),none⟩ else none
 |_,_=>none
theorem wv(n:Int):okB<|.int .i64 n:=⟨rfl,rfl⟩
theorem T5(h:tF kd e=true)(h2:lz kd e<=1000000):0<=mf kd e/\mf kd e<=1000000:=by have:=E9 kd e h;unfold mf;split<;>omega
theorem T6(h:tF kd e=true)(h2:lz kd e<=1000000):bj (aR<|zb kd) [.agg<|aB e]=some (i6<|mf kd e):=eO (eK zb.bM ⟨e,rfl,h,h2,rfl⟩) rM rfl
theorem US{s:St}{v1 v2:AV}{p:fx}(h:o9 kd s v1 v2=some p):∃n1 n2,v1= .int .i64 n1/\v2= .int .i64 n2/\Po kd s n1 n2/\p=⟨true,.int .i64<|n1+1,.int .i64<|n2+(mf kd (cV s)+mf kd (iv s)),none⟩:=by
 unfold o9 at h;split at h
 ·rename_i n1 n2;split at h
  ·rename_i q;injection h with h
   exact⟨n1,n2,rfl,rfl,q,h.symm⟩
  ·cases h
 ·cases h
theorem aie(kd k:Nat):yA KC (dh KC (o9 kd) k::[py kd])<|o9 kd:=by refine⟨aK.1 aU,aK.1 aU,(by show(2:Nat)≠3;omega),fun s v1 v2 p h _ _=>?_⟩;obtain⟨n1,n2,rfl,rfl,⟨h1,h2,h3,h4,h5,h6⟩,rfl⟩:=US h;refine⟨⟨wv _,wv _,fun _=>rfl⟩,some<|.cells 10 (Tr.fill (aL s) 0 .nil) [],?_⟩;have ca:=T6 h3 h5;have cb:=T6 h4 h6;have na:=T5 h3 h5;have nb:=T5 h4 h6;obtain⟨kk,to,⟨oa,xa,la⟩,⟨ob,xb,lb⟩,bd,el⟩:=s;simp only[cV,iv] at ca cb na nb ⊢;rw[aL,aB,aB];rw[aB] at ca cb;exact agu h1 h2 na nb ca cb
def P6(p:fx):Prop:=p.ret=true/\p.bN=none/\∃n1 n2,p.v1= .int .i64 n1/\p.v2= .int .i64 n2
theorem UT{kd:Nat}{ek:List St->AV->AV->Option fx}(he:∀l n1 n2 p,ek l (.int .i64 n1) (.int .i64 n2)=some p->P6 p):∀l n1 n2 p,kL ek (o9 kd) l (.int .i64 n1) (.int .i64 n2)=some p->P6 p
 |[],n1,n2,p,h=>by
  have h:some (⟨true,.int .i64 n1,.int .i64 n2,none⟩:fx)=some p:=h;injection h with h;subst h
  exact⟨rfl,rfl,_,_,rfl,rfl⟩
 |s::r,n1,n2,p,h=>by
  unfold kL at h;split at h
  ·cases h
  rename_i q e;obtain⟨m1,m2,e1,e2,_,rfl⟩:=US e;cases e1;cases e2;simp only at h;split at h
  ·cases h
  rename_i q2 e2;obtain⟨b1,b2,x1,x2,y1,y2⟩:=he _ _ _ _ e2;rw[b1] at h;simp only at h;rw[y1,y2] at h;split at h
  ·cases h
  rename_i q3 e3;obtain⟨c1,c2,x3,x4,y3,y4⟩:=he _ _ _ _ e3;rw[c1] at h;simp only at h;rw[y3,y4] at h;exact UT he r _ _ p h
theorem Tn:∀k l n1 n2 p,fE (o9 kd) k l (.int .i64 n1) (.int .i64 n2)=some p->P6 p
 |0,_,_,_,_,h=>by cases h
 |k+1,l,n1,n2,p,h=>by
  unfold fE at h;split at h
  ·exact UT (Tn k) l n1 n2 p h
  ·cases h
def BI(kd k:Nat)(args:List AV)(v:AV):Prop:=∃(l:List St) (p:fx),args=[.U (nm<|bz l) 0 l.length]/\fE (o9 kd) k l (.int .i64 0) (.int .i64 0)=some p/\v= .tuple [p.v1,p.v2]
theorem adK{l l':List St}(h:[AV.U (nm<|bz l) 0 l.length]=[.U (nm<|bz l') 0 l'.length]):l=l':=by
 injection h with h _
 injection h with h1 _ _
 exact sD _ _<|te (lO _) (lO _) h1
theorem BI.bM{k:Nat}(args:List AV)(v v':AV)(h:BI kd k args v)(h':BI kd k args v'):v=v':=by
 obtain⟨l,p,rfl,a,rfl⟩:=h;obtain⟨l',p',h1,a',rfl⟩:=h';rw[adK h1,a'] at a;injection a with a
 rw[a]
def lH(kd k:Nat):FuncId×KE:=(47,.val<|aR<|BI kd k)
theorem adL(hP:bS pg)(kd k:Nat){L:bO}(h:aX L):aX<|lH kd k::L:=by refine gE hP h (AH hP (fun k=>aie kd k) (Ti hP kd de) k<|Ti hP kd de) Tryz.func47 fun args v e=>?_;obtain⟨l,p,rfl,he,rfl⟩:=fS e;refine⟨aK.1 aU,fun B mc=>?_⟩;rw[←hI];obtain⟨r1,r2,n1,n2,v1,v2⟩:=Tn k l 0 0 p he;obtain⟨ret,w1,w2,bN⟩:=p;simp only at r1 r2 v1 v2;subst r1;subst r2;subst v1;subst v2;exact goC (rd:=o9 kd) (k:=k) (kd:=kd) mc (cN _)<|rgC mc (agv (rd:=o9 kd) (k:=k) rfl rfl (wv _) (wv _) he ⟨wv _,wv _⟩)<|enC mc
end
end rD
end
section
open Go Go.Rn Go.RowKit Go.Proofs
namespace vS
open cj cH cU dm fF eZ fQ dq uw Ch vP xN mQ mI
variable {xb xa to ob oa nb na:Int} {ld Ne Nd Nb Na Lb La:Nat} {B:aI}
theorem agx{le:Nat}{kk z xa xb:Int}(mc:Mt [wu,vC,vB] B)(ho:bj (aR kx) [.int .u8 kk]=some (.agg [.bool false,.bool false,.bool false,.bool false,.bool false,.bool false])):au pg B 270 (Fin pg (az Tryz.f49) fun y _=>y=(.bool<|decide<|False)) (sF 49 Tryz.f49 [(.agg [(u8<|kk),(i6 to),(u8<|oa),(i6 na),(.U Na 0 La),(u8<|ob),(i6 nb),(.U Nb 0 Lb),(.U Nd 0 ld),(.U Ne 0 le)]),(i6 z)])<|ah ak 270:=by exact wS mc (.st 3<|.rg<|.go 2<|.kn (.agg [(.bool false),(.bool false),(.bool false),(.bool false),(.bool false),(.bool false)])<|.go 2<|.en<|.rt 10 .no)<|ai ho (show AV.bool false= .bool (decide<|False) from by rw[decide_eq_false fun h=>h])
theorem adM:bj (aR kx) [.int .u8 1]=some (.agg [(.bool true),(.bool true),(.bool true),(.bool false),(.bool false),(.bool false)]):=eO (eK kx.bM ⟨1,rfl,by omega,by omega,rfl⟩) (by rfl) rfl
theorem agy{le:Nat}{z:Int}(mc:Mt [wu,vC,vB] B)(ha:bj (aR oJ) [(.agg [(u8<|oa),(i6 na),(.U Na 0 La)]),.int .i64 z]=some (.bool<|decide<|xa=1))(hb:bj (aR mZ) [(.agg [(u8<|ob),(i6 nb),(.U Nb 0 Lb)])]=some (.bool<|decide<|xb=1)):au pg B 270 (Fin pg (az Tryz.f49) fun y _=>y=(.bool<|decide<|0<=to/\to<8/\xa=1/\xb=1/\ld=0/\le=0)) (sF 49 Tryz.f49 [(.agg [(u8<|.ofNat 1),(i6 to),(u8<|oa),(i6 na),(.U Na 0 La),(u8<|ob),(i6 nb),(.U Nb 0 Lb),(.U Nd 0 ld),(.U Ne 0 le)]),(i6 z)])<|ah ak 270:=by exact wS mc (.st 3<|.rg<|.go 2<|.kn (.agg [(.bool true),(.bool true),(.bool true),(.bool false),(.bool false),(.bool false)])<|.go 2<|.en<|.st 8<|.rg<|.go 2<|.fk (.go 16<|.en<|.rt 4 .no)<|.go 3<|.fk (.go 12<|.en<|.rt 4 .no)<|.go 12<|.en<|.st 4<|.rg<|.go 5<|.il<|.st 7<|.rg<|.go 2<|.kp (xa=1) inferInstance (.go 1<|.en<|.rt 1<|.go 6<|.il<|.st 8<|.rg<|.go 1<|.kp (xb=1) inferInstance (.go 1<|.en<|.rt 1<|.go 8<|.fk (.go 9<|.fk (.go 3<|.en<|.rt 1 .no)<|.go 3<|.en<|.rt 1 .no)<|.go 13<|.en<|.rt 1 .no)<|.go 1<|.en<|.rt 1<|.go 22<|.en<|.rt 1 .no)<|.go 1<|.en<|.rt 1<|.go 29<|.en<|.rt 1 .no)<|ai (adM) XX
theorem adN:bj (aR kx) [.int .u8 2]=some (.agg [(.bool true),(.bool true),(.bool true),(.bool false),(.bool false),(.bool false)]):=eO (eK kx.bM ⟨2,rfl,by omega,by omega,rfl⟩) (by rfl) rfl
theorem agz{le:Nat}{z:Int}(mc:Mt [wu,vC,vB] B)(ha:bj (aR oJ) [(.agg [(u8<|oa),(i6 na),(.U Na 0 La)]),.int .i64 z]=some (.bool<|decide<|xa=1))(hb:bj (aR mZ) [(.agg [(u8<|ob),(i6 nb),(.U Nb 0 Lb)])]=some (.bool<|decide<|xb=1)):au pg B 270 (Fin pg (az Tryz.f49) fun y _=>y=(.bool<|decide<|0<=to/\to<8/\xa=1/\xb=1/\ld=0/\le=0)) (sF 49 Tryz.f49 [(.agg [(u8<|.ofNat 2),(i6 to),(u8<|oa),(i6 na),(.U Na 0 La),(u8<|ob),(i6 nb),(.U Nb 0 Lb),(.U Nd 0 ld),(.U Ne 0 le)]),(i6 z)])<|ah ak 270:=by exact wS mc (.st 3<|.rg<|.go 2<|.kn (.agg [(.bool true),(.bool true),(.bool true),(.bool false),(.bool false),(.bool false)])<|.go 2<|.en<|.st 8<|.rg<|.go 2<|.fk (.go 16<|.en<|.rt 4 .no)<|.go 3<|.fk (.go 12<|.en<|.rt 4 .no)<|.go 12<|.en<|.st 4<|.rg<|.go 5<|.il<|.st 7<|.rg<|.go 2<|.kp (xa=1) inferInstance (.go 1<|.en<|.rt 1<|.go 6<|.il<|.st 8<|.rg<|.go 1<|.kp (xb=1) inferInstance (.go 1<|.en<|.rt 1<|.go 8<|.fk (.go 9<|.fk (.go 3<|.en<|.rt 1 .no)<|.go 3<|.en<|.rt 1 .no)<|.go 13<|.en<|.rt 1 .no)<|.go 1<|.en<|.rt 1<|.go 22<|.en<|.rt 1 .no)<|.go 1<|.en<|.rt 1<|.go 29<|.en<|.rt 1 .no)<|ai (adN) XX
theorem adO:bj (aR kx) [.int .u8 3]=some (.agg [(.bool true),(.bool false),(.bool true),(.bool true),(.bool false),(.bool false)]):=eO (eK kx.bM ⟨3,rfl,by omega,by omega,rfl⟩) (by rfl) rfl
theorem agA{le:Nat}{z:Int}(mc:Mt [wu,vC,vB] B)(ha:bj (aR oJ) [(.agg [(u8<|oa),(i6 na),(.U Na 0 La)]),.int .i64 z]=some (.bool<|decide<|xa=1))(hb:bj (aR oJ) [(.agg [(u8<|ob),(i6 nb),(.U Nb 0 Lb)]),.int .i64 z]=some (.bool<|decide<|xb=1)):au pg B 270 (Fin pg (az Tryz.f49) fun y _=>y=(.bool<|decide<|0<=to/\to<8/\to=0/\xa=1/\xb=1/\ld=0/\le=0)) (sF 49 Tryz.f49 [(.agg [(u8<|.ofNat 3),(i6 to),(u8<|oa),(i6 na),(.U Na 0 La),(u8<|ob),(i6 nb),(.U Nb 0 Lb),(.U Nd 0 ld),(.U Ne 0 le)]),(i6 z)])<|ah ak 270:=by exact wS mc (.st 3<|.rg<|.go 2<|.kn (.agg [(.bool true),(.bool false),(.bool true),(.bool true),(.bool false),(.bool false)])<|.go 2<|.en<|.st 8<|.rg<|.go 2<|.fk (.go 16<|.en<|.rt 4 .no)<|.go 3<|.fk (.go 12<|.en<|.rt 4 .no)<|.go 8<|.fk (.go 3<|.en<|.rt 4 .no)<|.go 3<|.en<|.st 4<|.rg<|.go 5<|.il<|.st 7<|.rg<|.go 2<|.kp (xa=1) inferInstance (.go 1<|.en<|.rt 1<|.go 6<|.il<|.st 7<|.rg<|.go 2<|.kp (xb=1) inferInstance (.go 1<|.en<|.rt 1<|.go 8<|.fk (.go 9<|.fk (.go 3<|.en<|.rt 1 .no)<|.go 3<|.en<|.rt 1 .no)<|.go 13<|.en<|.rt 1 .no)<|.go 1<|.en<|.rt 1<|.go 22<|.en<|.rt 1 .no)<|.go 1<|.en<|.rt 1<|.go 29<|.en<|.rt 1 .no)<|ai (adO) QL
theorem adP:bj (aR kx) [.int .u8 4]=some (.agg [(.bool true),(.bool false),(.bool true),(.bool false),(.bool true),(.bool true)]):=eO (eK kx.bM ⟨4,rfl,by omega,by omega,rfl⟩) (by rfl) rfl
theorem agB{le:Nat}{z:Int}(mc:Mt [wu,vC,vB] B)(ha:bj (aR oJ) [(.agg [(u8<|oa),(i6 na),(.U Na 0 La)]),.int .i64 z]=some (.bool<|decide<|xa=1))(hb:bj (aR mZ) [(.agg [(u8<|ob),(i6 nb),(.U Nb 0 Lb)])]=some (.bool<|decide<|xb=1)):au pg B 270 (Fin pg (az Tryz.f49) fun y _=>y=(.bool<|decide<|0<=to/\to<8/\to=0/\xa=1/\xb=1)) (sF 49 Tryz.f49 [(.agg [(u8<|.ofNat 4),(i6 to),(u8<|oa),(i6 na),(.U Na 0 La),(u8<|ob),(i6 nb),(.U Nb 0 Lb),(.U Nd 0 ld),(.U Ne 0 le)]),(i6 z)])<|ah ak 270:=by exact wS mc (.st 3<|.rg<|.go 2<|.kn (.agg [(.bool true),(.bool false),(.bool true),(.bool false),(.bool true),(.bool true)])<|.go 2<|.en<|.st 8<|.rg<|.go 2<|.fk (.go 16<|.en<|.rt 4 .no)<|.go 3<|.fk (.go 12<|.en<|.rt 4 .no)<|.go 8<|.fk (.go 3<|.en<|.rt 4 .no)<|.go 3<|.en<|.st 4<|.rg<|.go 5<|.il<|.st 7<|.rg<|.go 2<|.kp (xa=1) inferInstance (.go 1<|.en<|.rt 1<|.go 6<|.il<|.st 8<|.rg<|.go 1<|.kp (xb=1) inferInstance (.go 1<|.en<|.rt 1<|.go 22<|.en<|.rt 1 .no)<|.go 1<|.en<|.rt 1<|.go 22<|.en<|.rt 1 .no)<|.go 1<|.en<|.rt 1<|.go 29<|.en<|.rt 1 .no)<|ai (adP) XY
theorem adQ:bj (aR kx) [.int .u8 5]=some (.agg [(.bool true),(.bool false),(.bool true),(.bool false),(.bool true),(.bool false)]):=eO (eK kx.bM ⟨5,rfl,by omega,by omega,rfl⟩) (by rfl) rfl
theorem agC{le:Nat}{z:Int}(mc:Mt [wu,vC,vB] B)(ha:bj (aR oJ) [(.agg [(u8<|oa),(i6 na),(.U Na 0 La)]),.int .i64 z]=some (.bool<|decide<|xa=1))(hb:bj (aR mZ) [(.agg [(u8<|ob),(i6 nb),(.U Nb 0 Lb)])]=some (.bool<|decide<|xb=1)):au pg B 270 (Fin pg (az Tryz.f49) fun y _=>y=(.bool<|decide<|0<=to/\to<8/\to=0/\xa=1/\xb=1/\le=0)) (sF 49 Tryz.f49 [(.agg [(u8<|.ofNat 5),(i6 to),(u8<|oa),(i6 na),(.U Na 0 La),(u8<|ob),(i6 nb),(.U Nb 0 Lb),(.U Nd 0 ld),(.U Ne 0 le)]),(i6 z)])<|ah ak 270:=by exact wS mc (.st 3<|.rg<|.go 2<|.kn (.agg [(.bool true),(.bool false),(.bool true),(.bool false),(.bool true),(.bool false)])<|.go 2<|.en<|.st 8<|.rg<|.go 2<|.fk (.go 16<|.en<|.rt 4 .no)<|.go 3<|.fk (.go 12<|.en<|.rt 4 .no)<|.go 8<|.fk (.go 3<|.en<|.rt 4 .no)<|.go 3<|.en<|.st 4<|.rg<|.go 5<|.il<|.st 7<|.rg<|.go 2<|.kp (xa=1) inferInstance (.go 1<|.en<|.rt 1<|.go 6<|.il<|.st 8<|.rg<|.go 1<|.kp (xb=1) inferInstance (.go 1<|.en<|.rt 1<|.go 18<|.fk (.go 3<|.en<|.rt 1 .no)<|.go 3<|.en<|.rt 1 .no)<|.go 1<|.en<|.rt 1<|.go 22<|.en<|.rt 1 .no)<|.go 1<|.en<|.rt 1<|.go 29<|.en<|.rt 1 .no)<|ai (adQ)<|aT (to<0) (fun _=>(show AV.bool false= .bool (decide<|0<=to/\to<8/\to=0/\xa=1/\xb=1/\le=0) from by rw[decide_eq_false ab])) fun _=>(aT (to>=8) (fun _=>(show AV.bool false= .bool (decide<|0<=to/\to<8/\to=0/\xa=1/\xb=1/\le=0) from by rw[decide_eq_false ab])) fun _=>(aT (to≠0) (fun _=>(show AV.bool false= .bool (decide<|0<=to/\to<8/\to=0/\xa=1/\xb=1/\le=0) from by rw[decide_eq_false ab])) fun _=>(ai ha<|aT (xa=1) (fun _=>(ai hb<|aT (xb=1) (fun _=>(aT ((le:Int)=0) (fun _=>(show AV.bool true= .bool (decide<|0<=to/\to<8/\to=0/\xa=1/\xb=1/\le=0) from by rw[decide_eq_true ab])) fun _=>(show AV.bool false= .bool (decide<|0<=to/\to<8/\to=0/\xa=1/\xb=1/\le=0) from by rw[decide_eq_false ab]))) fun _=>(show AV.bool false= .bool (decide<|0<=to/\to<8/\to=0/\xa=1/\xb=1/\le=0) from by rw[decide_eq_false ab]))) fun _=>(show AV.bool false= .bool (decide<|0<=to/\to<8/\to=0/\xa=1/\xb=1/\le=0) from by rw[decide_eq_false ab]))))
theorem adR:bj (aR kx) [.int .u8 6]=some (.agg [(.bool true),(.bool false),(.bool false),(.bool false),(.bool false),(.bool false)]):=eO (eK kx.bM ⟨6,rfl,by omega,by omega,rfl⟩) (by rfl) rfl
theorem agD{le:Nat}{z:Int}(mc:Mt [wu,vC,vB] B)(ha:bj (aR mZ) [(.agg [(u8<|oa),(i6 na),(.U Na 0 La)])]=some (.bool<|decide<|xa=1))(hb:bj (aR mZ) [(.agg [(u8<|ob),(i6 nb),(.U Nb 0 Lb)])]=some (.bool<|decide<|xb=1)):au pg B 270 (Fin pg (az Tryz.f49) fun y _=>y=(.bool<|decide<|0<=to/\to<8/\to=0/\xa=1/\xb=1/\ld=0/\le=0)) (sF 49 Tryz.f49 [(.agg [(u8<|.ofNat 6),(i6 to),(u8<|oa),(i6 na),(.U Na 0 La),(u8<|ob),(i6 nb),(.U Nb 0 Lb),(.U Nd 0 ld),(.U Ne 0 le)]),(i6 z)])<|ah ak 270:=by exact wS mc (.st 3<|.rg<|.go 2<|.kn (.agg [(.bool true),(.bool false),(.bool false),(.bool false),(.bool false),(.bool false)])<|.go 2<|.en<|.st 8<|.rg<|.go 2<|.fk (.go 16<|.en<|.rt 4 .no)<|.go 3<|.fk (.go 12<|.en<|.rt 4 .no)<|.go 8<|.fk (.go 3<|.en<|.rt 4 .no)<|.go 3<|.en<|.st 4<|.rg<|.go 5<|.il<|.st 8<|.rg<|.go 1<|.kp (xa=1) inferInstance (.go 1<|.en<|.rt 1<|.go 6<|.il<|.st 8<|.rg<|.go 1<|.kp (xb=1) inferInstance (.go 1<|.en<|.rt 1<|.go 8<|.fk (.go 9<|.fk (.go 3<|.en<|.rt 1 .no)<|.go 3<|.en<|.rt 1 .no)<|.go 13<|.en<|.rt 1 .no)<|.go 1<|.en<|.rt 1<|.go 22<|.en<|.rt 1 .no)<|.go 1<|.en<|.rt 1<|.go 29<|.en<|.rt 1 .no)<|ai (adR) QL
theorem adS:bj (aR kx) [.int .u8 7]=some (.agg [(.bool true),(.bool false),(.bool false),(.bool false),(.bool true),(.bool true)]):=eO (eK kx.bM ⟨7,rfl,by omega,by omega,rfl⟩) (by rfl) rfl
theorem agE{le:Nat}{z:Int}(mc:Mt [wu,vC,vB] B)(ha:bj (aR mZ) [(.agg [(u8<|oa),(i6 na),(.U Na 0 La)])]=some (.bool<|decide<|xa=1))(hb:bj (aR mZ) [(.agg [(u8<|ob),(i6 nb),(.U Nb 0 Lb)])]=some (.bool<|decide<|xb=1)):au pg B 270 (Fin pg (az Tryz.f49) fun y _=>y=(.bool<|decide<|0<=to/\to<8/\to=0/\xa=1/\xb=1)) (sF 49 Tryz.f49 [(.agg [(u8<|.ofNat 7),(i6 to),(u8<|oa),(i6 na),(.U Na 0 La),(u8<|ob),(i6 nb),(.U Nb 0 Lb),(.U Nd 0 ld),(.U Ne 0 le)]),(i6 z)])<|ah ak 270:=by exact wS mc (.st 3<|.rg<|.go 2<|.kn (.agg [(.bool true),(.bool false),(.bool false),(.bool false),(.bool true),(.bool true)])<|.go 2<|.en<|.st 8<|.rg<|.go 2<|.fk (.go 16<|.en<|.rt 4 .no)<|.go 3<|.fk (.go 12<|.en<|.rt 4 .no)<|.go 8<|.fk (.go 3<|.en<|.rt 4 .no)<|.go 3<|.en<|.st 4<|.rg<|.go 5<|.il<|.st 8<|.rg<|.go 1<|.kp (xa=1) inferInstance (.go 1<|.en<|.rt 1<|.go 6<|.il<|.st 8<|.rg<|.go 1<|.kp (xb=1) inferInstance (.go 1<|.en<|.rt 1<|.go 22<|.en<|.rt 1 .no)<|.go 1<|.en<|.rt 1<|.go 22<|.en<|.rt 1 .no)<|.go 1<|.en<|.rt 1<|.go 29<|.en<|.rt 1 .no)<|ai (adS) XY
theorem adT:bj (aR kx) [.int .u8 8]=some (.agg [(.bool true),(.bool false),(.bool true),(.bool false),(.bool false),(.bool false)]):=eO (eK kx.bM ⟨8,rfl,by omega,by omega,rfl⟩) (by rfl) rfl
theorem agF{le:Nat}{z:Int}(mc:Mt [wu,vC,vB] B)(ha:bj (aR oJ) [(.agg [(u8<|oa),(i6 na),(.U Na 0 La)]),.int .i64 z]=some (.bool<|decide<|xa=1))(hb:bj (aR mZ) [(.agg [(u8<|ob),(i6 nb),(.U Nb 0 Lb)])]=some (.bool<|decide<|xb=1)):au pg B 270 (Fin pg (az Tryz.f49) fun y _=>y=(.bool<|decide<|0<=to/\to<8/\to=0/\xa=1/\xb=1/\ld=0/\le=0)) (sF 49 Tryz.f49 [(.agg [(u8<|.ofNat 8),(i6 to),(u8<|oa),(i6 na),(.U Na 0 La),(u8<|ob),(i6 nb),(.U Nb 0 Lb),(.U Nd 0 ld),(.U Ne 0 le)]),(i6 z)])<|ah ak 270:=by exact wS mc (.st 3<|.rg<|.go 2<|.kn (.agg [(.bool true),(.bool false),(.bool true),(.bool false),(.bool false),(.bool false)])<|.go 2<|.en<|.st 8<|.rg<|.go 2<|.fk (.go 16<|.en<|.rt 4 .no)<|.go 3<|.fk (.go 12<|.en<|.rt 4 .no)<|.go 8<|.fk (.go 3<|.en<|.rt 4 .no)<|.go 3<|.en<|.st 4<|.rg<|.go 5<|.il<|.st 7<|.rg<|.go 2<|.kp (xa=1) inferInstance (.go 1<|.en<|.rt 1<|.go 6<|.il<|.st 8<|.rg<|.go 1<|.kp (xb=1) inferInstance (.go 1<|.en<|.rt 1<|.go 8<|.fk (.go 9<|.fk (.go 3<|.en<|.rt 1 .no)<|.go 3<|.en<|.rt 1 .no)<|.go 13<|.en<|.rt 1 .no)<|.go 1<|.en<|.rt 1<|.go 22<|.en<|.rt 1 .no)<|.go 1<|.en<|.rt 1<|.go 29<|.en<|.rt 1 .no)<|ai (adT) QL
end vS
end
section
open Go Go.Rn Go.RowKit Go.Proofs
namespace xO
open cj cH cU dm fF eZ fQ dq uw Ch vP xN iA mQ mI rD vS
variable {e:Ex}
def tX(asked:Bool)(e:Ex)(z:Int):Bool:=match asked with
 |true=>Ks e z
 |false=>decide<|DC e
def Ab(l:List Bool)(to:Int)(a b:Ex)(body el:List St)(z:Int):Bool:=match l with
 |[is,t,fa,fb,bo,ot]=>is&&(decide (0<=to/\to<8)&&((t||decide (to=0))&&(tX fa a z&&(tX fb b z&&((bo||decide (body.length=0))&&(ot||decide (el.length=0)))))))
 |_=>false
def mC:St->Int->Bool
 | .mk kind to a b body el,z=>Ab (pZ kind) to a b body el z
def Ac(args:List AV)(v:AV):Prop:=∃(s:St) (z:Int),args=[.agg<|aL s,.int .i64 z]/\(0<=fC s/\fC s<256)/\v= .bool (mC s z)
theorem Ac.bM(args:List AV)(v v':AV)(h:Ac args v)(h':Ac args v'):v=v':=by obtain⟨e,z,rfl,_,rfl⟩:=h;obtain⟨e',z',h1,_,rfl⟩:=h';simp only[List.cons.injEq,AV.agg.injEq,AV.int.injEq,true_and,_root_.and_true] at h1;rw[MK _ _ h1.1,h1.2]
noncomputable def lM:FuncId×KE:=(49,.val<|aR Ac)
theorem afv{z:Int}:bj (aR oJ) [.agg<|aB e,.int .i64 z]=some (.bool<|decide<|bit (Ks e z)=1):=by rw[w9];exact eO (eK oJ.bM ⟨e,z,rfl,rfl⟩) rM rfl
theorem adU:bj (aR mZ) [.agg<|aB e]=some (.bool<|decide<|bit (decide<|DC e)=1):=by rw[w9];exact eO (eK mZ.bM ⟨e,rfl,rfl⟩) rM rfl
theorem afw{fa:Bool}{z:Int}:match fa with
 |true=>bj (aR oJ) [.agg<|aB e,.int .i64 z]=some (.bool<|decide<|bit (tX fa e z)=1)
 |false=>bj (aR mZ) [.agg<|aB e]=some (.bool<|decide<|bit (tX fa e z)=1):=by
 cases fa
 ·exact adU
 ·exact afv
theorem afx(hP:bS pg){L:bO}(h:aX L):aX<|lM::L:=by
 refine gE hP h (afh hP<|acn hP<|acj hP de) Tryz.func49 fun args v e=>?_;obtain⟨⟨kind,to,⟨oa,na,la⟩,⟨ob,nb,lb⟩,bd,el⟩,z,rfl,hk,rfl⟩:=fS e;have hk:0<=kind/\kind<256:=hk;refine⟨aK.1 aU,fun B mc=>?_⟩;rw[←hI];have fit:∀(fa:Bool) (op n:Int) (l:List Ex),match fa with
  |true=>bj (aR oJ) [.agg [.int .u8 op,.int .i64 n,.U (nm<|cK l) 0 l.length],.int .i64 z]=some (.bool<|decide<|bit (tX fa (.mk op n l) z)=1)
  |false=>bj (aR mZ) [.agg [.int .u8 op,.int .i64 n,.U (nm<|cK l) 0 l.length]]=some (.bool<|decide<|bit (tX fa (.mk op n l) z)=1):=fun fa op n l=>by
  have:=afw (fa:=fa) (e:=.mk op n l) (z:=z);rw[aB] at this;exact this
 have bool:∀(t bo ot A B:Bool),(true&&(decide (0<=to/\to<8)&&((t||decide (to=0))&&(A&&(B&&((bo||decide (bd.length=0))&&(ot||decide (el.length=0))))))))=true↔(0<=to/\to<8)/\(t=true\/to=0)/\bit A=1/\bit B=1/\(bo=true\/bd.length=0)/\(ot=true\/el.length=0):=fun t bo ot A B=>by simp only[Bool.true_and,Bool.and_eq_true,Bool.or_eq_true,decide_eq_true_eq,DY]
 rw[aL,aB,aB];by_cases hb:1<=kind/\kind<=8
 ·have hs:∀(t fa fb bo ot:Bool),pZ kind=[true,t,fa,fb,bo,ot]->∀(Q:Prop) [Decidable Q],(Q↔(0<=to/\to<8)/\(t=true\/to=0)/\bit (tX fa (.mk oa na la) z)=1/\bit (tX fb (.mk ob nb lb) z)=1/\(bo=true\/bd.length=0)/\(ot=true\/el.length=0))->
   mC (.mk kind to (.mk oa na la) (.mk ob nb lb) bd el) z=decide Q:=fun t fa fb bo ot e Q _ hq=>by
   show Ab (pZ kind) to _ _ bd el z=_;rw[e,Bool.eq_iff_iff,decide_eq_true_eq,hq];exact bool t bo ot _ _
  have done:∀(t fa fb bo ot:Bool),pZ kind=[true,t,fa,fb,bo,ot]->∀(Q:Prop) [Decidable Q] {l:List AV} {K:List ResultVar} {nt:Nat} {Ya:List Item},(Q↔(0<=to/\to<8)/\(t=true\/to=0)/\bit (tX fa (.mk oa na la) z)=1/\bit (tX fb (.mk ob nb lb) z)=1/\(bo=true\/bd.length=0)/\(ot=true\/el.length=0))->
   au pg B 270 (Fin pg K fun y _=>y= .bool (decide Q)) ⟨49,dc l,nt,Ya,[],none⟩ (ah ak 270)->au pg B 270 (Fin pg K fun y _=>y= .bool (mC (.mk kind to (.mk oa na la) (.mk ob nb lb) bd el) z)) ⟨49,dc l,nt,Ya,[],none⟩ (ah ak 270):=fun t fa fb bo ot e Q _ _ _ _ _ hq key=>by
   rw[hs t fa fb bo ot e Q hq];exact key
  obtain rfl|rfl|rfl|rfl|rfl|rfl|rfl|rfl:kind=1\/kind=2\/kind=3\/kind=4\/kind=5\/kind=6\/kind=7\/kind=8:=by omega
  ·have key:=agy (to:=to) (z:=z) (Nd:=nm<|bz bd) (Ne:=nm<|bz el) (ld:=bd.length) (le:=el.length) mc (fit true oa na la)<|fit false ob nb lb;exact done true true false false false rfl _ zF key
  ·have key:=agz (to:=to) (z:=z) (Nd:=nm<|bz bd) (Ne:=nm<|bz el) (ld:=bd.length) (le:=el.length) mc (fit true oa na la)<|fit false ob nb lb;exact done true true false false false rfl _ zF key
  ·have key:=agA (to:=to) (z:=z) (Nd:=nm<|bz bd) (Ne:=nm<|bz el) (ld:=bd.length) (le:=el.length) mc (fit true oa na la)<|fit true ob nb lb;exact done false true true false false rfl _ zF key
  ·have key:=agB (to:=to) (z:=z) (Nd:=nm<|bz bd) (Ne:=nm<|bz el) (ld:=bd.length) (le:=el.length) mc (fit true oa na la)<|fit false ob nb lb;exact done false true false true true rfl _ zF key
  ·have key:=agC (to:=to) (z:=z) (Nd:=nm<|bz bd) (Ne:=nm<|bz el) (ld:=bd.length) (le:=el.length) mc (fit true oa na la)<|fit false ob nb lb;exact done false true false true false rfl _ zF key
  ·have key:=agD (to:=to) (z:=z) (Nd:=nm<|bz bd) (Ne:=nm<|bz el) (ld:=bd.length) (le:=el.length) mc (fit false oa na la)<|fit false ob nb lb;exact done false false false false false rfl _ zF key
  ·have key:=agE (to:=to) (z:=z) (Nd:=nm<|bz bd) (Ne:=nm<|bz el) (ld:=bd.length) (le:=el.length) mc (fit false oa na la)<|fit false ob nb lb;exact done false false false true true rfl _ zF key
  ·have key:=agF (to:=to) (z:=z) (Nd:=nm<|bz bd) (Ne:=nm<|bz el) (ld:=bd.length) (le:=el.length) mc (fit true oa na la)<|fit false ob nb lb;exact done false true false false false rfl _ zF key
 ·have e0:pZ kind=[false,false,false,false,false,false]:=by
   by_cases h9:9<=kind
   ·unfold pZ;rw[List.getD_eq_getElem?_getD,List.getElem?_eq_none (show Lj.length<=kind.toNat by show 9<=kind.toNat;omega)];rfl
   ·obtain rfl:kind=0:=by omega
    rfl
  have ho:bj (aR kx) [.int .u8 kind]=some (.agg [.bool false,.bool false,.bool false,.bool false,.bool false,.bool false]):=by have:=eO (eK kx.bM ⟨kind,rfl,hk.1,hk.2,rfl⟩:aR kx [.int .u8 kind]=_) rfl (by unfold wt;rw[e0];rfl);rw[this];unfold wt;rw[e0];rfl
  have key:=agx (to:=to) (z:=z) (xa:=0) (xb:=0) (Na:=nm<|cK la) (La:=la.length) (oa:=oa) (na:=na) (Nb:=nm<|cK lb) (Lb:=lb.length) (ob:=ob) (nb:=nb) (Nd:=nm<|bz bd) (Ne:=nm<|bz el) (ld:=bd.length) (le:=el.length) mc ho;rw[show mC (.mk kind to (.mk oa na la) (.mk ob nb lb) bd el) z=decide False from by show Ab (pZ kind) to _ _ bd el z=_;rw[e0];rfl];exact key
end xO
end
section
open Go Go.Rn Go.RowKit Go.Proofs
namespace tY
open cj cH cU dm eZ fQ iA dq uw mQ mI tW rD xO
variable {rd:mA} {k N L ld Ne Nd Nb Na Lb La:Nat} {c2 c1 to ob oa nb na kd:Int} {p:fx} {B:aI} {P:Prop} {v:AV}
noncomputable section
def Ad:Code:=aQ pg 23 [1,1,1,0,1,0,0]
def wx:Code:=aQ pg 23 [1,1,1,0,1,0,1]
def KM:Cb:=⟨23,42,[31],Ad,wx,3,4⟩
def Yb(v1 v2:AV)(c:List AV):AS:=⟨((sE KM v1 v2 c).h.put 275<|some<|.cells 10 (Tr.fill c 0 .nil) []).put 270<|some<|.loop .busy none 23 (aC [(3,.ptr<|some (272,0)),(4,.ptr<|some (273,0))]) 42 [31] Ad wx 271,276,0,[],[]⟩
noncomputable abbrev jE(kd to oa na:Int)(Na La:Nat)(ob nb:Int)(Nb Lb Nd ld Ne le:Nat):List AV:=[(u8<|kd),(i6 to),(u8<|oa),(i6 na),(.U Na 0 La),(u8<|ob),(i6 nb),(.U Nb 0 Lb),(.U Nd 0 ld),(.U Ne 0 le)]
theorem aba{le:Nat}{n:Int}(hs:bj (aR Ac) [.agg<|jE kd to oa na Na La ob nb Nb Lb Nd ld Ne le,.int .i64 n]=some (.bool true)):aZ pg (sp<|dh KM rd k::[lM,jD 60,jG 60,lH 60 60]) FU 6 (.round 270) [.agg<|jE kd to oa na Na La ob nb Nb Lb Nd ld Ne le] (sE KM (i6 n) (.bool false)<|jE kd to oa na Na La ob nb Nb Lb Nd ld Ne le)= .ok (.bool true) (sA KM none (.int .i64 n) (.bool false) (jE kd to oa na Na La ob nb Nb Lb Nd ld Ne le)<|some<|.cells 10 (Tr.fill (jE kd to oa na Na La ob nb Nb Lb Nd ld Ne le) 0 .nil) []):=ER (st:=.ready) (bN:=none) (fn:=23) (nt:=42) (d:=271) (t:=(aC [(3,.ptr<|some (272,0)),(4,.ptr<|some (273,0))])) (ps:=[31]) (a:=Ad) (b:=wx) (s0:=sE KM (i6 n) (.bool false)<|jE kd to oa na Na La ob nb Nb Lb Nd ld Ne le) bW rfl<|Chunk.ev 2 ⟨23,jz [31] [.agg<|jE kd to oa na Na La ob nb Nb Lb Nd ld Ne le]<|aC [(3,.ptr<|some (272,0)),(4,.ptr<|some (273,0))],42,[.code Ad,.beginRound,.code wx],[],some 270⟩ ⟨23,((jz [31] [.agg<|jE kd to oa na Na La ob nb Nb Lb Nd ld Ne le]<|aC [(3,.ptr<|some (272,0)),(4,.ptr<|some (273,0))]).put 7<|some<|.ptr<|some (275,0)),42,[.code wx],[],some 270⟩ _ (Yb (i6 n) (.bool false)<|jE kd to oa na Na La ob nb Nb Lb Nd ld Ne le) bW<|CN (E:=ky<|dh KM rd k::[lM,jD 60,jG 60,lH 60 60]) (C:=(fun fr s1 _=>fr.round=none/\fr.defers=[]/\AR pg (aZ pg (sp<|dh KM rd k::[lM,jD 60,jG 60,lH 60 60]) FU 5) 270 fr s1=some ((.bool true),(sA KM none (.int .i64 n) (.bool false) (jE kd to oa na Na La ob nb Nb Lb Nd ld Ne le)<|some<|.cells 10 (Tr.fill (jE kd to oa na Na La ob nb Nb Lb Nd ld Ne le) 0 .nil) [])))) eT rfl (fun fr s p h=>EP h.1 h.2.1 h.2.2) 900 (.st 2<|.rg<|.go 2<|.kn (.bool true)<|.go 1<|.en<|.st 3<|.cut .no)<|ai hs<|Ha (.bool true)<|sA KM none (.int .i64 n) (.bool false) (jE kd to oa na Na La ob nb Nb Lb Nd ld Ne le)<|some<|.cells 10 (Tr.fill (jE kd to oa na Na La ob nb Nb Lb Nd ld Ne le) 0 .nil) []
theorem aao{le:Nat}{n:Int}(hs:bj (aR Ac) [.agg<|jE kd to oa na Na La ob nb Nb Lb Nd ld Ne le,.int .i64 n]=some (.bool false)):aZ pg (sp<|dh KM rd k::[lM,jD 60,jG 60,lH 60 60]) FU 6 (.round 270) [.agg<|jE kd to oa na Na La ob nb Nb Lb Nd ld Ne le] (sE KM (i6 n) (.bool false)<|jE kd to oa na Na La ob nb Nb Lb Nd ld Ne le)= .ok (.bool false) (sA KM (some .ret) (.int .i64 n) (.bool false) (jE kd to oa na Na La ob nb Nb Lb Nd ld Ne le)<|some<|.cells 10 (Tr.fill (jE kd to oa na Na La ob nb Nb Lb Nd ld Ne le) 0 .nil) []):=ER (st:=.ready) (bN:=none) (fn:=23) (nt:=42) (d:=271) (t:=(aC [(3,.ptr<|some (272,0)),(4,.ptr<|some (273,0))])) (ps:=[31]) (a:=Ad) (b:=wx) (s0:=sE KM (i6 n) (.bool false)<|jE kd to oa na Na La ob nb Nb Lb Nd ld Ne le) bW rfl<|Chunk.ev 2 ⟨23,jz [31] [.agg<|jE kd to oa na Na La ob nb Nb Lb Nd ld Ne le]<|aC [(3,.ptr<|some (272,0)),(4,.ptr<|some (273,0))],42,[.code Ad,.beginRound,.code wx],[],some 270⟩ ⟨23,((jz [31] [.agg<|jE kd to oa na Na La ob nb Nb Lb Nd ld Ne le]<|aC [(3,.ptr<|some (272,0)),(4,.ptr<|some (273,0))]).put 7<|some<|.ptr<|some (275,0)),42,[.code wx],[],some 270⟩ _ (Yb (i6 n) (.bool false)<|jE kd to oa na Na La ob nb Nb Lb Nd ld Ne le) bW<|CN (E:=ky<|dh KM rd k::[lM,jD 60,jG 60,lH 60 60]) (C:=(fun fr s1 _=>fr.round=none/\fr.defers=[]/\AR pg (aZ pg (sp<|dh KM rd k::[lM,jD 60,jG 60,lH 60 60]) FU 5) 270 fr s1=some ((.bool false),(sA KM (some .ret) (.int .i64 n) (.bool false) (jE kd to oa na Na La ob nb Nb Lb Nd ld Ne le)<|some<|.cells 10 (Tr.fill (jE kd to oa na Na La ob nb Nb Lb Nd ld Ne le) 0 .nil) [])))) eT rfl (fun fr s p h=>EP h.1 h.2.1 h.2.2) 900 (.st 2<|.rg<|.go 2<|.kn (.bool false)<|.go 1<|.en<|.st 3<|.cut .no)<|ai hs<|Ha (.bool false)<|sA KM (some .ret) (.int .i64 n) (.bool false) (jE kd to oa na Na La ob nb Nb Lb Nd ld Ne le)<|some<|.cells 10 (Tr.fill (jE kd to oa na Na La ob nb Nb Lb Nd ld Ne le) 0 .nil) []
def jb(N L:Nat)(c1 c2:Int):List<|Nat×AV:=[(3,(.ptr<|some (270,0))),(4,(.ptr<|some (271,0))),(5,(i6 c1)),(6,(i6 c2)),(30,(.func (.func 65) [] [(.ptr<|some (272,0))]))]
def sk(v1 v2:AV)(N L:Nat):List<|Nat×Option ae:=ak++[(270,some<|eN v1),(271,some<|eN v2),(272,(some<|.cells 1 (Tr.fill [(.U N 0 L)] 0 .nil) []))]
def yD(v1 v2:AV)(N L:Nat)(c1 c2:Int):AS:=ah (sk v1 v2 N L++[(273,some .defs),(274,some<|.loop .ready none 23 (aC<|jb N L c1 c2) 42 KM.ps Ad wx 273)]) 275
def sq(p:fx)(N L:Nat):AS:=ah (sk p.v1 p.v2 N L++[(273,some .defs),(274,some<|Cb.loop KM p.bN 270 271 273)]) 275
def Hb(p:fx)(N L:Nat):AS:=ah (sk p.v1 p.v2 N L++[(273,some .defs),(274,some<|.loop .exhausted p.bN KM.fn (aC [(KM.s1,.ptr<|some (270,0)),(KM.s2,.ptr<|some (271,0))]) KM.nt KM.ps KM.a KM.b 273)]) 275
theorem agG{L0:bO}{v1 v2:AV}{l:List St}(hN:N=nm (bz l))(hl:L=l.length)(o1:okB v1)(o2:okB v2)(h:fE rd k l v1 v2=some p)(o3:okB p.v1/\okB p.v2):
 aZ pg (sp<|dh KM rd k::L0) FU 5 (.fn 66) [.U N 0 L,.yield 274] (yD v1 v2 N L c1 c2)= .ok (.bool p.ret) (sq p N L):=by
 subst hN;subst hl;have ur:sp (dh KM rd k::L0) 66=some (qQ KM (zr rd k) 270 dV dH):=by kernel_rfl
 have I:Kq KM (yD v1 v2 (nm<|bz l) l.length c1 c2) 274 273 270 271 v1 v2:=by
  refine⟨rfl,(aK.1 aU:275<=top),⟨by show 274<275;omega,by show 273<275;omega,by show 270<275;omega,by show 271<275;omega⟩,⟨by omega,by omega,by omega,by omega,by omega,by omega⟩,⟨aC<|jb (nm<|bz l) l.length c1 c2,?_,?_,?_⟩,?_,⟨eN v1,?_,wJ _⟩,⟨eN v2,?_,wJ _⟩⟩
  all_goals (as_aux_lemma=>kernel_rfl)
 have key:=NW (P:=pg) (F:=FU) (n:=4) ur (tj l) bW I ((MO o1 o2).trans h) o1 o2 o3.1 o3.2;rw[show Lf KM (yD v1 v2 (nm<|bz l) l.length c1 c2) 274 273 270 271 p=sq p (nm<|bz l) l.length from by as_aux_lemma=>kernel_rfl] at key;exact key
theorem aif{v1 v2:AV}(hE:aZ pg (sp<|dh KM rd k::[lM,jD 60,jG 60,lH 60 60]) FU 5 (.fn 66) [.U N 0 L,.yield 274] (yD v1 v2 N L c1 c2)= .ok (.bool p.ret) (sq p N L)):sd (ky<|dh KM rd k::[lM,jD 60,jG 60,lH 60 60]) 5 (az Tryz.f65) (fun v s=>v= .tuple []/\s=(sq p N L)) (sF 65 Tryz.f65 [.yield 274,.ptr<|some (272,0)])<|yD v1 v2 N L c1 c2:=by exact F5 (C:=fun _ _ _=>False) eT rfl (fun _ _ _ h=>h.elim) 900 (.rg<|.go 2<|.cu (.bool p.ret) (sq p N L)<|.en<|.rt 1 .no)<|ai hE (show(AV.tuple []=AV.tuple []/\(sq p N L)=(sq p N L)) from⟨rfl,rfl⟩)
theorem alM{v1 v2:AV}(hE:aZ pg (sp<|dh KM rd k::[lM,jD 60,jG 60,lH 60 60]) FU 5 (.fn 66) [.U N 0 L,.yield 274] (yD v1 v2 N L c1 c2)= .ok (.bool p.ret) (sq p N L)):aZ pg (sp<|dh KM rd k::[lM,jD 60,jG 60,lH 60 60]) FU 6 (.fn 65) [.yield 274,.ptr<|some (272,0)] (yD v1 v2 N L c1 c2)= .ok (.tuple []) (sq p N L):=by obtain⟨v,s2,h1,rfl,rfl⟩:=sd.call (E:=ky<|dh KM rd k::[lM,jD 60,jG 60,lH 60 60]) (n:=5) Tryz.func65 (Fk Tryz.func65 bW)<|aif (v1:=v1) (v2:=v2) hE;exact h1
theorem agH:aQ pg 23 [1,1,1,0,1,0]= .rangeFunc (.tmp 30) #[31] Ad wx:=by kernel_rfl
def Hc:List Item:=[.inBlock 0,.code<|aQ pg 23 [1,1,1,1]]
def D0(N L:Nat)(c1 c2:Int):AF:=⟨23,aC<|jb N L c1 c2,42,.code (aQ pg 23 [1,1,1,0,1,0])::Hc,[],none⟩
theorem agI:lQ 274 (sq p N L)= .ok p.bN (Hb p N L):=by
 obtain⟨r,v1,v2,bN⟩:=p;cases bN with
 |none=>as_aux_lemma=>kernel_rfl
 |some c=>as_aux_lemma=>kernel_rfl
theorem rgM{v1 v2:AV}(mc:Mt (dh KM rd k::[lM,jD 60,jG 60,lH 60 60]) B)(hE:aZ pg (sp<|dh KM rd k::[lM,jD 60,jG 60,lH 60 60]) FU 5 (.fn 66) [.U N 0 L,.yield 274] (yD v1 v2 N L c1 c2)= .ok (.bool p.ret) (sq p N L))(H:au pg B 270 (Fin pg (az Tryz.f23) fun y _=>y=v) ⟨23,aC<|jb N L c1 c2,42,andThen p.bN Hc,[273],none⟩<|Hb p N L):au pg B 270 (Fin pg (az Tryz.f23) fun y _=>y=v) (D0 N L c1 c2)<|ah (sk v1 v2 N L) 273:=by unfold D0;rw[agH];exact au.chunk bI mc.2.2.1 mc.2.2.2 (Im (gv:=.func (.func 65) [] [.ptr<|some (272,0)]) (s1:=ah (sk v1 v2 N L++[(273,some .defs)]) 274) (s2:=yD v1 v2 N L c1 c2) bW bW bW (alM (rd:=rd) (k:=k) hE) (show lQ 274 (sq p N L)= .ok p.bN (Hb p N L) from agI)) (by show 270<=273;omega) H
theorem aih{n:Int}(N L:Nat)(c1 c2:Int)(h:P):((jb N L c1 c2).map (fun q=>some q.2)=(jb N L c1 c2).map (fun q=>some q.2))/\((sk (.int .i64 n) (.bool false) N L).map (fun q=>q.2)=(sk (.int .i64 n) (.bool false) N L).map (fun q=>q.2))/\((D0 N L c1 c2=D0 N L c1 c2/\ah (sk (.int .i64 n) (.bool false) N L) 273=ah (sk (.int .i64 n) (.bool false) N L) 273)/\P):=⟨rfl,rfl,⟨rfl,rfl⟩,h⟩
theorem goM{n dp cs:Int}(mc:Mt (dh KM rd k::[lM,jD 60,jG 60,lH 60 60]) B)(hn:top<=N)(hD:bj (aR<|ti 60) [(.U N 0 L)]=some (.int .i64 dp))(hC:bj (aR<|tH 60) [(.U N 0 L)]=some (.int .i64 cs))(hN:bj (aR<|BI 60 60) [(.U N 0 L)]=some (.tuple [.int .i64 c1,.int .i64 c2]))(hf:¬(0<=n/\n<6/\dp<=6/\cs<=2000)->AV.bool false=v)(H:(0<=n/\n<6/\dp<=6/\cs<=2000)->au pg B 270 (Fin pg (az Tryz.f23) fun y _=>y=v) (D0 N L c1 c2) (ah (sk (.int .i64 n) (.bool false) N L) 273)):au pg B 270 (Fin pg (az Tryz.f23) fun y _=>y=v) (sF 23 Tryz.f23 [(.U N 0 L),(i6 n)])<|ah ak 270:=by exact wC mc (C:=(fun fr s1 _=>(fr=D0 N L c1 c2/\s1=ah (sk (.int .i64 n) (.bool false) N L) 273)/\(0<=n/\n<6/\dp<=6/\cs<=2000))) (fun fr s1 p hC=>by obtain⟨⟨rfl,rfl⟩,hq⟩:=hC;exact H hq) (.st 4<|.rg<|.go 1<|.fk (.go 14<|.en<|.rt 4 .no)<|.go 2<|.fk (.go 11<|.en<|.rt 4 .no)<|.go 3<|.kn (i6 dp)<|.fk (.go 6<|.en<|.rt 4 .no)<|.go 3<|.kn (i6 cs)<|.fk (.go 1<|.en<|.rt 4 .no)<|.go 1<|.en<|.st 3<|.rg<|.go 1<|.kn (.tuple [(i6 c1),(i6 c2)])<|.go 5<|.en<|.st 2<|.rg<|.go 1<|.il<|.rt 5<|.en<|.st 1<|.ls (jb N L c1 c2) (sk (.int .i64 n) (.bool false) N L) 273 .no)<|aT (n<0) (fun _=>(show AV.bool false=v from hf ab)) fun _=>(aT (n>=6) (fun _=>(show AV.bool false=v from hf ab)) fun _=>(ai hD<|aT (dp>6) (fun _=>(show AV.bool false=v from hf ab)) fun _=>(ai hC<|aT (cs>2000) (fun _=>(show AV.bool false=v from hf ab)) fun _=>(ai hN<|aih (n:=n) N L c1 c2 (show(0<=n/\n<6/\dp<=6/\cs<=2000) from by omega)))))
theorem aii{n:Int}(mc:Mt (dh KM rd k::[lM,jD 60,jG 60,lH 60 60]) B):au pg B 270 (Fin pg (az Tryz.f23) fun y _=>y= .bool false) ⟨23,aC<|jb N L c1 c2,42,andThen (some .ret) Hc,[273],none⟩<|Hb ⟨false,.int .i64 n,.bool false,some .ret⟩ N L:=(MP (l:=273) (k:=8) (fr:=⟨23,aC<|jb N L c1 c2,42,.code .ret::Hc,[],none⟩) bI mc.2.2.1 mc.2.2.2 rfl rfl bW).2.2 (by show 270<=275;omega)
theorem aij [Decidable P](h:P):(none:Option Nat)=none/\([]:List Nat)=[]/\(some (.bool true):Option AV)=some (.bool<|decide P):=⟨rfl,rfl,by rw[decide_eq_true h]⟩
theorem W8 [Decidable P](h:¬P):(none:Option Nat)=none/\([]:List Nat)=[]/\(some (.bool false):Option AV)=some (.bool<|decide P):=⟨rfl,rfl,by rw[decide_eq_false h]⟩
theorem aik{n:Int}(mc:Mt (dh KM rd k::[lM,jD 60,jG 60,lH 60 60]) B):au pg B 270 (Fin pg (az Tryz.f23) fun y _=>y= .bool (decide<|c1<=40/\c2<=300)) ⟨23,aC<|jb N L c1 c2,42,andThen none Hc,[273],none⟩<|Hb ⟨true,.int .i64 n,.bool false,none⟩ N L:=by exact adJ (E:=ky<|dh KM rd k::[lM,jD 60,jG 60,lH 60 60]) (C:=(fun fr s1 _=>fr.round=none/\fr.defers=[]/\Pn pg (aZ pg (sp<|dh KM rd k::[lM,jD 60,jG 60,lH 60 60]) FU 6) (az Tryz.f23) 8 273 fr s1=some (.bool<|decide<|c1<=40/\c2<=300))) eT rfl bI mc.2.2.1 mc.2.2.2 (fun fr s p h=>MP bI mc.2.2.1 mc.2.2.2 h.1 h.2.1 h.2.2) (by show 270<=275;omega) 900 (.st 2<|.rg<|.go 1<|.fk (.go 2<|.fk (.go 2<|.en<|.cut .no)<|.go 2<|.en<|.cut .no)<|.go 5<|.en<|.cut .no)<|aT (c1<=40) (fun _=>(aT (c2<=300) (fun _=>(aij (show(c1<=40/\c2<=300) from by omega))) fun _=>(W8 (show ¬(c1<=40/\c2<=300) from by omega)))) fun _=>(W8 (show ¬(c1<=40/\c2<=300) from by omega))
end
end tY
end
section
open Go Go.Rn Go.RowKit Go.Proofs
namespace xP
open cj cH cU dm eZ BH fQ tV iA F9 dq uw mQ mI tW rD xO tY
noncomputable section
open Classical in
def gy:mA:=fun s v1 v2=>match v1,v2 with
 | .int .i64 n,.bool false=>if 0<=fC s/\fC s<256 then(match mC s n with
  |true=>some ⟨true,.int .i64 n,.bool false,none⟩
  |false=>some ⟨false,.int .i64 n,.bool false,some .ret⟩) else none
 |_,_=>none
abbrev pY(n:Int):fx:=⟨true,.int .i64 n,.bool false,none⟩
abbrev pN(n:Int):fx:=⟨false,.int .i64 n,.bool false,some .ret⟩
theorem N6{s:St}{v1 v2:AV}{p:fx}(h:gy s v1 v2=some p):∃n,(v1= .int .i64 n/\v2= .bool false/\0<=fC s/\fC s<256)/\p=(if mC s n=true then pY n else pN n):=by
 unfold gy at h;split at h
 ·rename_i n;split at h
  ·rename_i q;refine⟨n,⟨rfl,rfl,q⟩,?_⟩;split at h<;>rename_i e<;>injection h with h<;>rw[e]
   ·rw[if_pos rfl];exact h.symm
   ·rw[if_neg (by intro q;cases q)];exact h.symm
  ·cases h
 ·cases h
theorem okF(b:Bool):okB<|.bool b:=⟨rfl,rfl⟩
theorem agJ{s:St}{n:Int}(h:0<=fC s/\fC s<256):bj (aR Ac) [.agg<|aL s,.int .i64 n]=some (.bool<|mC s n):=eO (eK Ac.bM ⟨s,n,rfl,h,rfl⟩) (by rw[List.all_cons,show AV.hi (.agg<|aL s)=true from List.all_eq_true.2 fun x hx=>CL<|List.all_eq_true.1 (mz.gh s) x hx];rfl) rfl
theorem ail(k:Nat):yA KM (dh KM gy k::[lM,jD 60,jG 60,lH 60 60]) gy:=by
 refine⟨aK.1 aU,aK.1 aU,(by show(3:Nat)≠4;omega),fun s v1 v2 p h _ _=>?_⟩;obtain⟨n,⟨rfl,rfl,hk⟩,rfl⟩:=N6 h;have hs:=agJ (n:=n) hk;cases e:mC s n with
 |true=>rw[e] at hs;rw[if_pos rfl];refine⟨⟨wv _,okF _,fun _=>rfl⟩,some<|.cells 10 (Tr.fill (aL s) 0 .nil) [],?_⟩;obtain⟨kk,to,⟨oa,xa,la⟩,⟨ob,xb,lb⟩,bd,el⟩:=s;rw[aL,aB,aB] at hs ⊢;exact aba hs
 |false=>rw[e] at hs;rw[if_neg (by intro q;cases q)];refine⟨⟨wv _,okF _,fun q=>by cases q⟩,some<|.cells 10 (Tr.fill (aL s) 0 .nil) [],?_⟩;obtain⟨kk,to,⟨oa,xa,la⟩,⟨ob,xb,lb⟩,bd,el⟩:=s;rw[aL,aB,aB] at hs ⊢;exact aao hs
theorem UU{n:Int}{ek:List St->AV->AV->Option fx}(he:∀l p,ek l (.int .i64 n) (.bool false)=some p->p=pY n\/p=pN n):∀l p,kL ek gy l (.int .i64 n) (.bool false)=some p->p=pY n\/p=pN n
 |[],p,h=>by
  have h:some (pY n)=some p:=h;injection h with h
  exact .inl h.symm
 |s::r,p,h=>by
  unfold kL at h;split at h
  ·cases h
  rename_i q e;obtain⟨n',⟨fw,_⟩,hq⟩:=N6 e;injection fw with _ fw
  subst fw;cases hs:mC s n with
  |false=>rw[hs,if_neg (by intro q;cases q)] at hq;subst hq;injection h with h;exact .inr h.symm
  |true=>
   rw[hs,if_pos rfl] at hq;subst hq;have h:(match ek (bG s) (.int .i64 n) (.bool false) with
    |none=>none
    |some q=>match q.ret with
     |false=>some q
     |true=>match ek (bF s) q.v1 q.v2 with
      |none=>none
      |some u=>match u.ret with
       |false=>some u
       |true=>kL ek gy r u.v1 u.v2)=some p:=h
   split at h
   ·cases h
   rename_i q2 e2;rcases he _ _ e2 with rfl|rfl
   ·have h:(match ek (bF s) (.int .i64 n) (.bool false) with
     |none=>none
     |some u=>match u.ret with
      |false=>some u
      |true=>kL ek gy r u.v1 u.v2)=some p:=h
    split at h
    ·cases h
    rename_i q3 e3;rcases he _ _ e3 with rfl|rfl
    ·exact UU he r p h
    ·injection h with h;exact .inr h.symm
   ·injection h with h;exact .inr h.symm
theorem Au{n:Int}:∀k l p,fE gy k l (.int .i64 n) (.bool false)=some p->p=pY n\/p=pN n
 |0,_,_,h=>by cases h
 |k+1,l,p,h=>by
  unfold fE at h;split at h
  ·exact UU (Au k) l p h
  ·cases h
def tZ(l:List St)(n:Int)(b:Bool):Prop:=∃(c1 c2:Int) (p:fx),fE (o9 60) 60 l (.int .i64 0) (.int .i64 0)=some ⟨true,.int .i64 c1,.int .i64 c2,none⟩/\fE gy 60 l (.int .i64 n) (.bool false)=some p/\b=(decide (0<=n/\n<6/\fq 60 l<=6/\gi 60 l<=2000)&&(p.ret&&decide (c1<=40/\c2<=300)))
def zt(args:List AV)(v:AV):Prop:=∃(l:List St) (n:Int) (b:Bool),args=[.U (nm<|bz l) 0 l.length,.int .i64 n]/\qq 60 l=true/\kB 60 l=true/\tZ l n b/\v= .bool b
theorem zt.bM(args:List AV)(v v':AV)(h:zt args v)(h':zt args v'):v=v':=by
 obtain⟨l,n,b,rfl,_,_,⟨c1,c2,p,a1,a2,a3⟩,rfl⟩:=h;obtain⟨l',n',b',h1,_,_,⟨c1',c2',p',b1,b2,b3⟩,rfl⟩:=h';simp only[List.cons.injEq,AV.U.injEq,AV.int.injEq,true_and,_root_.and_true] at h1;have e:l=l':=sD _ _<|te (lO _) (lO _) h1.1.1;obtain rfl:=e;obtain rfl:=h1.2;rw[a1] at b1;injection b1 with b1;injection b1 with _ q1 q2 _
 injection q1 with _ q1;injection q2 with _ q2
 rw[a2] at b2;injection b2 with b2
 rw[a3,b3,q1,q2,b2]
def D1:FuncId×KE:=(23,.val<|aR zt)
theorem adV(hP:bS pg){L:bO}(h:aX L):aX<|D1::L:=by
 have h0:aX [lM,jD 60,jG 60,lH 60 60]:=afx hP<|Tj hP 60<|T4 hP 60<|adL hP 60 60 de;refine gE hP h (AH hP ail h0 60 h0) Tryz.func23 fun args v e=>?_;obtain⟨l,n,b,rfl,hd,hc,⟨c1,c2,p,e1,e2,hb⟩,rfl⟩:=fS e;refine⟨aK.1 aU,fun B mc=>?_⟩;rw[←hI];have hi:[AV.U (nm<|bz l) 0 l.length].all AV.hi=true:=by rw[List.all_cons,tj];rfl
 have hD:=eO (eK ti.bM ⟨l,rfl,hd,by omega,rfl⟩:aR (ti 60) [.U (nm<|bz l) 0 l.length]=_) hi rfl;have hC:=eO (eK tH.bM ⟨l,rfl,hc,rfl⟩:aR (tH 60) [.U (nm<|bz l) 0 l.length]=_) hi rfl;have hN:=eO (eK BI.bM ⟨l,_,rfl,e1,rfl⟩:aR (BI 60 60) [.U (nm<|bz l) 0 l.length]=_) hi rfl;refine goM (rd:=gy) (k:=60) mc (cN _) hD hC hN (fun hq=>?_) fun hq=>?_
 ·rw[hb,decide_eq_false hq];rfl
 ·have ok:okB p.v1/\okB p.v2:=by rcases Au 60 l p e2 with rfl|rfl<;>exact⟨wv _,okF _⟩
  refine rgM (rd:=gy) (k:=60) (p:=p) mc (agG (c1:=c1) (c2:=c2) rfl rfl (wv _) (okF _) e2 ok) ?_;rw[hb,decide_eq_true hq];rcases Au 60 l p e2 with rfl|rfl
  ·exact aik mc
  ·exact aii mc
end
end xP
end
section
open Go Go.Rn Go.RowKit Go.Proofs
namespace fW
open cj
variable {α:Type} {bx j K:Nat} {enc:α->List AV} {cap:bZ}
theorem Ln(enc:α->List AV)(l L:List α){nY n o len:Nat}{X:Prop}(hf:top<=n/\cG FU n o (len*K)=some (L.map enc).flatten/\len=L.length)(h1:∀x,(enc x).length=K/\(enc x).all AV.bR=true)(h2:2*(l.length+L.length)*nY+4096*nY<=room)(h3:(l.length+L.length)*K<=Rn.top)(x:X):
 l.length=l.length/\some (aD enc l)=some (aD enc l)/\top<=n/\cG FU n o (len*K)=some (L.map enc).flatten/\len=L.length/\(∀x,(enc x).length=K/\(enc x).all AV.bR=true)/\2*(l.length+L.length)*nY+4096*nY<=room/\(l.length+L.length)*K<=Rn.top/\X:=
 ⟨rfl,rfl,hf.1,hf.2.1,hf.2.2,h1,h2,h3,x⟩
def BJ(bx k:Nat):Nat:=if k<270\/top<=k then k else max k bx
theorem Ip{k:Nat}(h:top<=k):BJ bx k=k:=if_pos<|.inr h
theorem Jn(he:mo K enc)(l:List α){n:Nat}(hc:(match cap with| .known c=>Nat.ble l.length c| .aq _ _=>true| .lost=>false)=true)(hl:l.length*K<=top)(hj:j<top)(hn:n<top)(hs:bx<top):hU FU 270 bx [(j,.slice (some (n,0)) l.length cap)] [(n,some<|aD enc l)] [(j,aw enc l)] [] 270:=by
 refine⟨[(n,nm (l.map enc).flatten,(l.map enc).flatten)],BJ bx,fun k hk=>if_pos<|.inl hk,fun k h1 h2=>?_,fun k hk=>Ip hk,by unfold top;decide,fun p hp=>?_,fun p hp=>nN,fun p hp=>nN,fun p hp=>?_,fun p _ q hq=>(by cases hq)⟩
 ·unfold BJ;rw[if_neg ab];omega
 ·rw[List.mem_singleton] at hp;subst hp;exact⟨hj,_,List.mem_singleton.2 rfl,IL (List.mem_singleton.2 rfl) (fun k hk=>Ip hk) hc⟩
 ·rw[List.mem_singleton] at hp;subst hp;exact IM he hl n hn<|List.mem_singleton.2 rfl
theorem Ov(hj:j<top)(hs:bx<top):hU FU 270 bx [(j,.slice none 0<|.known 0)] [] [(j,aw enc [])] [] 270:=by
 refine⟨[],BJ bx,fun k hk=>if_pos<|.inl hk,fun k h1 h2=>?_,fun k hk=>Ip hk,by unfold top;decide,fun p hp=>?_,fun p hp=>nN,fun p hp=>nN,fun p hp=>nN,fun p hp=>nN⟩
 ·unfold BJ;rw[if_neg ab];omega
 ·rw[List.mem_singleton] at hp;subst hp;exact⟨hj,_,List.mem_singleton.2 rfl,Fv⟩
theorem T7{n:Nat}(hj:j<top)(hs:bx<top):hU FU 270 bx [(j,.slice (some (n,0)) 0 cap)] [] [(j,aw enc [])] [] 270:=by
 refine⟨[],BJ bx,fun k hk=>if_pos<|.inl hk,fun k h1 h2=>?_,fun k hk=>Ip hk,by unfold top;decide,fun p hp=>?_,fun p hp=>nN,fun p hp=>nN,fun p hp=>nN,fun p hp=>nN⟩
 ·unfold BJ;rw[if_neg ab];omega
 ·rw[List.mem_singleton] at hp;subst hp;exact⟨hj,_,List.mem_singleton.2 rfl,aaZ⟩
end fW
end
section
open Go Go.Rn Go.RowKit Go.Proofs
namespace vT
open cj cH cU dm dq fW
variable {B:aI} {o N:Nat} {L:bO}
noncomputable section
theorem wy(v:AV):v=v:=rfl
theorem To(x:Ex):(aB x).all AV.bR=true:=by cases x;rw[aB];rfl
theorem agK:(([(2,(.slice none 0<|.known 0))]:List<|Nat×AV).map (fun q=>some q.2)=([(2,(.slice none 0<|.known 0))]:List<|Nat×AV).map (fun q=>some q.2))/\(([]:List<|Nat×Option ae).map (fun q=>q.2)=([]:List<|Nat×Option ae).map (fun q=>q.2))/\hU FU 270 270 [(2,(.slice none 0<|.known 0))] [] [(2,aw encI ([]:List Int))] [] 270/\((⟨22,aC [(2,aw encI ([]:List Int))],max Tryz.f22.ntmps 1,[.code<|aQ pg 22 [1,0,1,0,1],.code<|aQ pg 22 [1,1]],[],none⟩:AF)=⟨22,aC [(2,aw encI ([]:List Int))],max Tryz.f22.ntmps 1,[.code<|aQ pg 22 [1,0,1,0,1],.code<|aQ pg 22 [1,1]],[],none⟩/\ah [] 270=ah [] 270):=⟨rfl,rfl,(Ov (enc:=encI) (j:=2) (bx:=270) eH eH),rfl,rfl⟩
theorem agL(mc:Mt [] B):au pg B 270 (Fin pg (az Tryz.f22) fun y _=>y=(aw encI ([]:List Int))) ⟨22,aC [(2,aw encI ([]:List Int))],max Tryz.f22.ntmps 1,[.code<|aQ pg 22 [1,0,1,0,1],.code<|aQ pg 22 [1,1]],[],none⟩<|ah [] 270:=by exact wS mc (.rt 1 .no)<|wy<|aw encI ([]:List Int)
theorem go_In(mc:Mt [] B):au pg B 270 (Fin pg (az Tryz.f22) fun y _=>y=(aw encI ([]:List Int))) (sF 22 Tryz.f22 [(.U top 0 0)])<|ah ak 270:=by exact wC mc (C:=(fun fr s1 _=>fr=⟨22,aC [(2,aw encI ([]:List Int))],max Tryz.f22.ntmps 1,[.code<|aQ pg 22 [1,0,1,0,1],.code<|aQ pg 22 [1,1]],[],none⟩/\s1=ah [] 270)) (fun fr s1 p hC=>by obtain⟨rfl,rfl⟩:=hC;exact agL mc) (.st 8<|.rn [(2,(.slice none 0<|.known 0))] [] [(2,aw encI ([]:List Int))] [] 270 270 .no)<|agK
theorem agN:(([(2,(.slice (some (271,0)) (0)<|.aq 0 1))]:List<|Nat×AV).map (fun q=>some q.2)=([(2,(.slice (some (271,0)) (0)<|.aq 0 1))]:List<|Nat×AV).map (fun q=>some q.2))/\(([]:List<|Nat×Option ae).map (fun q=>q.2)=([]:List<|Nat×Option ae).map (fun q=>q.2))/\hU FU 270 272 [(2,(.slice (some (271,0)) (0)<|.aq 0 1))] [] [(2,aw encI ([]:List Int))] [] 270/\((⟨22,aC [(2,aw encI ([]:List Int))],max Tryz.f22.ntmps 1,(cv 22 [1,1,1]),[],none⟩:AF)=⟨22,aC [(2,aw encI ([]:List Int))],max Tryz.f22.ntmps 1,(cv 22 [1,1,1]),[],none⟩/\ah [] 270=ah [] 270):=⟨rfl,rfl,(T7 (enc:=encI) (j:=2) (bx:=272) eH eH),rfl,rfl⟩
theorem agO(mc:Mt [] B):au pg B 270 (Fin pg (az Tryz.f22) fun y _=>y=(aw encI ([]:List Int))) ⟨22,aC [(2,aw encI ([]:List Int))],max Tryz.f22.ntmps 1,(cv 22 [1,1,1]),[],none⟩<|ah [] 270:=by exact wS mc (.rt 1 .no)<|wy<|aw encI ([]:List Int)
theorem go_Ie(mc:Mt [] B):au pg B 270 (Fin pg (az Tryz.f22) fun y _=>y=(aw encI ([]:List Int))) (sF 22 Tryz.f22 [(.U (top+1) 0 0)])<|ah ak 270:=by exact wC mc (C:=(fun fr s1 _=>fr=⟨22,aC [(2,aw encI ([]:List Int))],max Tryz.f22.ntmps 1,(cv 22 [1,1,1]),[],none⟩/\s1=ah [] 270)) (fun fr s1 p hC=>by obtain⟨rfl,rfl⟩:=hC;exact agO mc) (.st 9<|.rn [(2,(.slice (some (271,0)) (0)<|.aq 0 1))] [] [(2,aw encI ([]:List Int))] [] 272 270 .no)<|agN
noncomputable abbrev Jo(l:List Int):List<|Nat×AV:=[(2,(.slice (some (271,0)) (([]++l).length)<|.aq ([]++l).length 1))]
theorem agQ(l:List Int)(hlen:l.length<=100000):(((Jo l):List<|Nat×AV).map (fun q=>some q.2)=((Jo l):List<|Nat×AV).map (fun q=>some q.2))/\(([(271,some<|aD encI<|[]++l)]:List<|Nat×Option ae).map (fun q=>q.2)=([(271,some<|aD encI<|[]++l)]:List<|Nat×Option ae).map (fun q=>q.2))/\hU FU 270 272 (Jo l) [(271,some<|aD encI<|[]++l)] [(2,aw encI<|[]++l)] [] 270/\((⟨22,aC [(2,aw encI<|[]++l)],max Tryz.f22.ntmps 1,(cv 22 [1,1,1]),[],none⟩:AF)=⟨22,aC [(2,aw encI<|[]++l)],max Tryz.f22.ntmps 1,(cv 22 [1,1,1]),[],none⟩/\ah [] 270=ah [] 270):=⟨rfl,rfl,(Jn (j:=2) (bx:=272) eI ([]++l) rfl (by rw[List.nil_append];unfold top;omega) eH eH eH),rfl,rfl⟩
theorem agR(mc:Mt [] B)(l:List Int):au pg B 270 (Fin pg (az Tryz.f22) fun y _=>y=(aw encI<|[]++l)) ⟨22,aC [(2,aw encI<|[]++l)],max Tryz.f22.ntmps 1,(cv 22 [1,1,1]),[],none⟩<|ah [] 270:=by exact wS mc (.rt 1 .no)<|wy<|aw encI<|[]++l
theorem go_Im(mc:Mt [] B){l:List Int}{m:Nat}(hlen:l.length<=100000)(hf:top<=N/\cG FU N o ((m+1)*1)=some (l.map encI).flatten/\m+1=l.length):au pg B 270 (Fin pg (az Tryz.f22) fun y _=>y=(aw encI<|[]++l)) (sF 22 Tryz.f22 [(.U N o<|m+1)])<|ah ak 270:=by exact wC mc (C:=(fun fr s1 _=>fr=⟨22,aC [(2,aw encI<|[]++l)],max Tryz.f22.ntmps 1,(cv 22 [1,1,1]),[],none⟩/\s1=ah [] 270)) (fun fr s1 p hC=>by obtain⟨rfl,rfl⟩:=hC;exact agR mc l) (.st 8<|.rg<|.go 2<|.al Int encI [] l<|.go 1<|.en<|.rn (Jo l) [(271,some<|aD encI<|[]++l)] [(2,aw encI<|[]++l)] [] 272 270 .no)<|Ln encI [] l (K:=1) (nY:=8) hf (fun x=>⟨rfl,rfl⟩) PX PY<|agQ l hlen
def Bd(args:List AV)(v:AV):Prop:=∃(N o:Nat) (l:List Int),args=[.U N o l.length]/\du encI 1 (.U N o l.length) l/\l.length<=100000/\v=aw encI l
theorem Bd.bM(args:List AV)(v v':AV)(h:Bd args v)(h':Bd args v'):v=v':=by
 obtain⟨N,o,l,rfl,hl,_,rfl⟩:=h;obtain⟨N',o',l',h1,lf,_,rfl⟩:=h';injection h1 with h1 _
 rw[h1] at hl;rw[hl.inj sO lf]
def CX:FuncId×KE:=(22,.val<|aR Bd)
theorem aap(hP:bS pg)(h:aX L):aX<|CX::L:=by
 refine gE hP h de Tryz.func22 fun args v e=>?_;obtain⟨N,o,l,rfl,hl,hlen,rfl⟩:=fS e;refine⟨aK.1 aU,fun B mc=>?_⟩;rw[←hI];cases l with
 |nil=>
  refine au.IP (i:=0) (n:=N) (o:=o) bW hl.len.2.1 (aK.1 aU) ?_ ?_
  ·exact go_In mc
  ·exact go_Ie mc
 |cons a l=>
  have hf:cG FU N o ((l.length+1)*1)=some ((a::l).map encI).flatten:=by
   rcases IK eI.len hl with q|q
   ·exact q
   ·cases q
  have key:=go_Im (l:=a::l) (N:=N) (o:=o) (m:=l.length) mc hlen ⟨hl.len.2.1,hf,rfl⟩;exact key
theorem agT:(([(2,(.slice none 0<|.known 0))]:List<|Nat×AV).map (fun q=>some q.2)=([(2,(.slice none 0<|.known 0))]:List<|Nat×AV).map (fun q=>some q.2))/\(([]:List<|Nat×Option ae).map (fun q=>q.2)=([]:List<|Nat×Option ae).map (fun q=>q.2))/\hU FU 270 270 [(2,(.slice none 0<|.known 0))] [] [(2,aw aB ([]:List Ex))] [] 270/\((⟨71,aC [(2,aw aB ([]:List Ex))],max Tryz.f71.ntmps 1,[.code<|aQ pg 71 [1,0,1,0,1],.code<|aQ pg 71 [1,1]],[],none⟩:AF)=⟨71,aC [(2,aw aB ([]:List Ex))],max Tryz.f71.ntmps 1,[.code<|aQ pg 71 [1,0,1,0,1],.code<|aQ pg 71 [1,1]],[],none⟩/\ah [] 270=ah [] 270):=⟨rfl,rfl,(Ov (enc:=aB) (j:=2) (bx:=270) eH eH),rfl,rfl⟩
theorem agU(mc:Mt [] B):au pg B 270 (Fin pg (az Tryz.f71) fun y _=>y=(aw aB ([]:List Ex))) ⟨71,aC [(2,aw aB ([]:List Ex))],max Tryz.f71.ntmps 1,[.code<|aQ pg 71 [1,0,1,0,1],.code<|aQ pg 71 [1,1]],[],none⟩<|ah [] 270:=by exact wS mc (.rt 1 .no)<|wy<|aw aB ([]:List Ex)
theorem go_En(mc:Mt [] B):au pg B 270 (Fin pg (az Tryz.f71) fun y _=>y=(aw aB ([]:List Ex))) (sF 71 Tryz.f71 [(.U top 0 0)])<|ah ak 270:=by exact wC mc (C:=(fun fr s1 _=>fr=⟨71,aC [(2,aw aB ([]:List Ex))],max Tryz.f71.ntmps 1,[.code<|aQ pg 71 [1,0,1,0,1],.code<|aQ pg 71 [1,1]],[],none⟩/\s1=ah [] 270)) (fun fr s1 p hC=>by obtain⟨rfl,rfl⟩:=hC;exact agU mc) (.st 8<|.rn [(2,(.slice none 0<|.known 0))] [] [(2,aw aB ([]:List Ex))] [] 270 270 .no)<|agT
theorem agW:(([(2,(.slice (some (271,0)) (0)<|.aq 0 3))]:List<|Nat×AV).map (fun q=>some q.2)=([(2,(.slice (some (271,0)) (0)<|.aq 0 3))]:List<|Nat×AV).map (fun q=>some q.2))/\(([]:List<|Nat×Option ae).map (fun q=>q.2)=([]:List<|Nat×Option ae).map (fun q=>q.2))/\hU FU 270 272 [(2,(.slice (some (271,0)) (0)<|.aq 0 3))] [] [(2,aw aB ([]:List Ex))] [] 270/\((⟨71,aC [(2,aw aB ([]:List Ex))],max Tryz.f71.ntmps 1,(cv 71 [1,1,1]),[],none⟩:AF)=⟨71,aC [(2,aw aB ([]:List Ex))],max Tryz.f71.ntmps 1,(cv 71 [1,1,1]),[],none⟩/\ah [] 270=ah [] 270):=⟨rfl,rfl,(T7 (enc:=aB) (j:=2) (bx:=272) eH eH),rfl,rfl⟩
theorem agX(mc:Mt [] B):au pg B 270 (Fin pg (az Tryz.f71) fun y _=>y=(aw aB ([]:List Ex))) ⟨71,aC [(2,aw aB ([]:List Ex))],max Tryz.f71.ntmps 1,(cv 71 [1,1,1]),[],none⟩<|ah [] 270:=by exact wS mc (.rt 1 .no)<|wy<|aw aB ([]:List Ex)
theorem go_Ee(mc:Mt [] B):au pg B 270 (Fin pg (az Tryz.f71) fun y _=>y=(aw aB ([]:List Ex))) (sF 71 Tryz.f71 [(.U (top+1) 0 0)])<|ah ak 270:=by exact wC mc (C:=(fun fr s1 _=>fr=⟨71,aC [(2,aw aB ([]:List Ex))],max Tryz.f71.ntmps 1,(cv 71 [1,1,1]),[],none⟩/\s1=ah [] 270)) (fun fr s1 p hC=>by obtain⟨rfl,rfl⟩:=hC;exact agX mc) (.st 9<|.rn [(2,(.slice (some (271,0)) (0)<|.aq 0 3))] [] [(2,aw aB ([]:List Ex))] [] 272 270 .no)<|agW
noncomputable abbrev Jp(l:List Ex):List<|Nat×AV:=[(2,(.slice (some (271,0)) (([]++l).length)<|.aq ([]++l).length 3))]
theorem agZ(l:List Ex)(hlen:l.length<=100000):(((Jp l):List<|Nat×AV).map (fun q=>some q.2)=((Jp l):List<|Nat×AV).map (fun q=>some q.2))/\(([(271,some<|aD aB<|[]++l)]:List<|Nat×Option ae).map (fun q=>q.2)=([(271,some<|aD aB<|[]++l)]:List<|Nat×Option ae).map (fun q=>q.2))/\hU FU 270 272 (Jp l) [(271,some<|aD aB<|[]++l)] [(2,aw aB<|[]++l)] [] 270/\((⟨71,aC [(2,aw aB<|[]++l)],max Tryz.f71.ntmps 1,(cv 71 [1,1,1]),[],none⟩:AF)=⟨71,aC [(2,aw aB<|[]++l)],max Tryz.f71.ntmps 1,(cv 71 [1,1,1]),[],none⟩/\ah [] 270=ah [] 270):=⟨rfl,rfl,(Jn (j:=2) (bx:=272) kK ([]++l) rfl (by rw[List.nil_append];unfold top;omega) eH eH eH),rfl,rfl⟩
theorem ag0(mc:Mt [] B)(l:List Ex):au pg B 270 (Fin pg (az Tryz.f71) fun y _=>y=(aw aB<|[]++l)) ⟨71,aC [(2,aw aB<|[]++l)],max Tryz.f71.ntmps 1,(cv 71 [1,1,1]),[],none⟩<|ah [] 270:=by exact wS mc (.rt 1 .no)<|wy<|aw aB<|[]++l
theorem go_Em(mc:Mt [] B){l:List Ex}{m:Nat}(hlen:l.length<=100000)(hf:top<=N/\cG FU N o ((m+1)*3)=some (l.map aB).flatten/\m+1=l.length):au pg B 270 (Fin pg (az Tryz.f71) fun y _=>y=(aw aB<|[]++l)) (sF 71 Tryz.f71 [(.U N o<|m+1)])<|ah ak 270:=by exact wC mc (C:=(fun fr s1 _=>fr=⟨71,aC [(2,aw aB<|[]++l)],max Tryz.f71.ntmps 1,(cv 71 [1,1,1]),[],none⟩/\s1=ah [] 270)) (fun fr s1 p hC=>by obtain⟨rfl,rfl⟩:=hC;exact ag0 mc l) (.st 8<|.rg<|.go 2<|.al Ex aB [] l<|.go 1<|.en<|.rn (Jp l) [(271,some<|aD aB<|[]++l)] [(2,aw aB<|[]++l)] [] 272 270 .no)<|Ln aB [] l (K:=3) (nY:=40) hf (fun x=>⟨kK.len x,To x⟩) PX PY<|agZ l hlen
def Be(args:List AV)(v:AV):Prop:=∃(N o:Nat) (l:List Ex),args=[.U N o l.length]/\du aB 3 (.U N o l.length) l/\l.length<=100000/\v=aw aB l
theorem Be.bM(args:List AV)(v v':AV)(h:Be args v)(h':Be args v'):v=v':=by
 obtain⟨N,o,l,rfl,hl,_,rfl⟩:=h;obtain⟨N',o',l',h1,lf,_,rfl⟩:=h';injection h1 with h1 _
 rw[h1] at hl;rw[hl.inj ny lf]
def UW:FuncId×KE:=(71,.val<|aR Be)
theorem aaq(hP:bS pg)(h:aX L):aX<|UW::L:=by
 refine gE hP h de Tryz.func71 fun args v e=>?_;obtain⟨N,o,l,rfl,hl,hlen,rfl⟩:=fS e;refine⟨aK.1 aU,fun B mc=>?_⟩;rw[←hI];cases l with
 |nil=>
  refine au.IP (i:=0) (n:=N) (o:=o) bW hl.len.2.1 (aK.1 aU) ?_ ?_
  ·exact go_En mc
  ·exact go_Ee mc
 |cons a l=>
  have hf:cG FU N o ((l.length+1)*3)=some ((a::l).map aB).flatten:=by
   rcases IK kK.len hl with q|q
   ·exact q
   ·cases q
  have key:=go_Em (l:=a::l) (N:=N) (o:=o) (m:=l.length) mc hlen ⟨hl.len.2.1,hf,rfl⟩;exact key
end
end vT
end
section
open Go Go.Rn Go.RowKit Go.Proofs
namespace GG
open cj cH cU dm dq fW vT vP xN
variable {k N:Nat} {bQ n1 n0:Int} {l1:List Ex} {B:aI}
theorem afy{α:Type}{K:Nat}{enc:α->List AV}(he:mo K enc)(l:List α){b n j bx:Nat}(pre post:List AV){cap:bZ}(hl:l.length*K<=top)(hb:270<=b)(G7:b+1<=n)(hj:j<top)(hn:n<top)(hs:bx<top)(e1:∀r:Nat->Nat,(∀k,top<=k->r k=k)->oB r pre pre)(e2:∀r:Nat->Nat,(∀k,top<=k->r k=k)->oB r post post)(h1:(pre++aw enc l::post).all AV.bR=true)(h2:(pre++aw enc l::post).length<=top)(hc:(match cap with| .known c=>Nat.ble l.length c| .aq _ _=>true| .lost=>false)=true):
 hU FU 270 bx [(j,.ptr<|some (b,0))] [(b,some<|.cells (pre++ .slice (some (n,0)) l.length cap::post).length (Tr.fill (pre++ .slice (some (n,0)) l.length cap::post) 0 .nil) []),(n,some<|aD enc l)] [(j,.ptr<|some (b,0))] [(b,some<|.cells (pre++aw enc l::post).length (Tr.fill (pre++aw enc l::post) 0 .nil) [])] (b+1):=by
 let r:Nat->Nat:=fun k=>if k<b+1\/top<=k then k else max k bx
 have rt:∀k,top<=k->r k=k:=fun k hk=>if_pos<|.inr hk;have rb:r b=b:=if_pos<|.inl ab;have app:∀(fz:lF) (p q p' q':List AV),ly fz r p p'->ly fz r q q'->ly fz r (p++q) (p'++q'):=by
  intro fz p;induction p with
  |nil=>intro q p' q' h1 h2;cases p' with
   |nil=>exact h2
   |cons _ _=>cases h1
  |cons a p ih=>intro q p' q' h1 h2;cases p' with
   |nil=>cases h1
   |cons a' p'=>exact⟨h1.1,ih q p' q' h1.2 h2⟩
 have Yc:∀(fz:lF) (p:List AV),oB r p p->ly fz r p p:=by
  intro fz p;induction p with
  |nil=>intro _;trivial
  |cons a p ih=>intro h;exact⟨h.1.z,ih h.2⟩
 refine⟨[(n,nm (l.map enc).flatten,(l.map enc).flatten)],r,fun k hk=>if_pos<|.inl ab,fun k h1 h2=>?_,rt,by omega,fun p hp=>?_,fun p hp=>?_,fun p hp q hq _ _ _=>?_,fun p hp=>?_,fun p hp q hq _=>?_⟩
 ·show bx<=(if _ then _ else _)/\(if _ then _ else _)<top;rw[if_neg ab];omega
 ·rw[List.mem_singleton] at hp;subst hp;exact⟨hj,_,List.mem_singleton.2 rfl,(bp.ptr rb).z⟩
 ·rw[List.mem_singleton] at hp;subst hp;refine⟨by show b<top;omega,fun y hy=>?_⟩;cases hy;refine⟨by rw[rb];omega,rfl,_,by rw[rb];exact List.mem_cons_self,⟨fun _=>rfl,(fun e=>by cases e),fun e=>by cases e⟩,?_⟩;refine fD.cells (by simp only[List.length_append,List.length_cons] at h2 ⊢;exact h2) (app _ _ _ _ _ (Yc _ _<|e1 r rt) ⟨IL (List.mem_singleton.2 rfl) rt hc,Yc _ _<|e2 r rt⟩) h1
 ·rw[List.mem_singleton] at hp hq;subst hp;subst hq;rfl
 ·rw[List.mem_singleton] at hp;subst hp;exact IM he hl n hn<|List.mem_cons_of_mem _ List.mem_cons_self
 ·rw[List.mem_singleton] at hp hq;subst hp;subst hq;show r b≠n;rw[rb];omega
def pa:Nat->Ex->Bool
 |0,_=>false
 |k+1,.mk op n args=>eP (k+1) (.mk op n args)||args.isEmpty
def rE(k:Nat)(args:List AV)(v:AV):Prop:=∃e:Ex,args=[.agg<|aB e]/\pa k e=true/\v= .agg (aB e)
theorem rE.bM(args:List AV)(v v':AV)(h:rE k args v)(h':rE k args v'):v=v':=by obtain⟨e,rfl,_,rfl⟩:=h;obtain⟨e',h1,_,rfl⟩:=h';injection h1 with h1 _
noncomputable def rF(k:Nat):FuncId×KE:=(50,.val<|aR<|rE k)
theorem ag2{op n:Int}(mc:Mt [UW,rF k] B)(oZ:bj (aR Be) [.U N 0 0]=some (.U N 0 0)):au pg B 270 (Fin pg (az Tryz.f50) fun y _=>y=(.agg [(u8<|op),(i6 n),(.U N 0 0)])) (sF 50 Tryz.f50 [(.agg [(u8<|op),(i6 n),(.U N 0 0)])])<|ah ak 270:=by exact wS mc (.st 3<|.rg<|.go 2<|.kn (.U N 0 0)<|.go 2<|.en<|.rt 13 .no)<|ai oZ<|wy<|.agg [(u8<|op),(i6 n),(.U N 0 0)]
noncomputable abbrev C7(op n bQ n0:Int)(l0:List Ex)(cz n1:Int)(l1:List Ex):List<|Nat×Option ae:=[(271,some<|.cells 3 (Tr.fill [.int .u8 op,.int .i64 n,aw aB [Ex.mk bQ n0 l0,Ex.mk cz n1 l1]] 0 .nil) [])]
noncomputable abbrev Jq(op n bQ n0:Int)(l0:List Ex)(cz n1:Int)(l1:List Ex):List<|Nat×Option ae:=[(271,some<|.cells 3 (Tr.fill [(u8<|op),(i6 n),(.slice (some (273,0)) (2)<|.aq 2 3)] 0 .nil) []),(273,some<|aD aB [Ex.mk bQ n0 l0,Ex.mk cz n1 l1])]
theorem ag3{op n cz:Int}{l0:List Ex}:(([(2,(.ptr<|some (271,0)))]:List<|Nat×AV).map (fun q=>some q.2)=([(2,(.ptr<|some (271,0)))]:List<|Nat×AV).map (fun q=>some q.2))/\(((Jq op n bQ n0 l0 cz n1 l1):List<|Nat×Option ae).map (fun q=>q.2)=((Jq op n bQ n0 l0 cz n1 l1):List<|Nat×Option ae).map (fun q=>q.2))/\hU FU 270 276 [(2,(.ptr<|some (271,0)))] (Jq op n bQ n0 l0 cz n1 l1) [(2,(.ptr<|some (271,0)))] (C7 op n bQ n0 l0 cz n1 l1) 272/\((⟨50,aC [(2,(.ptr<|some (271,0)))],max Tryz.f50.ntmps 1,(cv 50 [1,1,1,1]),[],none⟩:AF)=⟨50,aC [(2,(.ptr<|some (271,0)))],max Tryz.f50.ntmps 1,(cv 50 [1,1,1,1]),[],none⟩/\ah (C7 op n bQ n0 l0 cz n1 l1) 272=ah (C7 op n bQ n0 l0 cz n1 l1) 272):=⟨rfl,rfl,afy kK (b:=271) (n:=273) (j:=2) (bx:=276) [Ex.mk bQ n0 l0,Ex.mk cz n1 l1] [.int .u8 op,.int .i64 n] [] (by simp only[List.length_cons,List.length_nil];unfold top;omega) ab ab eH eH eH (fun r _=>⟨bp.int _ _,bp.int _ _,trivial⟩) (fun r _=>trivial) rfl (by show 3<=top;unfold top;omega) rfl,rfl,rfl⟩
theorem ag4(mc:Mt [rF k] B){op n cz:Int}{l0:List Ex}:au pg B 270 (Fin pg (az Tryz.f50) fun y _=>y=(.agg [.int .u8 op,.int .i64 n,aw aB [Ex.mk bQ n0 l0,Ex.mk cz n1 l1]])) ⟨50,aC [(2,(.ptr<|some (271,0)))],max Tryz.f50.ntmps 1,(cv 50 [1,1,1,1]),[],none⟩<|ah (C7 op n bQ n0 l0 cz n1 l1) 272:=by exact wS mc (.rt 1 .no)<|wy<|.agg [.int .u8 op,.int .i64 n,aw aB [Ex.mk bQ n0 l0,Ex.mk cz n1 l1]]
theorem go_cp(mc:Mt [rF k] B){op n cz:Int}{l0:List Ex}(hn:top<=N)(hf:cG FU N 0 (2*3)=some ([Ex.mk bQ n0 l0,Ex.mk cz n1 l1].map aB).flatten)(jr:bj (aR<|rE k) [(.agg [(u8<|bQ),(i6 n0),(.U (nm<|cK l0) 0 l0.length)])]=some (.agg [(u8<|bQ),(i6 n0),(.U (nm<|cK l0) 0 l0.length)]))(jJ:bj (aR<|rE k) [(.agg [(u8<|cz),(i6 n1),(.U (nm<|cK l1) 0 l1.length)])]=some (.agg [(u8<|cz),(i6 n1),(.U (nm<|cK l1) 0 l1.length)])):au pg B 270 (Fin pg (az Tryz.f50) fun y _=>y=(.agg [.int .u8 op,.int .i64 n,aw aB [Ex.mk bQ n0 l0,Ex.mk cz n1 l1]])) (sF 50 Tryz.f50 [(.agg [(u8<|op),(i6 n),(.U N 0 2)])])<|ah ak 270:=by exact wC mc (C:=(fun fr s1 _=>fr=⟨50,aC [(2,(.ptr<|some (271,0)))],max Tryz.f50.ntmps 1,(cv 50 [1,1,1,1]),[],none⟩/\s1=ah (C7 op n bQ n0 l0 cz n1 l1) 272)) (fun fr s1 p hC=>by obtain⟨rfl,rfl⟩:=hC;exact ag4 mc) (.st 3<|.rg<|.go 2<|.il<|.st 8<|.rg<|.go 2<|.al Ex aB [] [Ex.mk bQ n0 l0,Ex.mk cz n1 l1]<|.go 1<|.en<|.rt 1<|.go 2<|.en<|.st 14<|.rg<|.go 4<|.kn (.agg [(u8<|bQ),(i6 n0),(.U (nm<|cK l0) 0 l0.length)])<|.go 2<|.en<|.st 12<|.rg<|.go 4<|.kn (.agg [(u8<|cz),(i6 n1),(.U (nm<|cK l1) 0 l1.length)])<|.go 2<|.en<|.st 10<|.rn [(2,(.ptr<|some (271,0)))] (Jq op n bQ n0 l0 cz n1 l1) [(2,(.ptr<|some (271,0)))] (C7 op n bQ n0 l0 cz n1 l1) 276 272 .no)<|Ln aB [] [Ex.mk bQ n0 l0,Ex.mk cz n1 l1] (K:=3) (nY:=40) ⟨hn,hf,rfl⟩ (fun x=>⟨kK.len x,To x⟩) (by show 2*(0+2)*40+4096*40<=room;unfold room;omega) (by show(0+2)*3<=top;unfold top;omega)<|ai jr<|ai jJ<|ag3 (op:=op) (n:=n) (bQ:=bQ) (n0:=n0) (cz:=cz) (n1:=n1) (l0:=l0) (l1:=l1)
end GG
end
section
open Go Go.Rn Go.RowKit Go.Proofs
namespace J2
open cj cH cU dm dq fW vT vP xN GG
variable {k:Nat} {e:Ex}
theorem Ow(h:eP k e=true):pa k e=true:=by
 cases k with
 |zero=>cases h
 |succ k=>obtain⟨op,n,l⟩:=e;show(eP (k+1) (.mk op n l)||l.isEmpty)=true;rw[h];rfl
theorem adW{op n:Int}{l:List Ex}(h:pa (k+1) (.mk op n l)=true):l=[]\/∃a b,l=[a,b]/\eP k a=true/\eP k b=true:=by
 have h:(eP (k+1) (.mk op n l)||l.isEmpty)=true:=h;rw[Bool.or_eq_true] at h;rcases h with h|h
 ·exact Tk h
 ·exact .inl<|List.isEmpty_iff.1 h
theorem CY(hw:pa k e=true):bj (aR<|rE k) [.agg<|aB e]=some (.agg<|aB e):=eO (eK rE.bM ⟨e,rfl,hw,rfl⟩) rM<|Bn e
theorem N7(l:List Ex):AV.U (nm<|cK l) 0 l.length=aw aB l:=by rw[CB];rfl
theorem abb{l:List Ex}(h:l.length<=100000):bj (aR Be) [.U (nm<|cK l) 0 l.length]=some (aw aB l):=by rw[N7];exact eO (eK Be.bM ⟨_,0,l,rfl,du.aw kK l,h,rfl⟩) (by rw[List.all_cons,show AV.hi (aw aB l)=true from aK.2<|cN _];rfl)<|aK.2<|cN _
theorem No(hP:bS pg):∀(k:Nat) {L:bO},aX L->aX (rF k::L)
 |0,L,h=>by refine gE hP h de Tryz.func50 fun args v e=>?_;obtain⟨_,_,hw,_⟩:=fS e;cases hw
 |k+1,L,h=>by
  refine aco hP gT ry jT jq h Tryz.func50 (body:=aQ pg 50 []) aU aU fun args v e=>?_;obtain⟨⟨op,n,l⟩,rfl,hw,rfl⟩:=fS e;refine⟨aK.1 aU,?_⟩;rcases adW hw with rfl|⟨a,b,rfl,w0,w1⟩
  ·refine⟨_,aaq hP<|No hP k de,fun B mc=>?_⟩;rw[←hI,aB];exact ag2 mc (by have:=abb (l:=[]) (by show(0:Nat)<=100000;omega);rw[←N7] at this;exact this)
  ·refine⟨_,No hP k de,fun B mc=>?_⟩;obtain⟨bQ,n0,l0⟩:=a;obtain⟨cz,n1,l1⟩:=b;rw[←hI,aB];have c0:=CY<|Ow w0;have c1:=CY<|Ow w1;rw[aB] at c0 c1;have hf:cG FU (nm<|cK [Ex.mk bQ n0 l0,.mk cz n1 l1]) 0 (2*3)=some ([Ex.mk bQ n0 l0,.mk cz n1 l1].map aB).flatten:=by
    rcases IK (K:=3) kK.len (du.aw kK [Ex.mk bQ n0 l0,.mk cz n1 l1]) with q|q
    ·rw[CB];exact q
    ·cases q
   have key:=go_cp (op:=op) (n:=n) mc (cN _) hf c0 c1;rw[←N7] at key;exact key
end J2
end
section
open Go Go.Rn Go.RowKit Go.Proofs
namespace im
open cj cH cU dm eZ fQ dq fW vT vP xN rD GG J2
variable {k N L K:Nat} {B:aI} {to ob oa nb na kd i:Int} {lb la:List Ex} {el bd W:List St} {v x:AV} {α:Type} {r:Nat->Nat} {enc:α->List AV}
noncomputable section
theorem T8:∀p∈ak,∀y,p.2=some y->y.kj=true:=by
 have h:(ak.all fun p=>Je p.2)=true:=by kernel_rfl
 intro p hp y hy;have:=List.all_eq_true.1 h p hp;rw[hy] at this;exact this
def pC:Nat->List St->Bool
 |0,_=>false
 |k+1,l=>decide (l.length<=10000)&&l.all fun s=>pa 6 (cV s)&&(pa 6 (iv s)&&(pC k (bG s)&&pC k (bF s)))
theorem abc(x:St):(aL x).all AV.bR=true:=List.all_eq_true.2 fun y hy=>HW<|List.all_eq_true.1 (mz.gh x) y hy
theorem Ox(hr:∀k,top<=k->r k=k)(h:x.hi=true):bp r x x:=fun ρ v hv=>AV.pB (fun k y hk e=>by rw[hr k hk];exact e) h hv
theorem abd(h:x.gh=true):x.hi=true:=by have:=CL h;cases x<;>first|exact this|cases h
theorem IQ(he:mo K enc)(l:List α)(hl:l.length*K<=top){fz:lF}(hr:∀k,top<=k->r k=k):fD fz r (aD enc l)<|aD enc l:=by
 have hz:∀(m:List AV),m.all AV.gh=true->ly fz r m m:=by
  intro m;induction m with
  |nil=>intro _;trivial
  |cons a m ih=>intro h;rw[List.all_cons,Bool.and_eq_true] at h;exact⟨(Ox hr<|abd h.1).z,ih h.2⟩
 exact fD.cells (by rw[he.length];exact hl) (hz _<|he.all l)<|List.all_eq_true.2 fun y hy=>HW<|List.all_eq_true.1 (he.all l) y hy
theorem Wp(he:mo K enc)(W:List α){n bx:Nat}{l0 l:List<|Nat×AV}(hl:W.length*K<=top)(hn:270<=n)(iX:n<top)(hs:bx<top)(h:∀r:Nat->Nat,r 270=n->(∀k,top<=k->r k=k)->∀p∈l,p.1<top/\∃x,(p.1,x)∈l0/\jF [] r x p.2):
 hU FU 270 bx l0 (ak++[(n,some<|aD enc W)]) l (ak++[(270,some<|aD enc W)]) 271:=by
 let r:Nat->Nat:=fun k=>if k=270 then n else if k<270\/top<=k then k else max k bx
 have r0:r 270=n:=if_pos rfl;have rl:∀k,k<270->r k=k:=fun k hk=>by show(if _ then _ else _)=_;rw[if_neg ab,if_pos<|.inl hk]
 have t0:270<top:=by unfold top;omega
 have rt:∀k,top<=k->r k=k:=fun k hk=>by show(if _ then _ else _)=_;rw[if_neg ab,if_pos<|.inr hk]
 have EC:∀p∈ak,p.1<270:=fun p hp=>by obtain⟨k,hk,e⟩:=List.mem_map.1 hp;rw[←e];exact jq k hk
 refine⟨[],r,rl,fun k h1 h2=>?_,rt,by unfold top;omega,h r r0 rt,fun p hp=>?_,fun p hp q hq _ _ e=>?_,fun p hp=>nN,fun p hp=>nN⟩
 ·show bx<=(if _ then _ else _)/\(if _ then _ else _)<top;rw[if_neg ab,if_neg ab];omega
 ·rcases List.mem_append.1 hp with hp|hp
  ·have cf:=EC p hp;refine⟨by omega,fun y hy=>?_⟩;rw[rl _ cf];refine⟨by omega,?_,y,?_,fM.refl _,(Fm (nx:=270) rl bW p hp y hy).z⟩
   ·exact T8 p hp y hy
   ·refine List.mem_append_left _ ?_;rw[←hy];exact hp
  ·rw[List.mem_singleton] at hp;subst hp;refine⟨t0,fun y hy=>?_⟩;cases hy;refine⟨by rw[r0];exact iX,rfl,_,by rw[r0];exact List.mem_append_right _<|List.mem_singleton.2 rfl,fM.refl _,IQ he W hl rt⟩
 ·have nm:∀p∈ak++[(270,some<|aD enc W)],p.1<270\/p.1=270:=fun p hp=>by
   rcases List.mem_append.1 hp with hp|hp
   ·exact .inl<|EC p hp
   ·rw[List.mem_singleton] at hp;subst hp;exact .inr rfl
  rcases nm p hp with a|a<;>rcases nm q hq with b|b
  ·rw[rl _ a,rl _ b] at e;exact e
  ·rw[b,r0,rl _ a] at e;omega
  ·rw[a,r0,rl _ b] at e;omega
  ·rw[a,b]
def qg(k:Nat)(args:List AV)(v:AV):Prop:=∃l:List St,args=[.U (nm<|bz l) 0 l.length]/\pC k l=true/\v= .U (nm<|bz l) 0 l.length
theorem qg.bM(args:List AV)(v v':AV)(h:qg k args v)(h':qg k args v'):v=v':=by obtain⟨l,rfl,_,rfl⟩:=h;obtain⟨l',h1,_,rfl⟩:=h';injection h1 with h1 _
def ov(k:Nat):FuncId×KE:=(26,.val<|aR<|qg k)
def Ku(N L:Nat):List<|Nat×AV:=[(3,(.slice none 0<|.known 0)),(6,(.U N 0 L)),(7,(i6<|(L:Int))),(8,i0)]
def D2(N L:Nat):AF:=⟨26,aC<|Ku N L,max Tryz.f26.ntmps 1,[.code<|aQ pg 26 [1,1,0,1,0,0],.inLoop<|aQ pg 26 [1,1,0,1,0,0],.inBlock 0,.code<|aQ pg 26 [1,1,1]],[],none⟩
def BK(N L:Nat)(W:List St)(i:Int):List<|Nat×AV:=[(3,(.slice (some (270,0)) (W.length)<|.aq W.length 10)),(6,(.U N 0 L)),(7,(i6<|(L:Int))),(8,(i6 i))]
def ua(N L:Nat)(W:List St)(i:Int):AF:=⟨26,aC<|BK N L W i,max Tryz.f26.ntmps 1,[.code<|aQ pg 26 [1,1,0,1,0,0],.inLoop<|aQ pg 26 [1,1,0,1,0,0],.inBlock 0,.code<|aQ pg 26 [1,1,1]],[],none⟩
theorem aim(N L:Nat):((Ku N L).map (fun q=>some q.2)=(Ku N L).map (fun q=>some q.2))/\(ak.map (fun q=>q.2)=ak.map (fun q=>q.2))/\(D2 N L=D2 N L/\ah ak 270=ah ak 270):=⟨rfl,rfl,rfl,rfl⟩
theorem go_c(mc:Mt [rF 6,ov k] B)(H:au pg B 270 (Fin pg (az Tryz.f26) fun y _=>y=v) (D2 N L)<|ah ak 270):au pg B 270 (Fin pg (az Tryz.f26) fun y _=>y=v) (sF 26 Tryz.f26 [(.U N 0 L)])<|ah ak 270:=by exact wC mc (C:=(fun fr s1 _=>fr=D2 N L/\s1=ah ak 270)) mT (.st 9<|.ls (Ku N L) ak 270 .no)<|aim N L
noncomputable abbrev Jr(N L:Nat):List<|Nat×AV:=[(3,(.slice (some (272,0)) (1)<|.aq 1 10)),(6,(.U N 0 L)),(7,(i6<|(L:Int))),(8,(i6<|.ofNat 1))]
noncomputable abbrev C8(kd to oa na:Int)(la:List Ex)(ob nb:Int)(lb:List Ex)(bd el:List St):List<|Nat×Option ae:=ak++[(270,some<|aD aL<|[(St.mk kd to (Ex.mk oa na la) (Ex.mk ob nb lb) bd el)])]
theorem aio(hn:top<=N)(hW:[(St.mk kd to (Ex.mk oa na la) (Ex.mk ob nb lb) bd el)].length<=20000):(((Jr N L):List<|Nat×AV).map (fun q=>some q.2)=((Jr N L):List<|Nat×AV).map (fun q=>some q.2))/\((ak++[(272,some<|aD aL [(St.mk kd to (Ex.mk oa na la) (Ex.mk ob nb lb) bd el)])]:List<|Nat×Option ae).map (fun q=>q.2)=(ak++[(272,some<|aD aL [(St.mk kd to (Ex.mk oa na la) (Ex.mk ob nb lb) bd el)])]:List<|Nat×Option ae).map (fun q=>q.2))/\hU FU 270 273 (Jr N L) (ak++[(272,some<|aD aL [(St.mk kd to (Ex.mk oa na la) (Ex.mk ob nb lb) bd el)])]) (BK N L ([(St.mk kd to (Ex.mk oa na la) (Ex.mk ob nb lb) bd el)]) 1) (C8 kd to oa na la ob nb lb bd el) 271/\(ua N L ([(St.mk kd to (Ex.mk oa na la) (Ex.mk ob nb lb) bd el)]) 1=ua N L ([(St.mk kd to (Ex.mk oa na la) (Ex.mk ob nb lb) bd el)]) 1/\ah (C8 kd to oa na la ob nb lb bd el) 271=ah (C8 kd to oa na la ob nb lb bd el) 271):=
 ⟨rfl,rfl,Wp mz [(St.mk kd to (Ex.mk oa na la) (Ex.mk ob nb lb) bd el)] (n:=272) (bx:=273) eH ab eH eH (fun r r0 r2 p hp=>by
  simp only[BK,List.mem_cons,List.not_mem_nil,or_false] at hp;rcases hp with rfl|rfl|rfl|rfl
  ·exact⟨by unfold top;omega,_,List.mem_cons_self,(bp.slice r0).z⟩
  ·exact⟨by unfold top;omega,_,(List.mem_cons_of_mem _ List.mem_cons_self),(bp.U (r2 _ hn) r2).z⟩
  ·exact⟨by unfold top;omega,_,(List.mem_cons_of_mem _<|List.mem_cons_of_mem _ List.mem_cons_self),(bp.int _ _).z⟩
  ·exact⟨by unfold top;omega,_,(List.mem_cons_of_mem _<|List.mem_cons_of_mem _<|List.mem_cons_of_mem _ List.mem_cons_self),(bp.int _ _).z⟩),rfl,rfl⟩
noncomputable abbrev Js(kd to oa na:Int)(la:List Ex)(ob nb:Int)(lb:List Ex)(bd el:List St):List AV:=[(u8<|kd),(i6 to),(u8<|oa),(i6 na),(.U (nm<|cK la) 0 la.length),(u8<|ob),(i6 nb),(.U (nm<|cK lb) 0 lb.length),(.U (nm<|bz bd) 0 bd.length),(.U (nm<|bz el) 0 el.length)]
noncomputable abbrev C9(oa na:Int)(la:List Ex):AV:=.agg [(u8<|oa),(i6 na),(.U (nm<|cK la) 0 la.length)]
noncomputable abbrev Da(ob nb:Int)(lb:List Ex):AV:=.agg [(u8<|ob),(i6 nb),(.U (nm<|cK lb) 0 lb.length)]
theorem aip(mc:Mt [rF 6,ov k] B)(hn:top<=N)(hL:L<=10000)(hx:cG FU N (0+(0:Int).toNat*10+0) 10=some (Js kd to oa na la ob nb lb bd el))(hA:bj (aR<|rE 6) [(C9 oa na la)]=some (C9 oa na la))(hB:bj (aR<|rE 6) [(Da ob nb lb)]=some (Da ob nb lb))(hD:bj (aR<|qg k) [(.U (nm<|bz bd) 0 bd.length)]=some (.U (nm<|bz bd) 0 bd.length))(hE:bj (aR<|qg k) [(.U (nm<|bz el) 0 el.length)]=some (.U (nm<|bz el) 0 el.length))(hW:[(St.mk kd to (Ex.mk oa na la) (Ex.mk ob nb lb) bd el)].length<=20000)(h1:(0:Int)<(L:Int))(H:au pg B 270 (Fin pg (az Tryz.f26) fun y _=>y=v) (ua N L ([(St.mk kd to (Ex.mk oa na la) (Ex.mk ob nb lb) bd el)]) 1)<|ah (C8 kd to oa na la ob nb lb bd el) 271):au pg B 270 (Fin pg (az Tryz.f26) fun y _=>y=v) (D2 N L)<|ah ak 270:=by exact wC mc (C:=(fun fr s1 _=>fr=ua N L ([(St.mk kd to (Ex.mk oa na la) (Ex.mk ob nb lb) bd el)]) 1/\s1=ah (C8 kd to oa na la ob nb lb bd el) 271)) mT (.st 1<|.rg<|.fk (.en<|.st 6<|.rg<|.eF<|.eG (Js kd to oa na la ob nb lb bd el)<|.go 2<|.en<|.st 1<|.rg<|.go 2<|.kn (C9 oa na la)<|.go 2<|.kn (Da ob nb lb)<|.go 2<|.kn (.U (nm<|bz bd) 0 bd.length)<|.go 2<|.kn (.U (nm<|bz el) 0 el.length)<|.go 8<|.en<|.st 4<|.rn (Jr N L) (ak++[(272,(some<|aD aL [(St.mk kd to (Ex.mk oa na la) (Ex.mk ob nb lb) bd el)]))]) (BK N L ([(St.mk kd to (Ex.mk oa na la) (Ex.mk ob nb lb) bd el)]) 1) (C8 kd to oa na la ob nb lb bd el) 273 271 .no)<|.no)<|aT ((0:Int)<(L:Int)) (fun _=>(dU (0:Int) (L:Int)<|ai hn<|ai hx<|ai hA<|ai hB<|ai hD<|ai hE<|aio (N:=N) (L:=L) (kd:=kd) (to:=to) (oa:=oa) (na:=na) (la:=la) (ob:=ob) (nb:=nb) (lb:=lb) (bd:=bd) (el:=el) hn hW)) gb
noncomputable abbrev Jt(W:List St)(kd to oa na:Int)(la:List Ex)(ob nb:Int)(lb:List Ex)(bd el:List St)(N L:Nat)(i:Int):List<|Nat×AV:=[(3,(.slice (some (273,0)) ((W++[(St.mk kd to (Ex.mk oa na la) (Ex.mk ob nb lb) bd el)]).length)<|.aq (W++[(St.mk kd to (Ex.mk oa na la) (Ex.mk ob nb lb) bd el)]).length 10)),(6,(.U N 0 L)),(7,(i6<|(L:Int))),(8,(i6<|(i+1)))]
noncomputable abbrev Db(W:List St)(kd to oa na:Int)(la:List Ex)(ob nb:Int)(lb:List Ex)(bd el:List St):List<|Nat×Option ae:=ak++[(270,some<|aD aL<|W++[(St.mk kd to (Ex.mk oa na la) (Ex.mk ob nb lb) bd el)])]
theorem aiq(hn:top<=N)(hW:(W++[(St.mk kd to (Ex.mk oa na la) (Ex.mk ob nb lb) bd el)]).length<=20000):(((Jt W kd to oa na la ob nb lb bd el N L i):List<|Nat×AV).map (fun q=>some q.2)=((Jt W kd to oa na la ob nb lb bd el N L i):List<|Nat×AV).map (fun q=>some q.2))/\((ak++[(273,some<|aD aL<|W++[(St.mk kd to (Ex.mk oa na la) (Ex.mk ob nb lb) bd el)])]:List<|Nat×Option ae).map (fun q=>q.2)=(ak++[(273,some<|aD aL<|W++[(St.mk kd to (Ex.mk oa na la) (Ex.mk ob nb lb) bd el)])]:List<|Nat×Option ae).map (fun q=>q.2))/\hU FU 270 274 (Jt W kd to oa na la ob nb lb bd el N L i) (ak++[(273,some<|aD aL<|W++[(St.mk kd to (Ex.mk oa na la) (Ex.mk ob nb lb) bd el)])]) (BK N L (W++[(St.mk kd to (Ex.mk oa na la) (Ex.mk ob nb lb) bd el)])<|i+1) (Db W kd to oa na la ob nb lb bd el) 271/\(ua N L (W++[(St.mk kd to (Ex.mk oa na la) (Ex.mk ob nb lb) bd el)]) (i+1)=ua N L (W++[(St.mk kd to (Ex.mk oa na la) (Ex.mk ob nb lb) bd el)]) (i+1)/\ah (Db W kd to oa na la ob nb lb bd el) 271=ah (Db W kd to oa na la ob nb lb bd el) 271):=
 ⟨rfl,rfl,Wp mz (W++[(St.mk kd to (Ex.mk oa na la) (Ex.mk ob nb lb) bd el)]) (n:=273) (bx:=274) eH ab eH eH (fun r r0 r2 p hp=>by
  simp only[BK,List.mem_cons,List.not_mem_nil,or_false] at hp;rcases hp with rfl|rfl|rfl|rfl
  ·exact⟨by unfold top;omega,_,List.mem_cons_self,(bp.slice r0).z⟩
  ·exact⟨by unfold top;omega,_,(List.mem_cons_of_mem _ List.mem_cons_self),(bp.U (r2 _ hn) r2).z⟩
  ·exact⟨by unfold top;omega,_,(List.mem_cons_of_mem _<|List.mem_cons_of_mem _ List.mem_cons_self),(bp.int _ _).z⟩
  ·exact⟨by unfold top;omega,_,(List.mem_cons_of_mem _<|List.mem_cons_of_mem _<|List.mem_cons_of_mem _ List.mem_cons_self),(bp.int _ _).z⟩),rfl,rfl⟩
theorem air(mc:Mt [rF 6,ov k] B)(hn:top<=N)(hi:0<=i)(hL:L<=10000)(hx:cG FU N (0+i.toNat*10+0) 10=some (Js kd to oa na la ob nb lb bd el))(hA:bj (aR<|rE 6) [(C9 oa na la)]=some (C9 oa na la))(hB:bj (aR<|rE 6) [(Da ob nb lb)]=some (Da ob nb lb))(hD:bj (aR<|qg k) [(.U (nm<|bz bd) 0 bd.length)]=some (.U (nm<|bz bd) 0 bd.length))(hE:bj (aR<|qg k) [(.U (nm<|bz el) 0 el.length)]=some (.U (nm<|bz el) 0 el.length))(hW:(W++[(St.mk kd to (Ex.mk oa na la) (Ex.mk ob nb lb) bd el)]).length<=20000)(h1:i<(L:Int))(H:au pg B 270 (Fin pg (az Tryz.f26) fun y _=>y=v) (ua N L (W++[(St.mk kd to (Ex.mk oa na la) (Ex.mk ob nb lb) bd el)])<|i+1)<|ah (Db W kd to oa na la ob nb lb bd el) 271):au pg B 270 (Fin pg (az Tryz.f26) fun y _=>y=v) (ua N L W i)<|ah (ak++[(270,some<|aD aL W)]) 271:=by exact wC mc (C:=(fun fr s1 _=>fr=ua N L (W++[(St.mk kd to (Ex.mk oa na la) (Ex.mk ob nb lb) bd el)]) (i+1)/\s1=ah (Db W kd to oa na la ob nb lb bd el) 271)) mT (.st 1<|.rg<|.fk (.en<|.st 6<|.rg<|.eF<|.eG (Js kd to oa na la ob nb lb bd el)<|.go 2<|.en<|.st 1<|.rg<|.go 2<|.kn (C9 oa na la)<|.go 2<|.kn (Da ob nb lb)<|.go 2<|.kn (.U (nm<|bz bd) 0 bd.length)<|.go 2<|.kn (.U (nm<|bz el) 0 el.length)<|.go 8<|.en<|.rg<|.go 3<|.ap St aL W (St.mk kd to (Ex.mk oa na la) (Ex.mk ob nb lb) bd el)<|.go 1<|.en<|.st 1<|.rg<|.vl (i6<|i+1)<|.go 1<|.en<|.st 1<|.rn (Jt W kd to oa na la ob nb lb bd el N L i) (ak++[(273,(some<|aD aL<|W++[(St.mk kd to (Ex.mk oa na la) (Ex.mk ob nb lb) bd el)]))]) (BK N L (W++[(St.mk kd to (Ex.mk oa na la) (Ex.mk ob nb lb) bd el)])<|i+1) (Db W kd to oa na la ob nb lb bd el) 274 271 .no)<|.no)<|aT (i<(L:Int)) (fun _=>(dU i (L:Int)<|ai hn<|ai hx<|ai hA<|ai hB<|ai hD<|ai hE<|QI aL W (St.mk kd to (Ex.mk oa na la) (Ex.mk ob nb lb) bd el) (K:=10) (nY:=144) (fun x=>⟨mz.len x,abc x⟩) (by rw[List.length_append] at hW;unfold room;omega) (by rw[List.length_append] at hW;unfold top;omega)<|ai (wI<|i+1)<|aiq (N:=N) (L:=L) (W:=W) (i:=i) (kd:=kd) (to:=to) (oa:=oa) (na:=na) (la:=la) (ob:=ob) (nb:=nb) (lb:=lb) (bd:=bd) (el:=el) hn hW)) gb
theorem ais:(([(2,(.slice none 0<|.known 0))]:List<|Nat×AV).map (fun q=>some q.2)=([(2,(.slice none 0<|.known 0))]:List<|Nat×AV).map (fun q=>some q.2))/\(([]:List<|Nat×Option ae).map (fun q=>q.2)=([]:List<|Nat×Option ae).map (fun q=>q.2))/\hU FU 270 270 [(2,(.slice none 0<|.known 0))] [] [(2,aw aL ([]:List St))] [] 270/\((⟨26,aC [(2,aw aL ([]:List St))],max Tryz.f26.ntmps 1,(cv 26 [1,1,1,1]),[],none⟩:AF)=⟨26,aC [(2,aw aL ([]:List St))],max Tryz.f26.ntmps 1,(cv 26 [1,1,1,1]),[],none⟩/\ah [] 270=ah [] 270):=⟨rfl,rfl,(Ov (enc:=aL) (j:=2) (bx:=270) eH eH),rfl,rfl⟩
theorem ait(mc:Mt [rF 6,ov k] B):au pg B 270 (Fin pg (az Tryz.f26) fun y _=>y=(aw aL ([]:List St))) ⟨26,aC [(2,aw aL ([]:List St))],max Tryz.f26.ntmps 1,(cv 26 [1,1,1,1]),[],none⟩<|ah [] 270:=by exact wS mc (.rt 1 .no)<|wy<|aw aL ([]:List St)
theorem aiu(mc:Mt [rF 6,ov k] B)(h1:(L:Int)<=0):au pg B 270 (Fin pg (az Tryz.f26) fun y _=>y=(aw aL ([]:List St))) (D2 N L)<|ah ak 270:=by exact wC mc (C:=(fun fr s1 _=>fr=⟨26,aC [(2,aw aL ([]:List St))],max Tryz.f26.ntmps 1,(cv 26 [1,1,1,1]),[],none⟩/\s1=ah [] 270)) (fun fr s1 p hC=>by obtain⟨rfl,rfl⟩:=hC;exact ait mc) (.st 1<|.rg<|.fk (.no)<|.en<|.st 5<|.rn [(2,(.slice none 0<|.known 0))] [] [(2,aw aL ([]:List St))] [] 270 270 .no)<|aT ((0:Int)<(L:Int)) gb fun _=>(ais)
theorem aiv(W:List St)(hW:W.length<=20000):(([(2,(.slice (some (270,0)) (W.length)<|.aq W.length 10))]:List<|Nat×AV).map (fun q=>some q.2)=([(2,(.slice (some (270,0)) (W.length)<|.aq W.length 10))]:List<|Nat×AV).map (fun q=>some q.2))/\(([(270,some<|aD aL W)]:List<|Nat×Option ae).map (fun q=>q.2)=([(270,some<|aD aL W)]:List<|Nat×Option ae).map (fun q=>q.2))/\hU FU 270 271 [(2,(.slice (some (270,0)) (W.length)<|.aq W.length 10))] [(270,some<|aD aL W)] [(2,aw aL W)] [] 270/\((⟨26,aC [(2,aw aL W)],max Tryz.f26.ntmps 1,(cv 26 [1,1,1,1]),[],none⟩:AF)=⟨26,aC [(2,aw aL W)],max Tryz.f26.ntmps 1,(cv 26 [1,1,1,1]),[],none⟩/\ah [] 270=ah [] 270):=⟨rfl,rfl,(Jn (j:=2) (n:=270) (bx:=271) mz W rfl eH eH eH eH),rfl,rfl⟩
theorem aiw(mc:Mt [rF 6,ov k] B)(W:List St):au pg B 270 (Fin pg (az Tryz.f26) fun y _=>y=(aw aL W)) ⟨26,aC [(2,aw aL W)],max Tryz.f26.ntmps 1,(cv 26 [1,1,1,1]),[],none⟩<|ah [] 270:=by exact wS mc (.rt 1 .no)<|wy<|aw aL W
theorem aix(mc:Mt [rF 6,ov k] B)(h1:(L:Int)<=i)(hW:W.length<=20000):au pg B 270 (Fin pg (az Tryz.f26) fun y _=>y=(aw aL W)) (ua N L W i)<|ah (ak++[(270,some<|aD aL W)]) 271:=by exact wC mc (C:=(fun fr s1 _=>fr=⟨26,aC [(2,aw aL W)],max Tryz.f26.ntmps 1,(cv 26 [1,1,1,1]),[],none⟩/\s1=ah [] 270)) (fun fr s1 p hC=>by obtain⟨rfl,rfl⟩:=hC;exact aiw mc W) (.st 1<|.rg<|.fk (.no)<|.en<|.st 5<|.rn [(2,(.slice (some (270,0)) (W.length)<|.aq W.length 10))] [(270,some<|aD aL W)] [(2,aw aL W)] [] 271 270 .no)<|aT (i<(L:Int)) gb fun _=>(aiv W hW)
end
end im
end
section
open Go Go.Rn Go.RowKit Go.Proofs
namespace Pp
open cj cH cU dm eZ fQ tV dq fW vT vP xN rD mI GG J2 im
variable {k:Nat}
theorem UX(l:List St):AV.U (nm<|bz l) 0 l.length=aw aL l:=by rw[uN];rfl
theorem Iq{l:List St}(h:pC k l=true):bj (aR<|qg k) [.U (nm<|bz l) 0 l.length]=some (.U (nm<|bz l) 0 l.length):=eO (eK qg.bM ⟨l,rfl,h,rfl⟩) (by rw[List.all_cons,tj];rfl)<|tj l
theorem aar(hP:bS pg)(h':aX [rF 6,ov k]){L:bO}(h:aX L):aX<|ov (k+1)::L:=by
 refine gE hP h h' Tryz.func26 fun args v e=>?_;obtain⟨l,rfl,hg,rfl⟩:=fS e;refine⟨aK.1 aU,fun B mc=>?_⟩;rw[←hI];have hg:(decide (l.length<=10000)&&l.all fun s=>pa 6 (cV s)&&(pa 6 (iv s)&&(pC k (bG s)&&pC k (bF s))))=true:=hg;rw[Bool.and_eq_true,decide_eq_true_eq,List.all_eq_true] at hg;obtain⟨hlen,hd⟩:=hg;have pP:∀s∈l,pa 6 (cV s)=true/\pa 6 (iv s)=true/\pC k (bG s)=true/\pC k (bF s)=true:=fun s hs=>by have:=hd s hs;rw[Bool.and_eq_true,Bool.and_eq_true,Bool.and_eq_true] at this;exact this
 refine go_c mc ?_;cases l with
 |nil=>have:=aiu (N:=nm<|bz []) (L:=0) mc ab;rw[←UX] at this;exact this
 |cons a0 l0=>
  have key:∀(r:List St) (i:Nat),(a0::l0).drop i=r->1<=i->i<=(a0::l0).length->au pg B 270 (Fin pg (az Tryz.f26) fun y _=>y= .U (nm<|bz<|a0::l0) 0 (a0::l0).length) (ua (nm<|bz<|a0::l0) (a0::l0).length ((a0::l0).take i) i) (ah (ak++[(270,some<|aD aL<|(a0::l0).take i)]) 271):=by
   generalize hl:a0::l0=l at*;intro r;induction r with
   |nil=>intro i hr _ hle;have hi:l.length<=i:=List.drop_eq_nil_iff.1 hr;have e:l.take i=l:=List.take_of_length_le hi;rw[e];have:=aix (N:=nm<|bz l) (L:=l.length) (W:=l) (i:=(i:Int)) mc ab ab;rw[←UX] at this;exact this
   |cons a r ih=>
    intro i hr h1 hle;have cf:i<l.length:=by
     by_cases q:i<l.length
     ·exact q
     ·rw[List.drop_of_length_le ab] at hr;cases hr
    have ha:l[i]? =some a:=by have:=congrArg (fun q=>q[0]?) hr;simp only[List.getElem?_drop,List.getElem?_cons_zero,Nat.add_zero] at this;exact this
    have hm:a∈l:=List.mem_of_getElem? ha;have kf:l.drop (i+1)=r:=by have:=congrArg (List.drop 1) hr;rw[List.drop_drop] at this;exact this
    have pA:=ih (i+1) kf ab ab;rw[List.take_add_one,ha] at pA;obtain⟨g1,g2,g3,g4⟩:=pP a hm;have hx:=Fo ha (z:=(i:Int)) ab;obtain⟨kd,to,⟨oa,na,la⟩,⟨ob,nb,lb⟩,bd,el⟩:=a;have cA:=CY (k:=6) g1;have cB:=CY (k:=6) g2;have cD:=Iq g3;have cE:=Iq g4;simp only[cV,iv,bG,bF] at cA cB cD cE;rw[aB] at cA cB;rw[aL,aB,aB] at hx;exact air (i:=(i:Int)) (W:=l.take i) mc (cN _) ab hlen hx cA cB cD cE (by rw[List.length_append,List.length_take];show _+1<=20000;omega) ab pA
  have pA:=key l0 1 rfl ab (by show 1<=l0.length+1;omega);rw[List.take_succ_cons,List.take_zero] at pA;obtain⟨g1,g2,g3,g4⟩:=pP a0 List.mem_cons_self;have hx:=Fo (l:=a0::l0) (i:=0) (a:=a0) rfl (z:=(0:Int)) rfl;obtain⟨kd,to,⟨oa,na,la⟩,⟨ob,nb,lb⟩,bd,el⟩:=a0;have cA:=CY (k:=6) g1;have cB:=CY (k:=6) g2;have cD:=Iq g3;have cE:=Iq g4;simp only[cV,iv,bG,bF] at cA cB cD cE;rw[aB] at cA cB;rw[show aL (St.mk kd to (Ex.mk oa na la) (Ex.mk ob nb lb) bd el)=_ from by rw[aL,aB,aB]] at hx;exact aip mc (cN _) hlen hx cA cB cD cE (by show 1<=20000;omega) (by show(0:Int)<((l0.length+1:Nat):Int);omega) pA
theorem Tp(hP:bS pg):∀(k:Nat) {L:bO},aX L->aX (ov k::L)
 |0,L,h=>by refine gE hP h de Tryz.func26 fun args v e=>?_;obtain⟨_,_,hd,_⟩:=fS e;cases hd
 |k+1,L,h=>aar hP (No hP 6<|Tp hP k de) h
end Pp
end
section
open Go Go.Rn Go.RowKit Go.Proofs
namespace P7
open cj fW im
variable {left:List<|Int×Int} {cur:Option<|AV×AV} {v0 k0:Int}
noncomputable section
def l0:List<|Nat×AV:=[(0,.map<|some 270),(1,.map<|some 271),(6,.map<|some 271),(7,.ptr<|some (272,0))]
def lx(k v:Int):List<|Nat×AV:=[(0,.map<|some 270),(1,.map<|some 271),(4,.int .i64 k),(5,.int .i64 v),(6,.map<|some 271),(7,.ptr<|some (272,0)),(8,.tuple [.bool true,.int .i64 k,.int .i64 v]),(9,.bool true),(10,.tuple [.int .i64 k,.int .i64 v]),(11,.int .i64 k),(12,.int .i64 v),(13,.map<|some 270),(14,.int .i64 k),(15,.int .i64 v)]
def KN:List Item:=[.code<|aQ pg 60 [1,0,0,1],.inLoop<|aQ pg 60 [1,0,0],.inBlock 0]
def eh(t:Tr AV):AF:=⟨60,t,max Tryz.f60.ntmps 2,.code (aQ pg 60 [1,0,0,0])::KN,[],none⟩
def jy(m2 d left:List<|Int×Int)(cur:Option<|AV×AV):AS:=ah (ak++[(270,some<|bA d),(271,some .iy),(272,some<|.iter 271 (cq m2) false (cq left) cur)]) 273
def uy:Oper:=(opsOf<|aQ pg 60 [1,0,0,0]).toList.headD default
def ud:Array Oper:=opsOf<|aQ pg 60 [1,0,0,0]
def tI:List Oper:=(opsOf<|aQ pg 60 [1,0,0,0]).toList.tail
def fH(t:Tr AV)(v:AV)(b:Bool):AF:=⟨60,(t.put 8<|some v).put 9<|some<|.bool b,max Tryz.f60.ntmps 2,KN,[],none⟩
def nr:Env:=yd pg 270 dV dH [] 272 true
theorem asks(t:Tr AV):AD (eh t)=some (.tmp 7,uy,ud,tI,KN):=by kernel_rfl
theorem ag6{m2 d:List<|Int×Int}:ri (eh<|aC l0) (.tmp 7) (jy m2 d left cur)= .ok (272,.iter 271 (cq m2) false (cq left) cur) (jy m2 d left cur):=by kernel_rfl
theorem Wq{m2 d:List<|Int×Int}{k v:Int}:ri (eh<|aC<|lx k v) (.tmp 7) (jy m2 d left cur)= .ok (272,.iter 271 (cq m2) false (cq left) cur) (jy m2 d left cur):=by kernel_rfl
theorem ag7{m2 d:List<|Int×Int}{YR:aJ}:nz pg YR (eh<|aC l0) 272 271 (cq m2) false uy ud tI KN (jy m2 d left cur)= .ok (fH (aC l0) (.tuple [.bool false]) false) (ah (ak++[(270,some<|bA d),(271,some<|bA m2),(272,none)]) 273):=by kernel_rfl
theorem JQ{m2 d:List<|Int×Int}{YR:aJ}{k v:Int}:nz pg YR (eh<|aC<|lx k v) 272 271 (cq m2) false uy ud tI KN (jy m2 d left cur)= .ok (fH (aC<|lx k v) (.tuple [.bool false]) false) (ah (ak++[(270,some<|bA d),(271,some<|bA m2),(272,none)]) 273):=by kernel_rfl
theorem is0{m2 d r:List<|Int×Int}{YR:aJ}{k v:Int}:nB pg YR (eh<|aC l0) 272 (.iter 271 (cq m2) false (cq r)<|some (.int .i64 k,.int .i64 v)) uy ud tI KN (.tuple [.bool true,.int .i64 k,.int .i64 v]) (jy m2 d left cur)= .ok (fH (aC l0) (.tuple [.bool true,.int .i64 k,.int .i64 v]) true) (jy m2 d r<|some (.int .i64 k,.int .i64 v)):=by kernel_rfl
theorem isX{m2 d r:List<|Int×Int}{YR:aJ}{k v:Int}:nB pg YR (eh<|aC<|lx k0 v0) 272 (.iter 271 (cq m2) false (cq r)<|some (.int .i64 k,.int .i64 v)) uy ud tI KN (.tuple [.bool true,.int .i64 k,.int .i64 v]) (jy m2 d left cur)= .ok (fH (aC<|lx k0 v0) (.tuple [.bool true,.int .i64 k,.int .i64 v]) true) (jy m2 d r<|some (.int .i64 k,.int .i64 v)):=by kernel_rfl
abbrev FM(m1 m2:List<|Int×Int):=P2 270 pg (az Tryz.f60) m1 m2
theorem Ju:fL<=272:=Nat.le_trans gT ab
theorem Xa(m2 d r:List<|Int×Int)(k v:Int)(fr:AF):(some (bA d)=some (bA d))/\(fr=fr/\jy m2 (fO d k v) r (some (.int .i64 k,.int .i64 v))=jy m2 (fO d k v) r (some (.int .i64 k,.int .i64 v))):=⟨rfl,rfl,rfl⟩
section
variable {B:aI} {m1 m2 d r:List<|Int×Int} {k v:Int}
theorem Pq(mc:Mt [] B)(H:au pg B 272 (FM m1 m2) (eh<|aC<|lx k v)<|jy m2 (fO d k v) r<|some (.int .i64 k,.int .i64 v)):
 au pg B 272 (FM m1 m2) (fH (aC l0) (.tuple [.bool true,.int .i64 k,.int .i64 v]) true) (jy m2 d r<|some (.int .i64 k,.int .i64 v)):=
 wp_cut (E:=nr) (C:=fun fr s1 _=>fr=eh (aC<|lx k v)/\s1=jy m2 (fO d k v) r (some (.int .i64 k,.int .i64 v))) eT rfl bI mc.2.2.1 mc.2.2.2 Ju rfl mc.1 mT 900 (.st 6<|.rg<|.go 3<|.K6 d<|.en<|.st 3<|.cut .no) (Xa m2 d r k v<|eh<|aC<|lx k v)
theorem Pr(mc:Mt [] B)(H:au pg B 272 (FM m1 m2) (eh<|aC<|lx k v)<|jy m2 (fO d k v) r<|some (.int .i64 k,.int .i64 v)):
 au pg B 272 (FM m1 m2) (fH (aC<|lx k0 v0) (.tuple [.bool true,.int .i64 k,.int .i64 v]) true) (jy m2 d r<|some (.int .i64 k,.int .i64 v)):=
 wp_cut (E:=nr) (C:=fun fr s1 _=>fr=eh (aC<|lx k v)/\s1=jy m2 (fO d k v) r (some (.int .i64 k,.int .i64 v))) eT rfl bI mc.2.2.1 mc.2.2.2 Ju rfl mc.1 mT 900 (.st 6<|.rg<|.go 3<|.K6 d<|.en<|.st 3<|.cut .no) (Xa m2 d r k v<|eh<|aC<|lx k v)
theorem Ws{m1 m2 d:List<|Int×Int}(hk:dW m1)(hp:d.Perm<|fj m1 m2):hU FU 272 273 [(9,.bool false)] [(270,some<|bA d),(271,some<|bA m2)] [(9,.bool false)] [(270,some<|bA<|fj m1 m2),(271,some<|bA m2)] 272:=by
 let r:Nat->Nat:=fun k=>if k<272\/top<=k then k else max k 273
 have t0:272<top:=by unfold top;omega
 have rl:∀k,k<272->r k=k:=fun k hk=>if_pos<|.inl hk;refine⟨[],r,rl,fun k h1 h2=>?_,fun k hk=>if_pos<|.inr hk,by omega,fun p hp=>?_,fun p hp=>?_,fun p hp q hq _ _ e=>?_,fun p hp=>nN,fun p hp=>nN⟩
 ·show 273<=(if _ then _ else _)/\(if _ then _ else _)<top;rw[if_neg ab];have:273<top:=by unfold top;omega
  omega
 ·rw[List.mem_singleton] at hp;subst hp;exact⟨by show 9<top;omega,_,List.mem_singleton.2 rfl,(bp.bool _).z⟩
 ·rcases List.mem_cons.1 hp with rfl|hp
  ·refine⟨by show 270<top;omega,fun y hy=>?_⟩;cases hy;rw[rl 270 ab];exact⟨by omega,rfl,_,List.mem_cons_self,⟨fun _=>rfl,(fun e=>by cases e),fun e=>by cases e⟩,fun ρ fG N o _ h=>aaf hk.merge (by assumption) h⟩
  ·rw[List.mem_singleton] at hp;subst hp;refine⟨by show 271<top;omega,fun y hy=>?_⟩;cases hy;rw[rl 271 ab];exact⟨by omega,rfl,_,List.mem_cons_of_mem _ List.mem_cons_self,fM.refl _,fun ρ fG N o _ h=>uR h⟩
 ·rcases List.mem_cons.1 hp with rfl|hp<;>rcases List.mem_cons.1 hq with rfl|hq
  ·rfl
  ·rw[List.mem_singleton] at hq;subst hq;rw[rl _ ab,rl _ ab] at e;exact e
  ·rw[List.mem_singleton] at hp;subst hp;rw[rl _ ab,rl _ ab] at e;exact e
  ·rw[List.mem_singleton] at hp hq;subst hp;subst hq;rfl
def aiy(m1 m2:List<|Int×Int)(s':AS)(y:AV):Prop:=y= .tuple []/\s'.h.get 270=some (bA<|fj m1 m2)/\s'.h.get 271=some (bA m2)
theorem aiz(m1 m2:List<|Int×Int):aiy m1 m2 (ah [(270,some<|bA<|fj m1 m2),(271,some<|bA m2)] 272)<|.tuple []:=⟨rfl,by kernel_rfl,by kernel_rfl⟩
theorem Xb(mc:Mt [] B):au pg B 272 (FM m1 m2) ⟨60,aC [(9,.bool false)],max Tryz.f60.ntmps 2,KN,[],none⟩<|ah [(270,some<|bA<|fj m1 m2),(271,some<|bA m2)] 272:=me (E:=nr) eT rfl bI mc.2.2.1 mc.2.2.2 900 (.rt 4 .no)<|aiz m1 m2
theorem Ps(mc:Mt [] B)(hk:dW m1)(hp:d.Perm<|fj m1 m2):au pg B 272 (FM m1 m2) (fH (aC l0) (.tuple [.bool false]) false)<|ah (ak++[(270,some<|bA d),(271,some<|bA m2),(272,none)]) 273:=au.rn (l0:=[(9,.bool false)]) (o0:=[(270,some<|bA d),(271,some<|bA m2)]) Ju bW bW (by rw[mc.1];exact Ws hk hp)<|Xb mc
theorem Pt(mc:Mt [] B)(hk:dW m1)(hp:d.Perm<|fj m1 m2):au pg B 272 (FM m1 m2) (fH (aC<|lx k0 v0) (.tuple [.bool false]) false)<|ah (ak++[(270,some<|bA d),(271,some<|bA m2),(272,none)]) 273:=au.rn (l0:=[(9,.bool false)]) (o0:=[(270,some<|bA d),(271,some<|bA m2)]) Ju bW bW (by rw[mc.1];exact Ws hk hp)<|Xb mc
theorem C2(h:cq left=[]):left=[]:=by cases left with|nil=>rfl|cons _ _=>cases h
theorem ag8(mc:Mt [] B)(hk:dW m1)(Lo:dW m2):∀(n:Nat) (left ED d:List<|Int×Int) (k v:Int) (cur:Option<|AV×AV),left.length=n->m2.Perm (ED++left)->d=fj m1 ED->
 au pg B 272 (FM m1 m2) (eh<|aC<|lx k v) (jy m2 d left cur):=by
 intro n;induction n with
 |zero=>intro left ED d k v cur hn hp hd;have hl:=List.eq_nil_of_length_eq_zero hn;subst hl;refine au.next mc.2.2.1 mc.2.2.2 (asks _) (by show 272<=273;omega) Wq (fun _=>⟨_,_,JQ,Pt mc hk ?_⟩) (fun x r h=>by cases h);rw[hd,List.append_nil] at*;exact aad hk ((hp.map (·.1)).nodup_iff.1 Lo) hp.symm
 |succ n ih=>intro left ED d k v cur hn hp hd;refine au.next mc.2.2.1 mc.2.2.2 (asks _) (by show 272<=273;omega) Wq (fun h=>by rw[C2 h] at hn;cases hn) fun x r h=>?_;obtain⟨p,l',rfl,rfl,Cj⟩:=HY h;refine⟨_,_,isX,Pr mc ?_⟩;refine ih l' (ED++[p]) _ _ _ _ (by have:=Cj.length_eq;rw[List.length_cons] at this;omega) ?_ (by rw[aae,hd]);rw[List.append_assoc];exact hp.trans<|Cj.append_left ED
theorem ag9(mc:Mt [] B)(hk:dW m1)(Lo:dW m2):au pg B 272 (FM m1 m2) (eh<|aC l0)<|jy m2 m1 m2 none:=by
 refine au.next mc.2.2.1 mc.2.2.2 (asks _) (by show 272<=273;omega) ag6 (fun h=>⟨_,_,ag7,Ps mc hk ?_⟩) fun x r h=>?_
 ·rw[C2 h];exact List.Perm.refl _
 ·obtain⟨p,l',rfl,rfl,Cj⟩:=HY h;refine⟨_,_,is0,Pq mc ?_⟩;exact ag8 mc hk Lo l'.length l' [p] _ _ _ _ rfl Cj rfl
end
def yE:FuncId×KE:=(60,.raw wq)
theorem VL(hP:bS pg){L:bO}(h:aX L):aX<|yE::L:=by refine ae9 hP gT (aK.1 aU) jT jq mr lY h de Tryz.func60 (body:=aQ pg 60 []) aU aU fun m1 m2 k1 k2=>?_;refine⟨aK.1 aU,fun B mc=>?_⟩;exact au.chunk (k:=5) (aO:=eh<|aC l0) (s1:=jy m2 m1 m2 none) bI mc.2.2.1 mc.2.2.2 bW (by show 272<=272;omega)<|ag9 mc k1 k2
end
end P7
end
