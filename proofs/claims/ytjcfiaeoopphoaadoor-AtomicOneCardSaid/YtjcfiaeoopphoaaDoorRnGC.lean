import Derived.Test.YtjcfiaeoopphoaaDoorRnGB
import Derived.Test.YtjcfiaeoopphoaaDoorRnGA
import Derived.ChangeArms
import Derived.ChangeShapes
import Derived.DataReads
import Derived.OpenShut
set_option maxRecDepth 100000
set_option maxHeartbeats 8000000
set_option linter.unusedSimpArgs false
set_option linter.unusedVariables false
open Array renaming getElem?_setIfInBounds_ne → Vh, getElem?_setIfInBounds_self_of_lt → Vg, mapM_eq_mapM_toList → Wj, replicate → Us, size_setIfInBounds → Wc
open Bool renaming and_eq_true_iff → UI
open Classical renaming byContradiction → Ut
open Go.Result renaming andThen_ok → TH
open Go.Sem renaming run_bind → TF, run_pure → TK
open Int renaming le_trans → VY
open List renaming Perm.refl → UL, Perm.swap → Vz, all_append → U9, all_eq_true → TG, cons.injEq → TQ, drop_drop → Up, drop_zero → T8, ext_getElem? → U2, find?_eq_none → Wo, find?_some → Wq, flatten_cons → T5, getElem?_append_left → Ux, getElem?_append_right → UJ, getElem?_cons_succ → Wh, getElem?_cons_zero → UA, getElem?_drop → Ue, getElem?_eq_getElem → TE, getElem?_eq_none → Uf, getElem?_eq_some_iff → TZ, getElem?_map → Uc, getElem?_range → Vt, getElem?_take_of_lt → U4, getElem_mem → VD, length_append → TM, length_cons → TL, length_map → T3, length_set → T2, length_take → T4, map_cons → T0, map_nil → U5, mem_append → TP, mem_append_left → T7, mem_append_right → TU, mem_cons → Ty, mem_cons_of_mem → TB, mem_cons_self → TA, mem_map → TI, mem_map_of_mem → UZ, mem_of_find?_eq_some → Wp, mem_of_getElem? → TY, mem_singleton → TC, nodup_cons → UF, nodup_nil → UD, range → Ui, take_append_drop → VP, take_left → VX, take_length → UM
open Nat renaming add_assoc → UU, add_mul → Uo, add_zero → Ul, beq → Tx, ble → Tw, blt → Tv, eq_of_beq_eq_true → Ug, eq_zero_or_pos → Vl, le_add_right → Ve, le_of_lt → U1, le_refl → Tz, le_trans → TO, lt_of_lt_of_le → TJ, lt_succ_self → UT, min_eq_left → Vj, mod_lt → Vv, mul_comm → UQ, mul_le_mul_right → UW, one_mul → UN, sub_zero → Uk, succ_mul → VK, succ_pos → Uu, zero_add → T6, zero_le → TN, zero_mul → UE
open Option renaming bind_some → Vn, map_some → Uj, some.injEq → Ud
noncomputable section
namespace Go.Rn
open Go.RowKit
end Go.Rn
namespace Go.Rn
open Go.RowKit
variable {α:Type} {l:List α} {i K:Nat} {enc:α->List AV} {c c0 c':α} {r:List AV}
theorem tfb{A B:Prop}(b:Bool)(x:b=true->A)(y:b=false->B):(b=true->A)/\(b=false->B):=⟨x,y⟩
theorem ur(he:∀x,(enc x).length=K)(hl:l.length*K<=top)(hc:l[i]? =some c)(j k:Nat)(hj:Tw (j+k) K=true):cellsOf (some<|az enc l) (i*K+j) k=some (((enc c).drop j).take k):=by have tj:=aI.1 hj;let⟨q1,q2⟩:=WB he (k:=k) hc tj;show(match Tw (i*K+j+k) (l.map enc).flatten.length with|true=>ly (Tr.fill (l.map enc).flatten 0 .nil) [] k (i*K+j)|false=>none)=_;rw[aI.2 q1];show ly (Tr.fill (l.map enc).flatten 0 .nil) [] k (i*K+j)=_;rw[Je (by rw[zS he];exact hl) _ _ q1,q2]
theorem afw(he:∀x,(enc x).length=K)(hl:l.length*K<=top)(hc:l[i]? =some c0)(j k:Nat)(hj:Tw (j+k) K=true):cellsOf (some<|az enc<|l.set i c) (i*K+j) k=some (((enc c).drop j).take k):=ur he (by rw[T2];exact hl) (amT hc) j k hj
theorem G6(he:∀x,(enc x).length=K)(hl:l.length*K<=top)(hc:l[i]? =some c)(j:Nat)(hr:enc c'=iJ (enc c) j r)(hj:Tw (j+r.length) K=true)(h1:r.all AV.bM=true):qf (some<|az enc l) (i*K+j) r=some (az enc<|l.set i c'):=by
 have tj:=aI.1 hj;let⟨q1,_⟩:=WB he (k:=r.length) hc tj;have HG:=aed he hc hr tj;have hlen:(l.map enc).flatten.length<=top:=by rw[zS he];exact hl
 show(match (Tw (i*K+j+r.length) (l.map enc).flatten.length&&(Tw (l.map enc).flatten.length top&&r.all AV.bM)) with|true=>some (ah.cells (l.map enc).flatten.length (Tr.fill r (i*K+j)<|Tr.fill (l.map enc).flatten 0 .nil) [])|false=>none)=_;rw[show(Tw (i*K+j+r.length) (l.map enc).flatten.length&&(Tw (l.map enc).flatten.length top&&r.all AV.bM))=true from and_true.2 ⟨aI.2 q1,and_true.2 ⟨aI.2 hlen,h1⟩⟩];show some _=some _;congr 1;unfold az;rw[al9 r _ _ q1 hlen,HG,zS he,zS he,T2]
theorem afx(he:∀x,(enc x).length=K)(hl:l.length*K<=top)(hc:l[i]? =some c0)(j:Nat)(hr:enc c'=iJ (enc c) j r)(hj:Tw (j+r.length) K=true)(h1:r.all AV.bM=true):qf (some<|az enc<|l.set i c) (i*K+j) r=some (az enc<|l.set i c'):=by rw[G6 he (by rw[T2];exact hl) (amT hc) j hr hj h1,List.set_set]
end Go.Rn
namespace Go.Rn
open Go.RowKit
def HP(nx:Nat)(x:AV):Bool:=match x with
 | .ab n _ _=>Tv n nx&&Tv n top
 | .func (.func _) [] []=>true
 | .slice none 0 (.known 0)=>true
 |x=>x.flat
theorem aZ.ac6{r:Nat->Nat}{n o len:Nat}(e:r n=n)(h:n<top):aZ r (.ab n o len)<|.ab n o len:=by intro ρ v k;simp only[VR] at k ⊢;exact k.imp id fun⟨b,sh,c,h1,h2⟩=>⟨b,sh,c,.inl ⟨by omega,(congrArg ρ e).trans<|h1.low ak⟩,h2⟩
theorem amW{nx:Nat}{x:AV}{r:Nat->Nat}(r1:∀k,k<nx->r k=k)(h:HP nx x=true):aZ r x x:=by
 unfold HP at h;split at h
 ·let⟨h1,h2⟩:=and_true.1 h;exact aZ.ac6 (r1 _<|(blt_eq _ _).mp h1)<|(blt_eq _ _).mp h2
 ·intro ρ v k;simp only[VR,ax] at k ⊢;exact k
 ·exact aZ.rZ
 ·exact aZ.flat h
def HQ(nx:Nat)(t:Tr AV):Nat->Bool
 |0=>true
 |n+1=>(match t.get n with|some x=>HP nx x|none=>true)&&HQ nx t n
theorem PC{nx:Nat}{t:Tr AV}:∀{n i:Nat} {x:AV},HQ nx t n=true->i<n->t.get i=some x->HP nx x=true
 |0,_,_,_,h,_=>by omega
 |n+1,i,x,h,hi,hx=>by
  let⟨h1,h2⟩:=and_true.1 (show((match t.get n with|some x=>HP nx x|none=>true)&&HQ nx t n)=true from h);by_cases q:i=n
  ·subst q;rw[hx] at h1;exact h1
  ·exact PC h2 ak hx
def Rv(nx:Nat)(o:ah):Bool:=match o with
 | .ro n t=>HQ nx t n
 | .uD n t=>HQ nx t n
 |_=>false
theorem aek{nx:Nat}{o:ah}{r:Nat->Nat}(r1:∀k,k<nx->r k=k)(h:Rv nx o=true):lh r o o:=by
 unfold Rv at h;split at h
 ·intro ρ N ob k;simp only[OR] at k ⊢;let⟨c,e,fr,k1,k2,k3,k4⟩:=k;exact⟨c,e,fr,k1,k2,k3,fun i hi=>let ⟨x,v,a1,a2,a3,a4⟩:=k4 i hi;⟨x,v,a1,a2,a3,amW r1 (PC h hi a1) ρ v a4⟩⟩
 ·intro ρ N ob k;simp only[OR] at k ⊢;let⟨c,e,fr,k1,k4⟩:=k;exact⟨c,e,fr,k1,fun i hi=>let ⟨x,v,a1,a2,a3,a4⟩:=k4 i hi;⟨x,v,a1,a2,a3,amW r1 (PC h hi a1) ρ v a4⟩⟩
 ·cases h
theorem D9{nx:Nat}{o:List<|Nat×Option ah}{r:Nat->Nat}(r1:∀k,k<nx->r k=k)(h:(o.all fun p=>match p.2 with|some x=>Rv nx x|none=>true)=true):∀p∈o,∀x,p.2=some x->lh r x x:=by intro p hp x hx;have:=TG.1 h p hp;rw[hx] at this;exact aek r1 this
end Go.Rn
namespace Go.Rn
theorem Sv{α:Type}(enc:α->List AV)(l:List α)(c:α){K ln:Nat}{X:Prop}(h1:∀x,(enc x).length=K/\(enc x).all AV.bM=true)(h2:2*(l.length+1)*ln+4096*ln<=room)(h3:(l.length+1)*K<=Rn.top)(x:X):l.length=l.length/\l.length=l.length/\some (az enc l)=some (az enc l)/\some (ah.cells (enc c).length (Tr.fill (enc c) 0 .nil) [])=some (ah.cells (enc c).length (Tr.fill (enc c) 0 .nil) [])/\(∀x,(enc x).length=K/\(enc x).all AV.bM=true)/\2*(l.length+1)*ln+4096*ln<=room/\(l.length+1)*K<=Rn.top/\X:=⟨rfl,rfl,rfl,rfl,h1,h2,h3,x⟩
end Go.Rn
namespace Go.Rn
open Go.RowKit
section
variable {cs ds args:List AV} {U K k:Nat} {α:Type} {ρ:Ren} {x v:AV} {enc:α->List AV} {w:World} {ns:List Nat} {h0 h:Tr ah} {B:aE}
def ov:List Nat->Nat
 |[]=>0
 |x::l=>pr x<|ov l
theorem XL(a b:Nat):0<pr a b:=Nat.mul_pos (Nat.pow_pos ak) ak
theorem Gx:∀{l m:List Nat},ov l=ov m->l=m
 |[],[],_=>rfl
 |[],x::m,h=>by have:=XL x<|ov m;simp only[ov] at h;omega
 |x::l,[],h=>by have:=XL x<|ov l;simp only[ov] at h;omega
 |x::l,y::m,h=>by let⟨h1,h2⟩:=fL (show pr x (ov l)=pr y (ov m) from h);rw[h1,Gx h2]
def Ct:Int->Nat
 | .ofNat n=>2*n
 | .negSucc n=>2*n+1
theorem ac7:∀{a b:Int},Ct a=Ct b->a=b
 | .ofNat n,.ofNat m,h=>by have h:2*n=2*m:=h;rw[show n=m by omega]
 | .ofNat n,.negSucc m,h=>by have h:2*n=2*m+1:=h;omega
 | .negSucc n,.ofNat m,h=>by have h:2*n+1=2*m:=h;omega
 | .negSucc n,.negSucc m,h=>by have h:2*n+1=2*m+1:=h;rw[show n=m by omega]
def qg:AV->Nat
 | .bool b=>pr 0 b.toNat
 | .int k n=>pr 1<|pr k.ctorIdx<|Ct n
 | .str s=>pr 2<|ov<|s.data.toList.map UInt8.toNat
 | .ab n o len=>pr 3<|pr n<|pr o len
 | .nilFunc=>pr 4 0
 | .nilIface=>pr 4 1
 | .ptr none=>pr 4 2
 | .map none=>pr 4 3
 |_=>0
def AV.eR(x:AV):Bool:=match x with
 | .bool _| .int _ _| .str _| .nilFunc| .nilIface| .ptr none| .map none=>true
 | .ab n _ _=>Tw top n
 |_=>false
theorem ael:∀{k l:IntKind},k.ctorIdx=l.ctorIdx->k=l:=by intro k l h;cases k<;>cases l<;>first|rfl|(exact absurd h iv)
theorem bytes_inj{s u:ByteArray}(h:s.data.toList.map UInt8.toNat=u.data.toList.map UInt8.toNat):s=u:=by
 have e:s.data.toList=u.data.toList:=by
  refine U2 fun i=>?_;have:=congrArg (fun l=>l[i]?) h;simp only[Uc] at this;cases e1:s.data.toList[i]? with
  |none=>rw[e1] at this;cases e2:u.data.toList[i]? with
   |none=>rfl
   |some y=>rw[e2] at this;cases this
  |some x=>rw[e1] at this;cases e2:u.data.toList[i]? with
   |none=>rw[e2] at this;cases this
   |some y=>rw[e2] at this;simp only[Uj,Ud] at this;rw[UInt8.toNat_inj.1 this]
 let⟨⟨a⟩⟩:=s;let⟨⟨b⟩⟩:=u;have e:a=b:=e;rw[e]
theorem ac8:∀{x y:AV},x.eR=true->y.eR=true->qg x=qg y->x=y:=by
 intro x y hx hy h;cases x<;>first|(cases hx;done)|skip
 case bool a=>
  cases y<;>first|(cases hy;done)|skip
  case bool b=>have:=(fL (show pr 0 a.toNat=pr 0 b.toNat from h)).2;cases a<;>cases b<;>first|rfl|(exact absurd this iv)
  case ptr b=>cases b<;>first|(cases hy;done)|(exact absurd (fL (show pr 0 a.toNat=pr 4 2 from h)).1 iv)
  case map b=>cases b<;>first|(cases hy;done)|(exact absurd (fL (show pr 0 a.toNat=pr 4 3 from h)).1 iv)
  all_goals exact absurd (fL (show pr 0 a.toNat=pr _ _ from h)).1 iv
 case int k n=>
  cases y<;>first|(cases hy;done)|skip
  case int k' n'=>let⟨h3,h4⟩:=fL (fL (show pr 1 (pr k.ctorIdx<|Ct n)=pr 1 (pr k'.ctorIdx<|Ct n') from h)).2;rw[ael h3,ac7 h4]
  case ptr b=>cases b<;>first|(cases hy;done)|(exact absurd (fL (show pr 1 _=pr 4 2 from h)).1 iv)
  case map b=>cases b<;>first|(cases hy;done)|(exact absurd (fL (show pr 1 _=pr 4 3 from h)).1 iv)
  all_goals exact absurd (fL (show pr 1 _=pr _ _ from h)).1 iv
 case str u=>
  cases y<;>first|(cases hy;done)|skip
  case str u'=>rw[bytes_inj<|Gx (fL (show pr 2 _=pr 2 _ from h)).2]
  case ptr b=>cases b<;>first|(cases hy;done)|(exact absurd (fL (show pr 2 _=pr 4 2 from h)).1 iv)
  case map b=>cases b<;>first|(cases hy;done)|(exact absurd (fL (show pr 2 _=pr 4 3 from h)).1 iv)
  all_goals exact absurd (fL (show pr 2 _=pr _ _ from h)).1 iv
 case ab n o l=>
  cases y<;>first|(cases hy;done)|skip
  case ab n' o' l'=>let⟨h3,h4⟩:=fL (fL (show pr 3 (pr n<|pr o l)=pr 3 (pr n'<|pr o' l') from h)).2;let⟨h5,h6⟩:=fL h4;rw[h3,h5,h6]
  case ptr b=>cases b<;>first|(cases hy;done)|(exact absurd (fL (show pr 3 _=pr 4 2 from h)).1 iv)
  case map b=>cases b<;>first|(cases hy;done)|(exact absurd (fL (show pr 3 _=pr 4 3 from h)).1 iv)
  all_goals exact absurd (fL (show pr 3 _=pr _ _ from h)).1 iv
 case nilFunc=>
  cases y<;>first|(cases hy;done)|rfl|skip
  case ptr b=>cases b<;>first|(cases hy;done)|(exact absurd (fL (show pr 4 0=pr 4 2 from h)).2 iv)
  case map b=>cases b<;>first|(cases hy;done)|(exact absurd (fL (show pr 4 0=pr 4 3 from h)).2 iv)
  case nilIface=>exact absurd (fL (show pr 4 0=pr 4 1 from h)).2 iv
  all_goals exact absurd (fL (show pr 4 0=pr _ _ from h)).1 iv
 case nilIface=>
  cases y<;>first|(cases hy;done)|rfl|skip
  case ptr b=>cases b<;>first|(cases hy;done)|(exact absurd (fL (show pr 4 1=pr 4 2 from h)).2 iv)
  case map b=>cases b<;>first|(cases hy;done)|(exact absurd (fL (show pr 4 1=pr 4 3 from h)).2 iv)
  case nilFunc=>exact absurd (fL (show pr 4 1=pr 4 0 from h)).2 iv
  all_goals exact absurd (fL (show pr 4 1=pr _ _ from h)).1 iv
 case ptr a=>
  cases a<;>first|(cases hx;done)|skip
  cases y<;>first|(cases hy;done)|skip
  case ptr b=>cases b<;>first|(cases hy;done)|rfl
  case map b=>cases b<;>first|(cases hy;done)|(exact absurd (fL (show pr 4 2=pr 4 3 from h)).2 iv)
  case nilIface=>exact absurd (fL (show pr 4 2=pr 4 1 from h)).2 iv
  case nilFunc=>exact absurd (fL (show pr 4 2=pr 4 0 from h)).2 iv
  all_goals exact absurd (fL (show pr 4 2=pr _ _ from h)).1 iv
 case map a=>
  cases a<;>first|(cases hx;done)|skip
  cases y<;>first|(cases hy;done)|skip
  case ptr b=>cases b<;>first|(cases hy;done)|(exact absurd (fL (show pr 4 3=pr 4 2 from h)).2 iv)
  case map b=>cases b<;>first|(cases hy;done)|rfl
  case nilIface=>exact absurd (fL (show pr 4 3=pr 4 1 from h)).2 iv
  case nilFunc=>exact absurd (fL (show pr 4 3=pr 4 0 from h)).2 iv
  all_goals exact absurd (fL (show pr 4 3=pr _ _ from h)).1 iv
theorem NZ:∀{l m:List AV},l.all AV.eR=true->m.all AV.eR=true->l.map qg=m.map qg->l=m
 |[],[],_,_,_=>rfl
 |[],_::_,_,_,h=>by cases h
 |_::_,[],_,_,h=>by cases h
 |x::l,y::m,hx,hy,h=>by let⟨a1,a2⟩:=and_true.1 (show(x.eR&&l.all AV.eR)=true from hx);let⟨b1,b2⟩:=and_true.1 (show(y.eR&&m.all AV.eR)=true from hy);simp only[T0,TQ] at h;rw[ac8 a1 b1 h.1,NZ a2 b2 h.2]
section
def nm(cs:List AV):Nat:=top+2+ov (cs.map qg)
def am(cs:List AV):Nat:=top+2+ov (cs.map qg++[pr 9 0])
open Classical in
def FU(n:Nat):Option<|List AV:=if h:∃cs:List AV,cs.all AV.eR=true/\(nm cs=n\/am cs=n) then some h.choose else none
def ar(enc:α->List AV)(l:List α):AV:=.ab (nm (l.map enc).flatten) 0 l.length
end
theorem cR(cs:List AV):top<=nm cs:=TO (Ve top 2)<|Ve _ _
theorem EV(cs:List AV):nm cs≠top/\nm cs≠top+1:=by unfold nm;omega
theorem aem(h:x.eR=true):qg x≠pr 9 0:=by
 intro e;cases x<;>first|(cases h;done)|skip
 case ptr a=>cases a<;>first|(cases h;done)|exact absurd (fL e).1 iv
 case map a=>cases a<;>first|(cases h;done)|exact absurd (fL e).1 iv
 all_goals exact absurd (fL e).1 iv
theorem nmJ(h:cs.all AV.eR=true)(k:ds.all AV.eR=true)(e:nm cs=nm ds):cs=ds:=NZ h k<|Gx (by unfold nm at e;omega)
theorem amJ(h:cs.all AV.eR=true)(k:ds.all AV.eR=true)(e:am cs=am ds):cs=ds:=NZ h k<|List.append_cancel_right<|Gx (show ov (cs.map qg++[pr 9 0])=ov (ds.map qg++[pr 9 0]) by unfold am at e;omega)
theorem Sw(h:cs.all AV.eR=true):nm cs≠am ds:=fun e=>by
 have e1:=Gx (show ov (cs.map qg)=ov (ds.map qg++[pr 9 0]) by unfold nm am at e;omega);have e2:pr 9 0∈cs.map qg:=by rw[e1];exact TU _ TA
 let⟨x,hx,q⟩:=TI.1 e2;exact aem (TG.1 h x hx) q
theorem Al(h:cs.all AV.eR=true):FU (nm cs)=some cs:=by have hx:∃ds:List AV,ds.all AV.eR=true/\(nm ds=nm cs\/am ds=nm cs):=⟨cs,h,.inl rfl⟩;unfold FU;rw[dif_pos hx];let⟨h1,h2⟩:=hx.choose_spec;exact congrArg some<|h2.elim (nmJ h1 h) fun e=>absurd e.symm<|Sw h
theorem Yp(h:cs.all AV.eR=true):FU (am cs)=some cs:=by have hx:∃ds:List AV,ds.all AV.eR=true/\(nm ds=am cs\/am ds=am cs):=⟨cs,h,.inr rfl⟩;unfold FU;rw[dif_pos hx];let⟨h1,h2⟩:=hx.choose_spec;exact congrArg some<|h2.elim (fun e=>absurd e<|Sw h1)<|amJ h1 h
theorem Jv(h:x.eR=true):x.bM=true:=by cases x<;>first|rfl|(cases h;done)
theorem Ea(h:x.eR=true):x.cN=true:=by
 cases x<;>first|rfl|(cases h;done)|skip
 ·rename_i a;cases a with
  |none=>rfl
  |some _=>cases h
 ·exact h
 ·rename_i a;cases a with
  |none=>rfl
  |some _=>cases h
theorem ahh(h:cs.all AV.eR=true){off:Nat}(hk:off+k<=cs.length):cZ FU (nm cs) off k=some ((cs.drop off).take k):=by unfold cZ;rw[Al h];simp only[(aI.2 hk:Tw (off+k) cs.length=true)]
structure kA {α:Type} (K:Nat) (enc:α->List AV):Prop where
 len:∀a,(enc a).length=K
 eR:∀a,(enc a).all AV.eR=true
theorem kA.all(h:kA K enc):∀l:List α,(l.map enc).flatten.all AV.eR=true
 |[]=>rfl
 |a::l=>by rw[T0,T5,U9,h.eR a,kA.all h l];rfl
theorem kA.length(h:kA K enc)(l:List α):(l.map enc).flatten.length=l.length*K:=by
 have:=vW (K:=K) (l:=l.map enc) fun c hc=>by obtain⟨a,_,rfl⟩:=TI.1 hc;exact h.len a
 rw[this,T3]
theorem Ad(h:kA K enc){l:List α}{i:Nat}{a:α}(ha:l[i]? =some a)(j k:Nat)(hk:j+k<=K):cZ FU (nm (l.map enc).flatten) (i*K+j) k=some (((enc a).drop j).take k):=by
 have hi:=(TZ.1 ha).1;have hle:i*K+K<=(l.map enc).flatten.length:=by rw[h.length];have:=UW K (show i+1<=l.length from hi);rw[Uo,UN] at this;exact this
 rw[ahh (h.all l) ak];have hf:=NU (l:=l.map enc) (K:=K) (i:=i) (c:=enc a) (fun c hc=>by obtain⟨a,_,rfl⟩:=TI.1 hc;exact h.len a) (by rw[Uc,ha];rfl);have hd:((l.map enc).flatten.drop<|i*K+j).take k=((((l.map enc).flatten.drop<|i*K).take K).drop j).take k:=by rw[List.drop_take,List.take_take,Up,Vj ak]
 rw[hd,hf]
def gH(U:Nat)(ρ:Ren):Ren:=fun k=>if k<U then ρ k else gK ρ k
def qh(B:aE)(ρ:Ren)(w:World):aE:=⟨fun k=>w.heap.size<=k,B.F,fun k=>ρ k≠none,B.inv,B.lim,B.mono⟩
theorem qP(ht:U<=top)(hk:top<=k):gH U ρ k=ρ k:=by unfold gH gK;rw[if_neg ak,if_pos hk]
section
def nH(U:Nat)(ns:List Nat)(h0:Tr ah)(val:List AV->Option AV):aJ->List AV->M AV:=fun _ args=>aG (args.all AV.hi) <| (gj U h0 ns).bind fun _=>aB (val args) fun v=>aG v.hi <| M.pure v
end
theorem Tt.nH(U:Nat)(ns:List Nat)(h0:Tr ah)(val:List AV->Option AV)(Tu:aJ)(args:List AV):Tt<|nH U ns h0 val Tu args:=Tt.aG fun _=>Tt.bind (Tt.gj U h0 ns) fun _=>Tt.aB fun _ _=>Tt.aG fun _=>Tt.pure _
theorem Jf{o p:ah}(h:pe U o p=true):o.nq=true:=by unfold pe at h;split at h<;>first|rfl|cases h
theorem EW(ht:U<=top)(r:Rel B ρ h w)(dL:∀n o,n<top->h0.get n=some o->n∈ns)(eH:∀n∈ns,n<U)(a3:∀n∈ns,∃o p,h.get n=some o/\h0.get n=some p/\pe U o p=true):Rel (qh B ρ w) (gH U ρ) h0 w:=by
 have cL:∀n o,n<top->h0.get n=some o->o.nq=true/\∃b N o',gH U ρ n=some (b,N)/\w.heap[b]? =some o'/\OR (gH U ρ) N o o':=by
  intro n o hn ho;have iN:=dL n o hn ho;let⟨p1,p2,c2,c3,c4⟩:=a3 n iN;rw[ho] at c3;cases c3;let⟨b,N,o',i1,i2,i3,_⟩:=r.is n p1 hn c2;let⟨j1,j2⟩:=acd c4 i3;refine⟨j1,b,N,o',?_,i2,j2.mono fun k x e=>?_⟩
  ·unfold gH;rw[if_pos<|eH n iN];exact i1
  ·have e:(if k<U then ρ k else none)=some x:=e;unfold gH;split at e
   ·rename_i q;rw[if_pos q];exact e
   ·cases e
 refine⟨fun n o hn ho=>?_,fun n m o p b N M hn hm h1 h2 cV _ _=>?_,fun n m es ex left cur hn ho=>?_,fun _ hk=>hk,fun i j m es ex left cur iw jr iW iY hi _ h1 _=>?_,fun n b sh e=>?_,vh.no (fun n k v hn hg=>by have:=(cL n _ hn hg).1;cases this) ⟨r.tk.1.1,fun n o hn ho _=>by have iN:=dL n o hn ho;let⟨p1,p2,c2,c3,c4⟩:=a3 n iN;rw[ho] at c3;cases c3;let⟨b,N,e1,e2⟩:=r.tk.1.2 n p1 hn c2<|Jf c4;exact⟨b,N,by unfold gH;rw[if_pos<|eH n iN];exact e1,e2⟩⟩⟩
 ·let⟨h1,b,N,o',h2,h3,h4⟩:=cL n o hn ho;have h1:=ah.kL h1;exact⟨b,N,o',h2,h3,h4,fun q=>by rw[h1] at q;cases q⟩
 ·have e1:=ah.kL (cL n o hn h1).1;have e2:=ah.kL (cL m p hm h2).1;rw[e1,e2] at cV;rcases cV with q|q<;>cases q
 ·have:=(cL n _ hn ho).1;cases this
 ·have:=(cL i _ hi h1).1;cases this
 ·rw[qP ht<|gb _ _ _] at e;let⟨_,l,c,e',fr,g1,g2,g3,g4⟩:=r.fz n b sh e;refine⟨.inl e,l,c,e',fr,g1,g2,fun m o N hm ho hr _=>?_,fun i x hx=>?_⟩
  ·rw[ah.kL (cL m o hm ho).1] at hr;cases hr
  ·let⟨v,k1,k2,k3⟩:=g4 i x hx;refine⟨v,k1,VR.mono (fun k y q=>?_) _ _ k2,k3⟩;unfold gK at q ⊢;split at q
   ·rename_i hk;rw[if_pos hk,qP ht hk];exact q
   ·cases q
def cS(ρ σ:Ren):Ren:=fun k=>if top<=k then σ k else ρ k
theorem KD{σ:Ren}{h4:Tr ah}{w':World}{a:Nat}(ht:U<=top)(r:Rel B ρ h w)(q3:Rel (qh B ρ w) σ h4 w')(q4:cI (qh B ρ w) w w')(hle:(gH U ρ).le σ):
 Ext a a ρ (cS ρ σ)/\jo σ (cS ρ σ)/\Rel B (cS ρ σ) h w'/\cI B w w':=by
 have hold:∀k x,top<=k->ρ k=some x->σ k=some x:=fun k x hk e=>hle k x (by rw[qP ht hk];exact e);have hl:ρ.le<|cS ρ σ:=by
  intro k x e;unfold cS;by_cases hk:top<=k
  ·rw[if_pos hk];exact hold k x hk e
  ·rw[if_neg hk];exact e
 have cH:∀k,k<top->cS ρ σ k=ρ k:=fun k hk=>by unfold cS;rw[if_neg ak]
 have yQ:cI B w w':=⟨q4.os,q4.tape,q4.output,q4.size,fun k hk _=>q4.block k hk (by show ¬(w.heap.size<=k);omega)⟩;have wM:∀b,b<w.heap.size->w'.heap[b]? =w.heap[b]? :=fun b hb=>q4.block b hb (by show ¬(w.heap.size<=b);omega);refine⟨⟨hl,fun k hk _=>cH k hk⟩,fun k x hk e=>by unfold cS;rw[if_pos hk];exact e,⟨?_,?_,?_,fun k hk=>r.size k<|TO q4.size hk,r.lone,?_,r.tk.of hl (fun _ _ _ e _=>e) q4.size (fun b hb _=>wM b hb) (fun b1 _ hn m o N hm ho hr hb=>hn m o N hm ho hr (by rw[cH m hm] at hb;exact hb)) (fun j x sh hx _ e=>by
  unfold cS;rw[if_pos<|gb _ _ _];refine Ut fun q=>?_;rcases(q3.fz j x sh q).1 with z|z
  ·exact z e
  ·exact absurd hx (by have z:w.heap.size<=x:=z;omega))⟩,yQ⟩
 ·intro n o hn ho;let⟨b,N,o',h1,h2,h3,h5⟩:=r.is n o hn ho;exact⟨b,N,o',(cH n hn).trans h1,(wM b<|gC h2).trans h2,h3.mono hl,h5⟩
 ·intro n m o p b N M hn hm h1 h2 cV e1 e2;rw[cH n hn] at e1;rw[cH m hm] at e2;exact r.one n m o p b N M hn hm h1 h2 cV e1 e2
 ·intro n m es ex left cur hn ho;let⟨hm,fE,b,N,bm,M,l,bu,seen,h1,h2,h3,h5,h6⟩:=r.iter n m es ex left cur hn ho;have u:ni ρ w' n m es ex left cur:=⟨b,N,bm,M,l,bu,seen,h1,h2,(wM b<|gC h3).trans h3,(wM bm<|gC h5).trans h5,h6⟩;exact⟨hm,fE,u.mono hl⟩
 ·intro n b sh e;have e:σ (hn n b sh)≠none:=by unfold cS at e;rw[if_pos<|gb _ _ _] at e;exact e
  let⟨g0,l,c,e',fr,g1,g2,_,g4⟩:=q3.fz n b sh e;have gV:(gK σ).le<|gK<|cS ρ σ:=by
   intro k x q;unfold gK at q ⊢;split at q
   ·rename_i hk;rw[if_pos hk];unfold cS;rw[if_pos hk];exact q
   ·cases q
  have nj:∀i x,l[i]? =some x->∃v,c[sh+i]? =some v/\VR (gK<|cS ρ σ) x v/\x.bM=true:=fun i x hx=>by let⟨v,k1,k2,k3⟩:=g4 i x hx;exact⟨v,k1,VR.mono gV _ _ k2,k3⟩
  by_cases q:ρ (hn n b sh)≠none
  ·let⟨z0,l',c',e2,kR,z1,z2,z3,_⟩:=r.fz n b sh q;refine⟨z0,l,c,e',fr,g1,g2,fun m o N hm ho hr hb=>?_,nj⟩;rw[cH m hm] at hb;exact z3 m o N hm ho hr hb
  ·have hb:w.heap.size<=b:=g0.resolve_left q;refine⟨.inr<|r.size b hb,l,c,e',fr,g1,g2,fun m o N hm ho hr gS=>?_,nj⟩;rw[cH m hm] at gS;let⟨b1,N1,o1,h1,h2,_⟩:=r.is m o hm ho;rw[gS] at h1;cases h1;have:=gC h2;omega
section
def bc(val:List AV->Option AV)(args:List AV):Option AV:=match args.all AV.hi with
 |true=>(val args).bind fun v=>match v.hi with
  |true=>some v
  |false=>none
 |false=>none
end
theorem eV{val:List AV->Option AV}(h:val args=some v)(ha:args.all AV.hi=true)(hv:v.hi=true):bc val args=some v:=by unfold bc;rw[ha,h];simp only[Vn,hv]
theorem aen{val:List AV->Option AV}(h:bc val args=some v):val args=some v/\args.all AV.hi=true/\v.hi=true:=by
 unfold bc at h;split at h
 ·rename_i ha;cases e:val args with
  |none=>rw[e] at h;cases h
  |some u=>
   rw[e] at h;simp only[Vn] at h;split at h
   ·rename_i hu;injection h with h;subst h;exact⟨rfl,ha,hu⟩
   ·cases h
 ·cases h
theorem amf{val:List AV->Option AV}{Tu:aJ}{s:AS}(h:bc val args=some v)(hc:nu U h0 ns s=true):nH U ns h0 val Tu args s= .ok v (de U h0 ns s):=by let⟨h1,h2,h3⟩:=aen h;unfold nH;rw[h2,dR,M.bO<|yr hc,h1,bW,h3,dR];rfl
end
section
variable {n:Nat} {o:Option ah}
def lG(n:Nat)(o:Option ah):M Unit:=fun s=>
 @AS.rec (fun _=>R Unit) (fun h nx mark rd wr=>
  @Bool.rec (fun _=>R Unit) .bad
   (@Option.rec ah (fun _=>R Unit) .bad
    (fun p=> @Bool.rec (fun _=>R Unit)
     (@Bool.rec (fun _=>R Unit) (.ok () ⟨h.put n o,nx,mark,rd,wr⟩) (.ok () ⟨h.put n o,nx,mark,n::rd,n::wr⟩)<|Tv n mark)
     .bad (!p.lB))
    (h.get n))
   (and (Tv n nx)<|Tv n top)) s
theorem WD{u:Unit}{s s1:AS}(h:lG n o s= .ok u s1):
 n<s.nx/\n<top/\(∃p,s.h.get n=some p/\(!p.lB)=false)/\s1=if n<s.mark then{s with h:=s.h.put n o,rd:=n::s.rd,wr:=n::s.wr} else{s with h:=s.h.put n o}:=by
 let⟨hh,nx,mark,rd,wr⟩:=s;have e:lG n o ⟨hh,nx,mark,rd,wr⟩= @Bool.rec (fun _=>R Unit) .bad
  (@Option.rec ah (fun _=>R Unit) .bad
   (fun p=> @Bool.rec (fun _=>R Unit)
    (@Bool.rec (fun _=>R Unit) (.ok () ⟨hh.put n o,nx,mark,rd,wr⟩) (.ok () ⟨hh.put n o,nx,mark,n::rd,n::wr⟩)<|Tv n mark)
    .bad (!p.lB))
   (hh.get n))
  (and (Tv n nx)<|Tv n top):=rfl
 rw[e] at h;cases hb:and (Tv n nx) (Tv n top) with
 |false=>rw[hb] at h;cases h
 |true=>
  rw[hb] at h;have gS:=UI.1 hb;rw[blt_eq,blt_eq] at gS;cases hg:hh.get n with
  |none=>rw[hg] at h;cases h
  |some p=>
   rw[hg] at h;cases hr:(!p.lB) with
   |true=>
    have h': @Bool.rec (fun _=>R Unit)
     (@Bool.rec (fun _=>R Unit) (.ok () ⟨hh.put n o,nx,mark,rd,wr⟩) (.ok () ⟨hh.put n o,nx,mark,n::rd,n::wr⟩)<|Tv n mark)
     .bad (!p.lB)= .ok u s1:=h
    rw[hr] at h';cases h'
   |false=>
    have h': @Bool.rec (fun _=>R Unit)
     (@Bool.rec (fun _=>R Unit) (.ok () ⟨hh.put n o,nx,mark,rd,wr⟩) (.ok () ⟨hh.put n o,nx,mark,n::rd,n::wr⟩)<|Tv n mark)
     .bad (!p.lB)= .ok u s1:=h
    rw[hr] at h';refine⟨gS.1,gS.2,⟨p,by first|exact hg|rfl,hr⟩,?_⟩;have vq: @Bool.rec (fun _=>R Unit) (.ok () ⟨hh.put n o,nx,mark,rd,wr⟩) (.ok () ⟨hh.put n o,nx,mark,n::rd,n::wr⟩) (Tv n mark)= .ok u s1:=h';rw[zW] at vq;by_cases e:n<mark
    ·rw[if_pos e] at vq;injection vq with _ h3;simp[e, ←h3]
    ·rw[if_neg e] at vq;injection vq with _ h3;simp[e, ←h3]
theorem XM{s:AS}{p:ah}(h1:n<s.nx)(h2:n<top)(h3:s.h.get n=some p)(h4:(!p.lB)=false):
 lG n o s= .ok () (if n<s.mark then{s with h:=s.h.put n o,rd:=n::s.rd,wr:=n::s.wr} else{s with h:=s.h.put n o}):=by
 let⟨hh,nx,mark,rd,wr⟩:=s;have e:lG n o ⟨hh,nx,mark,rd,wr⟩= @Bool.rec (fun _=>R Unit) .bad
  (@Option.rec ah (fun _=>R Unit) .bad
   (fun p=> @Bool.rec (fun _=>R Unit)
    (@Bool.rec (fun _=>R Unit) (.ok () ⟨hh.put n o,nx,mark,rd,wr⟩) (.ok () ⟨hh.put n o,nx,mark,n::rd,n::wr⟩)<|Tv n mark)
    .bad (!p.lB))
   (hh.get n))
  (and (Tv n nx)<|Tv n top):=rfl
 have hb:and (Tv n nx) (Tv n top)=true:=UI.2 ⟨by rw[blt_eq];exact h1,by rw[blt_eq];exact h2⟩;have hg:hh.get n=some p:=h3;rw[e,hb,hg];show @Bool.rec (fun _=>R Unit) (@Bool.rec (fun _=>R Unit) (.ok () ⟨hh.put n o,nx,mark,rd,wr⟩) (.ok () ⟨hh.put n o,nx,mark,n::rd,n::wr⟩)<|Tv n mark) .bad (!p.lB)=_;rw[h4];show @Bool.rec (fun _=>R Unit) (.ok () ⟨hh.put n o,nx,mark,rd,wr⟩) (.ok () ⟨hh.put n o,nx,mark,n::rd,n::wr⟩) (Tv n mark)=_;rw[zW];by_cases e:n<mark<;>simp[e]
theorem Tt.lG(n:Nat)(o:Option ah):Tt<|lG n o:=by
 intro s v s1 fi h;obtain⟨h1,ht,⟨p,h2,h3⟩,rfl⟩:=WD h;by_cases e:n<s.mark
 ·rw[if_pos e];refine⟨[n],[n],⟨rfl,rfl,Tz _,fi.nx,rfl,fun k hk hn=>?_,fun _ h=>h,fun k hk gM=>?_⟩,fun A m0 t ag hA=>?_⟩
  ·show(s.h.put n o).get k=_;rw[Tr.dy _ _ _ _ ht (by have:=fi.mark;have:=fi.nx;omega),if_neg<|by simpa using hn]
  ·show(s.h.put n o).get k=_;have:s.nx<=k:=hk;rw[Tr.dy _ _ _ _ ht gM,if_neg ak]
  ·have hq:A n\/m0<=n:=by
    by_cases q:n<m0
    ·exact .inl<|hA n j0 q
    ·exact .inr ak
   have hg:=ag.is n h1 hq;have hr:=XM (o:=o) (s:=t) (n:=n) (p:=p) FD ht FE h3;rw[←ag.mark,if_pos e] at hr;refine⟨_,hr,⟨ag.nx,by first|exact ag.mark|rfl,ag.low,fun k hk hq=>?_⟩,rfl,rfl,fun k hk hn=>?_,fun k hk gM=>?_⟩
   ·show(s.h.put n o).get k=(t.h.put n o).get k;have FF:k<s.nx:=hk;have:=fi.nx;rw[Tr.dy _ _ _ _ ht ak,Tr.dy _ _ _ _ ht ak];by_cases q:k=n
    ·simp[q]
    ·rw[if_neg q,if_neg q];exact ag.is k hk hq
   ·show(t.h.put n o).get k=_;have:=fi.mark;have:=fi.nx;have:=ag.low;rw[Tr.dy _ _ _ _ ht ak,if_neg<|by simpa using hn]
   ·show(t.h.put n o).get k=_;have:s.nx<=k:=hk;rw[Tr.dy _ _ _ _ ht gM,if_neg ak]
 ·rw[if_neg e];refine⟨[],[],⟨rfl,rfl,Tz _,fi.nx,rfl,fun k hk hn=>?_,fun _ h=>h,fun k hk gM=>?_⟩,fun A m0 t ag hA=>?_⟩
  ·show(s.h.put n o).get k=_;have:=fi.mark;have:=fi.nx;rw[Tr.dy _ _ _ _ ht ak,if_neg ak]
  ·show(s.h.put n o).get k=_;have:s.nx<=k:=hk;rw[Tr.dy _ _ _ _ ht gM,if_neg ak]
  ·have hg:=ag.is n h1<|.inr<|TO ag.low ak;have hr:=XM (o:=o) (s:=t) (n:=n) (p:=p) FD ht FE h3;rw[←ag.mark,if_neg e] at hr;refine⟨_,hr,⟨ag.nx,by first|exact ag.mark|rfl,ag.low,fun k hk hq=>?_⟩,rfl,rfl,fun k hk hn=>?_,fun k hk gM=>?_⟩
   ·show(s.h.put n o).get k=(t.h.put n o).get k;have FF:k<s.nx:=hk;have:=fi.nx;rw[Tr.dy _ _ _ _ ht ak,Tr.dy _ _ _ _ ht ak];by_cases q:k=n
    ·simp[q]
    ·rw[if_neg q,if_neg q];exact ag.is k hk hq
   ·show(t.h.put n o).get k=_;have:=fi.mark;have:=fi.nx;have:=ag.low;rw[Tr.dy _ _ _ _ ht ak,if_neg ak]
   ·show(t.h.put n o).get k=_;have:s.nx<=k:=hk;rw[Tr.dy _ _ _ _ ht gM,if_neg ak]
section
variable {P:Program} {B:aE} {ρ:Ren} {w:World} {s s1 s2:AS} {Tu:aJ}
theorem av.G7{qz:Nat}(hP:bY P){g:FuncId}{fn:Func}{body:Code}{args:List AV}{vs:Array Value}{R:AV->AS->Prop}(cv:P.funcs[g]? =some fn)(cF:fn.body=some body)(pz:max fn.ntmps args.length<=top)(H:av P B qz (Fin P fn.results.toList R) ⟨g,dZ args,max fn.ntmps args.length,[.code body],[],none⟩ s)(fi:bH s)(r:Rel B ρ s.h w)(hg:gG ρ)(hf:∀k,s.nx<=k->k<top->ρ k=none)(hv:ax ρ args vs.toList):
 Calls P g vs w fun e w'=>∃v x s3,e= .returned v/\R x s3/\bH s3/\∃σ,(∀k,k<qz->k<top->σ k=ρ k)/\(∀k x,top<=k->ρ k=some x->σ k=some x)/\VR σ x v/\Rel B σ s3.h w'/\cI B w w':=by
 intro cs;let b:Frame:={(default:Frame) with fn:=g,kind:=.normal,roundOf:=none};let a:Act:={tmps:=vs++Us (fn.ntmps - vs.size) undef,defers:=[]};have yq:Frame.enter P g vs .normal=b.atR a [.code body]:=by simp[Frame.enter,Frame.atR,cv,cF,b,a]
 have bI:Fr ρ ⟨g,dZ args,max fn.ntmps args.length,[.code body],[],none⟩ b a:=⟨rfl,rfl,trivial,rfl,.cons (hP.code g fn body cv cF) .nil⟩;have ay:At B ρ s (max fn.ntmps args.length) (dZ args) w a:=⟨I5 hv _ pz,r,hg,pz,fi⟩;let⟨fr,j,s2,σ,a',w',⟨x,s3,qq,hR⟩,en,e0,IH,e1,e2,e3,e4,e5,e6,e7,e8⟩:=H ρ w b a cs bI ay hf;have QM:finish P fn.results.toList fr j s2= .ok x s3:=by rw[Gu];exact qq
 have Ba:bH s2:=e2.cG;let⟨hj,u2,s4,rs,h7,h9,hx⟩:=NS QM;have pK:bH s4:=(Tt.rV _).cG Ba h7;have qC:Leaves j fr.todo:=e7;let⟨d1,d2,w2,d3,d4,d5⟩:=I4 (P:=P) (fr:=b) (cs:=cs) Ba e2.rel e3 h7;let⟨f1,f2,us,f3,f4⟩:=I1 (P:=P) (w:=w2) e2.tr pK d3 h9;have jH:bH s3:=(Tt.tW P fr.tmps _).cG pK h9;have HJ:Steps P (lone (b.atR a' fr.todo) cs w')<|lone {b.atR a' fr.todo with mode:=.returning} cs w':=by
  rcases hj with rfl|rfl
  ·have e:fr.todo=[]:=qC;rw[e];exact .one<|stepR_end rfl
  ·let⟨k,e⟩:=qC;rw[e];exact .one<|stepR_ret rfl
 have yG:=d5 {b.atR a' fr.todo with mode:=.returning} cs j0 rfl;have lT:(results fn a'.tmps).run P w2= .ok (pd us) w2:=by
  unfold results;rw[Wj];simp only[TF,map_eq_pure_bind,TK];refine Eq.trans (congrArg (fun r:Result (List Value)=>(r.andThen fun a w'=>Result.ok a.toArray w').andThen fun a w'=>Result.ok (if h:a.size=1 then a[0] else Value.tuple a) w') f3) ?_;have:∀l:List Value,(Result.ok (if h:l.toArray.size=1 then l.toArray[0] else Value.tuple l.toArray) w2:Result Value)= .ok (pd l) w2:=by
   intro l
   match l with
   |[]=>rfl
   |[v]=>rfl
   |v::v2::l=>simp[pd]
  exact this us
 refine⟨.returned<|pd us,w2,{b.atR a' fr.todo with mode:=.returning,defers:=[]},⟨_,x,s3,rfl,hR,jH,σ,e0,IH,?_⟩,?_,rfl,?_⟩
 ·exact⟨by rw[hx];exact Oj f4,by rw[f1];exact d3,e4.trans d4⟩
 ·rw[yq];exact Steps.trans e8<|Steps.trans HJ yG
 ·exact⟨rfl,rfl,rfl,fn,cv,lT⟩
end
abbrev TX:=Nat->AV->List (Nat×ah)->Prop
def yY(loc ρ:Ren):Ren:=fun m=>if top<=m then ρ m else loc m
theorem ac9{loc ρ σ:Ren}(h:∀m x,top<=m->ρ m=some x->σ m=some x):(yY loc ρ).le<|yY loc σ:=by
 intro k x e;unfold yY at e ⊢;split at e
 ·rename_i q;rw[if_pos q];exact h k x q e
 ·rename_i q;rw[if_neg q];exact e
inductive ox (X:TX) (U:Nat):Nat->AV->Ren->World->Nat->(Nat->Prop)->Prop where
 | mk {k:Nat} {v:AV} {ρ:Ren} {w:World} {b:Nat} {H:Nat->Prop} (L:List<|Nat×ah) (loc:Ren) (bl:Nat->Nat) (H1:Nat->Nat->Prop) (N0:Nat)
   (hx:X k v L) (root:loc U=some (b,N0)) (low:∀m,m<U->loc m=none)
   (is:∀m o,(m,o)∈L->∃N o',loc m=some (bl m,N)/\w.heap[bl m]? =some o'/\OR (yY loc ρ) N o o'/\H (bl m))
   (one:∀m n o p,(m,o)∈L->(n,p)∈L->bl m=bl n->m=n)
   (tok:∀m k' v',(m,ah.tok k' v')∈L->ox X U k' v' ρ w (bl m) (H1 m))
   (Lv:∀m k' v',(m,ah.tok k' v')∈L->H1 m (bl m))
   (sub:∀m k' v',(m,ah.tok k' v')∈L->∀x,H1 m x->H x)
   (own:∀m k' v' n o,(m,ah.tok k' v')∈L->(n,o)∈L->o.lB=false->¬H1 m (bl n))
   (apart:∀m k' v' n MV xw x,(m,ah.tok k' v')∈L->(n,ah.tok MV xw)∈L->m≠n->H1 m x->¬H1 n x):ox X U k v ρ w b H
theorem ox.mono{X:TX}{U k:Nat}{v:AV}{ρ:Ren}{w:World}{b:Nat}{H:Nat->Prop}(h:ox X U k v ρ w b H):∀{σ:Ren} {w':World},(∀m x,top<=m->ρ m=some x->σ m=some x)->(∀x,H x->w'.heap[x]? =w.heap[x]?)->ox X U k v σ w' b H:=by
 induction h with
 |mk L loc bl H1 N0 hx root low is one tok Lv sub own apart ih=>intro σ w' hm hw;refine .mk L loc bl H1 N0 hx root low (fun m o zn=>?_) one (fun m k' v' zn=>ih m k' v' zn hm fun x q=>hw x<|sub m k' v' zn x q) Lv sub own apart;let⟨N,o',a1,a2,a3,a4⟩:=is m o zn;exact⟨N,o',a1,(hw _ a4).trans a2,a3.mono<|ac9 hm,a4⟩
def lP(ns:List Nat)(o:ah):Prop:=∀(σ:Ren) (N:Nat) (o':Obj),OR σ N o o'->OR (fun m=>if top<=m\/m∈ns then σ m else none) N o o'
structure zo (X:TX) (U:Nat):Prop where
 nm:∀k v L,X k v L->∀p∈L,U<=p.1/\p.1<top/\(p.2.own=true\/p.2.lB=true)/\lP (L.map (·.1)) p.2
 root:∀k v L,X k v L->∃o,(U,o)∈L
theorem Ox:∀{L:List<|Nat×ah},(∀p∈L,p.1<n)->∀p∈bf L,p.1<n
 |[],_,p,hp=>by cases hp
 |a::l,h,p,hp=>by
  rcases Ty.1 hp with rfl|hp
  ·exact h a TA
  ·exact Ox (fun q hq=>h q<|TB _ hq) p hp
end
end Go.Rn
namespace Go.Rn
open Go.RowKit
section
def yZ(U:Nat)(ns:List Nat)(h0:Tr ah)(k:Nat)(val:AV->List AV->Option (AV×AV)):aJ->List AV->M AV:=fun _ args=>
 match args with
 | .ptr (some (n,0))::rest=>aG (rest.all AV.hi&&Tw U n) <| (gj U h0 ns).bind fun _=>(bA n).bind fun o=>match o with
  | .tok k' v=>aG (Tx k k') <| aB (val v rest) fun p=>aG p.1.hi <| (lG n<|some<|.tok k p.2).bind fun _=>M.pure p.1
  |_=>fail
 |_=>fail
end
theorem Tt.yZ(U:Nat)(ns:List Nat)(h0:Tr ah)(k:Nat)(val:AV->List AV->Option (AV×AV))(Tu:aJ)(args:List AV):Tt<|yZ U ns h0 k val Tu args:=by
 unfold Rn.yZ;split
 ·refine Tt.aG fun _=>Tt.bind (Tt.gj U h0 ns) fun _=>Tt.bind (Tt.bA _) fun o=>?_;split
  ·exact Tt.aG fun _=>Tt.aB fun p _=>Tt.aG fun _=>Tt.bind (Tt.lG _ _) fun _=>Tt.pure _
  ·exact Tt.fail
 ·exact Tt.fail
def mT(U:Nat)(ρ loc:Ren):Ren:=fun m=>if m<U then ρ m else if top<=m then ρ m else loc m
def uI(B:aE)(ρ:Ren)(w:World)(H:Nat->Prop):aE:=⟨fun x=>w.heap.size<=x\/H x,B.F,fun m=>ρ m≠none,B.inv,B.lim,B.mono⟩
theorem aiF{X:TX}{U k:Nat}{v:AV}{B:aE}{ρ:Ren}{w:World}{h h0:Tr ah}{ns:List Nat}{kn:List<|Nat×Option ah}{b:Nat}{H:Nat->Prop}(hX:zo X U)(hT:B.inv=ox X U)(ht:U<=top)(r:Rel B ρ h w)(dL:∀n o,n<top->h0.get n=some o->n∈ns)(eH:∀n∈ns,n<U)(jG:∀n o,(n,some o)∈kn->h0.get n=some o)(jJ:∀p∈kn,p.1<top)(a3:∀n∈ns,∃o p,h.get n=some o/\h0.get n=some p/\pe U o p=true)(hH:∀x,H x->(x<w.heap.size/\B.lim<=x)/\B.may x/\kG ρ h x/\∀j sh,ρ (hn j x sh)=none)(I:ox X U k v ρ w b H):
 ∃L loc N0,X k v L/\loc U=some (b,N0)/\(∀m y,loc m=some y->∃o,(m,o)∈L)/\Rel (uI B ρ w H) (mT U ρ loc) (gm<|kn++bf L) w:=by
 let⟨L,HR,bl,H1,N0,hx,root,low,is,one,tok,Lv,sub,own,apart⟩:=I;have r0:=EW ht r dL eH a3;have nm:=hX.nm k v L hx;let loc:Ren:=fun m=>if m∈L.map (·.1) then HR m else none
 have Dk:∀m o,(m,o)∈L->m∈L.map (·.1):=fun m o hm=>TI.2 ⟨_,hm,rfl⟩;have YW:∀m,m∈L.map (·.1)->loc m=HR m:=fun m hm=>if_pos hm;have aiG:∀m,m ∉ L.map (·.1)->loc m=none:=fun m hm=>if_neg hm;have ge:∀m,m∈L.map (·.1)->U<=m/\m<top:=fun m hm=>by obtain⟨p,hp,rfl⟩:=TI.1 hm;exact⟨(nm p hp).1,(nm p hp).2.1⟩
 let⟨oR,hR⟩:=hX.root k v L hx;have tm:∀m,m∈L.map (·.1)->mT U ρ loc m=HR m:=fun m hm=>by let⟨q1,q2⟩:=ge m hm;unfold mT;rw[if_neg ak,if_neg ak];exact YW m hm
 have tk:∀m,top<=m->mT U ρ loc m=ρ m:=fun m hm=>by unfold mT;rw[if_neg ak,if_pos hm]
 have tl:∀m,m<U->mT U ρ loc m=ρ m:=fun m hm=>by unfold mT;rw[if_pos hm]
 have vA:(gH U ρ).le<|mT U ρ loc:=by
  intro m x e;unfold gH at e;split at e
  ·rename_i q;rw[tl m q];exact e
  ·unfold gK at e;split at e
   ·rename_i q;rw[tk m q];exact e
   ·cases e
 have cH:∀p∈kn++bf L,p.1<top:=fun p hp=>by
  rcases TP.1 hp with hp|hp
  ·exact jJ p hp
  ·exact Ox (fun q hq=>(nm q hq).2.1) p hp
 have mle:∀{N:Nat} {o:ah} {o':Obj},lP (L.map (·.1)) o->OR (yY HR ρ) N o o'->OR (mT U ρ loc) N o o':=fun hf hO=>(hf _ _ _ hO).mono fun i y hi=>by
  have hi:(if top<=i\/i∈L.map (·.1) then yY HR ρ i else none)=some y:=hi;split at hi
  ·rename_i q;unfold yY at hi;rcases q with q|q
   ·rw[if_pos q] at hi;rw[tk i q];exact hi
   ·rw[if_neg (by have:=(ge i q).2;omega)] at hi;rw[tm i q];exact hi
  ·cases hi
 have aw:∀m o,(gm<|kn++bf L).get m=some o->(m∈ns/\h0.get m=some o/\o.nq=true)\/(m,o)∈L:=fun m o hg=>by
  rcases TP.1 (wc cH hg) with q|q
  ·have q2:=jG m o q;have iN:=dL m o (jJ _ q) q2;let⟨p1,p2,_,c3,c4⟩:=a3 m iN;rw[q2] at c3;cases c3;refine .inl ⟨iN,q2,?_⟩;unfold pe at c4;split at c4<;>first|rfl|cases c4
  ·exact .inr<|On q
 have Dl:∀m N x,m∈ns->mT U ρ loc m=some (x,N)->x<B.lim:=fun m N x q1 e=>by rw[tl m<|eH m q1] at e;let⟨p1,p2,c2,c3,c4⟩:=a3 m q1;let⟨b',N',e1,e2⟩:=r.tk.1.2 m p1 (TJ (eH m q1) ht) c2<|Jf c4;rw[e] at e1;cases e1;exact e2
 have FW:∀m o N x,(m,o)∈L->mT U ρ loc m=some (x,N)->x=bl m/\H x:=fun m o N x hm e=>by rw[tm m<|Dk m o hm] at e;let⟨N',o',e1,_,_,e4⟩:=is m o hm;rw[e] at e1;cases e1;exact⟨rfl,e4⟩
 refine⟨L,loc,N0,hx,(YW _<|Dk _ _ hR).trans root,fun m y e=>?_,fun m o hm hg=>?_,fun m n o p x N M hm fC hg lF cV e1 e2=>?_,fun m i es ex left cur hm hg=>?_,fun x hx=>.inl hx,fun i j m es ex left cur iw jr iW iY hi _ hg _=>?_,fun j x sh e=>?_,?_⟩
 ·by_cases q:m∈L.map (·.1)
  ·obtain⟨p,hp,rfl⟩:=TI.1 q;exact⟨p.2,hp⟩
  ·rw[aiG m q] at e;cases e
 ·rcases aw m o hg with⟨q1,q3,q4⟩|q
  ·let⟨b',N',o',e1,e2,e3,_⟩:=r0.is m o hm q3;exact⟨b',N',o',vA _ _ e1,e2,e3.mono vA,fun z=>by rw[ah.kL q4] at z;cases z⟩
  ·let⟨N',o',e1,e2,e3,e4⟩:=is m o q;exact⟨bl m,N',o',(tm m<|Dk m o q).trans e1,e2,mle (nm _ q).2.2.2 e3,fun _=>.inr e4⟩
 ·rcases aw m o hg with⟨q1,q3,q4⟩|q
  ·rcases aw n p lF with⟨z1,z3,z4⟩|z
   ·rcases cV with y|y
    ·rw[ah.kL q4] at y;cases y
    ·rw[ah.kL z4] at y;cases y
   ·have y1:=Dl m N x q1 e1;have y2:=(hH x (FW n p M x z e2).2).1.2;omega
  ·rcases aw n p lF with⟨z1,z3,z4⟩|z
   ·have y1:=Dl n M x z1 e2;have y2:=(hH x (FW m o N x q e1).2).1.2;omega
   ·exact one m n o p q z<|(FW m o N x q e1).1.symm.trans (FW n p M x z e2).1
 ·rcases aw m _ hg with⟨_,_,q4⟩|q
  ·cases q4
  ·rcases(nm _ q).2.2.1 with y|y<;>cases y
 ·rcases aw i _ hg with⟨_,_,q4⟩|q
  ·cases q4
  ·rcases(nm _ q).2.2.1 with y|y<;>cases y
 ·rw[tk _<|gb _ _ _] at e;let⟨g0,l,c,e',fr,g1,g2,g3,g4⟩:=r0.fz j x sh (by rw[qP ht<|gb _ _ _];exact e);refine⟨.inl e,l,c,e',fr,g1,g2,fun m o N hm hg cL hr=>?_,fun i y hy=>?_⟩
  ·rcases aw m o hg with⟨_,_,q4⟩|q
   ·rw[ah.kL q4] at cL;cases cL
   ·exact e<|(hH x (FW m o N x q hr).2).2.2.2 j sh
  ·let⟨v',k1,k2,k3⟩:=g4 i y hy;refine⟨v',k1,VR.mono (fun i z q=>?_) _ _ k2,k3⟩;unfold gK at q ⊢;split at q
   ·rename_i hk;rw[if_pos hk];exact vA _ _ q
   ·cases q
 ·refine⟨⟨r.tk.1.1,fun m o hm hg hf=>?_⟩,H1,fun m k' v' hm hg=>?_,fun m n x k' v' MV xw hm fC hg lF cz jw qE=>?_⟩
  ·rcases aw m o hg with⟨q1,q3,q4⟩|q
   ·let⟨b',N',o',e1,e2,e3,_⟩:=r0.is m o hm q3;exact⟨b',N',vA _ _ e1,Dl m N' b' q1<|vA _ _ e1⟩
   ·rcases(nm _ q).2.2.1 with y|y
    ·have:=(ah.vY y).2;rw[ah.kL hf] at this;cases this
    ·cases o<;>first|(cases y;done)|cases hf
  ·rcases aw m _ hg with⟨_,_,q4⟩|q
   ·cases q4
   ·let⟨N',o',e1,e2,e3,e4⟩:=is m _ q;refine⟨bl m,N',(tm m<|Dk m _ q).trans e1,?_,Lv m k' v' q,fun x jw=>?_⟩
    ·show B.inv k' v' (mT U ρ loc) w (bl m)<|H1 m;rw[hT];exact(tok m k' v' q).mono (fun i y hi e=>by rw[tk i hi];exact e) fun _ _=>rfl
    ·have qE:=sub m k' v' q x jw;let⟨c1,c2,c3,c4⟩:=hH x qE;refine⟨c1,.inr qE,fun n o N fC lF cL hr=>?_,fun j sh=>by rw[tk _<|gb _ _ _];exact c4 j sh⟩;rcases aw n o lF with⟨_,_,q4⟩|z
     ·rw[ah.kL q4] at cL;cases cL
     ·refine own m k' v' n o q z ?_ (by rw[←(FW n o N x z hr).1];exact jw);cases o<;>first|rfl|cases cL
  ·rcases aw m _ hg with⟨_,_,q4⟩|q
   ·cases q4
   ·rcases aw n _ lF with⟨_,_,q4⟩|z
    ·cases q4
    ·exact apart m k' v' n MV xw x q z cz jw qE
end Go.Rn
namespace Go.Rn
open Go.RowKit
theorem ahi{X:TX}{U k n a:Nat}{v v':AV}{B:aE}{ρ σ:Ren}{w w':World}{h h4:Tr ah}{b N N0:Nat}{dm:Nat->Nat->Prop}{L':List<|Nat×ah}(hX:zo X U)(hT:B.inv=ox X U)(pH:n<top)(hg:h.get n=some (.tok k v))(hr:ρ n=some (b,N))(r:Rel B ρ h w)(h1:∀n k v,n<top->h.get n=some (.tok k v)->∃b N,ρ n=some (b,N)/\B.inv k v ρ w b (dm n)/\dm n b/\∀x,dm n x->(x<w.heap.size/\B.lim<=x)/\B.may x/\kG ρ h x/\∀j sh,ρ (hn j x sh)=none)(h2:∀n m x k v k' v',n<top->m<top->h.get n=some (.tok k v)->h.get m=some (.tok k' v')->n≠m->dm n x->¬dm m x)(q3:Rel (uI B ρ w<|dm n) σ h4 w')(q4:cI (uI B ρ w<|dm n) w w')(pt:σ U=some (b,N0))(zp:∀m x,top<=m->ρ m=some x->σ m=some x)(hx:X k v' L')(hL:∀m o,(m,o)∈L'->h4.get m=some o):
 Ext a a ρ (cS ρ σ)/\jo σ (cS ρ σ)/\Rel B (cS ρ σ) (h.put n<|some<|.tok k v') w'/\cI B w w':=by
 let⟨b0,M0,r1,_,aon,hH⟩:=h1 n k v pH hg;rw[hr] at r1;cases r1;have nm:=hX.nm k v' L' hx;have hl:ρ.le<|cS ρ σ:=by
  intro k x e;unfold cS;by_cases hk:top<=k
  ·rw[if_pos hk];exact zp k x hk e
  ·rw[if_neg hk];exact e
 have cH:∀k,k<top->cS ρ σ k=ρ k:=fun k hk=>by unfold cS;rw[if_neg ak]
 have gV:∀k,top<=k->cS ρ σ k=σ k:=fun k hk=>by unfold cS;rw[if_pos hk]
 have g:∀m,m<top->(h.put n<|some<|.tok k v').get m=if m=n then some (.tok k v') else h.get m:=fun m hm=>Tr.dy _ _ _ _ pH hm
 have yQ:cI B w w':=⟨q4.os,q4.tape,q4.output,q4.size,fun x hx hm=>q4.block x hx fun z=>by
  rcases z with z|z
  ·have z:w.heap.size<=x:=z;omega
  ·exact hm (hH x z).2.1⟩
 have nr:∀x,x<w.heap.size->¬dm n x->w'.heap[x]? =w.heap[x]? :=fun x hx hm=>q4.block x hx fun z=>by
  rcases z with z|z
  ·have z:w.heap.size<=x:=z;omega
  ·exact hm z
 have other:∀m o x M,m<top->m≠n->h.get m=some o->ρ m=some (x,M)->¬dm n x:=fun m o x M hm cz ho e jw=>by
  let⟨⟨_,c1⟩,_,c3,_⟩:=hH x jw;cases cL:o.dA with
  |false=>exact c3 m o M hm ho cL e
  |true=>
   by_cases hf:o.nq=true
   ·let⟨b',N',e1,e2⟩:=r.tk.1.2 m o hm ho hf;rw[e] at e1;cases e1;omega
   ·cases o<;>first|(cases cL;done)|(exact hf rfl)|skip
    rename_i k' xw;let⟨b',N',e1,_,e3,_⟩:=h1 m k' xw hm ho;rw[e] at e1;cases e1;exact h2 n m x k v k' xw pH hm hg ho (Ne.symm cz) jw e3
 have tB:∀x,kG ρ h x->kG (cS ρ σ) (h.put n<|some<|.tok k v') x:=fun x hn m o M hm ho cL e=>by
  rw[g m hm] at ho;by_cases q:m=n
  ·rw[if_pos q] at ho;cases ho;cases cL
  ·rw[if_neg q] at ho;rw[cH m hm] at e;exact hn m o M hm ho cL e
 have AJ:∀x,w.heap.size<=x->kG (cS ρ σ) (h.put n<|some<|.tok k v') x:=fun x hx m o M hm ho cL e=>by
  rw[g m hm] at ho;by_cases q:m=n
  ·rw[if_pos q] at ho;cases ho;cases cL
  ·rw[if_neg q] at ho;rw[cH m hm] at e;let⟨b1,N1,o1,e1,e2,_⟩:=r.is m o hm ho;rw[e] at e1;cases e1;have:=gC e2;omega
 let⟨⟨_,_⟩,Hq,t1,t2⟩:=q3.tk;let⟨oR,hR⟩:=hX.root k v' L' hx;have gy:∀m o,(m,o)∈L'->m<top:=fun m o hm=>(nm _ hm).2.1;have rH:∀m o,(m,o)∈L'->∃x M o',σ m=some (x,M)/\w'.heap[x]? =some o'/\OR σ M o o'/\(o.dA=false->w.heap.size<=x\/dm n x):=fun m o hm=>q3.is m o (gy m o hm)<|hL m o hm;have kind:∀m o,(m,o)∈L'->o.dA=false\/∃k1 v1,o= .tok k1 v1:=fun m o hm=>by
  rcases(nm _ hm).2.2.1 with y|y
  ·exact .inl (ah.vY y).2
  ·cases o<;>first|exact .inr ⟨_,_,rfl⟩|cases y
 let Hn:Nat->Prop:=fun x=>(∃m o M,(m,o)∈L'/\o.dA=false/\σ m=some (x,M))\/∃m k1 v1,(m,ah.tok k1 v1)∈L'/\Hq m x;have Ht:∀m o,(m,o)∈L'->∀x M,σ m=some (x,M)->Hn x:=fun m o hm x M e=>by
  rcases kind m o hm with q|⟨k1,v1,rfl⟩
  ·exact .inl ⟨m,o,M,hm,q,e⟩
  ·let⟨b1,N1,e1,_,e3,_⟩:=t1 m k1 v1 (gy _ _ hm)<|hL _ _ hm;rw[e] at e1;cases e1;exact .inr ⟨m,k1,v1,hm,e3⟩
 have Fp:∀x,Hn x->x<w'.heap.size/\(w.heap.size<=x\/dm n x)/\∀j sh,σ (hn j x sh)=none:=fun x hx=>by
  rcases hx with⟨m,o,M,hm,q,e⟩|⟨m,k1,v1,hm,q⟩
  ·let⟨x1,M1,o',e1,e2,_,e4⟩:=rH m o hm;rw[e] at e1;cases e1;refine⟨gC e2,e4 q,fun j sh=>Ut fun z=>?_⟩;let⟨_,_,_,_,_,_,_,z3,_⟩:=q3.fz j x sh z;exact z3 m o M (gy m o hm) (hL m o hm) q e
  ·let⟨b1,N1,_,_,_,e4⟩:=t1 m k1 v1 (gy _ _ hm)<|hL _ _ hm;let⟨⟨c1,_⟩,c2,_,c4⟩:=e4 x q;exact⟨c1,c2,c4⟩
 refine⟨⟨hl,fun k hk _=>cH k hk⟩,fun k x hk e=>by rw[gV k hk];exact e,⟨fun m o hm ho=>?_,fun m m2 o p x M M2 hm da ho hp cV e1 e2=>?_,fun m i es ex left cur hm ho=>?_,fun x hx=>r.size x<|TO q4.size hx,fun i j m es ex left cur iw jr iW iY hi hj ho hp=>?_,fun j x sh e=>?_,?_⟩,yQ⟩
 ·rw[g m hm] at ho;by_cases q:m=n
  ·subst q;rw[if_pos rfl] at ho;cases ho;let⟨x,M,o',e1,e2,_,_⟩:=rH U oR hR;rw[pt] at e1;cases e1;exact⟨b,N,o',(cH m hm).trans hr,e2,trivial,fun z=>by cases z⟩
  ·rw[if_neg q] at ho;let⟨b1,N1,o1,e1,e2,e3,e4⟩:=r.is m o hm ho;exact⟨b1,N1,o1,(cH m hm).trans e1,(nr b1 (gC e2)<|other m o b1 N1 hm q ho e1).trans e2,e3.mono hl,e4⟩
 ·rw[cH m hm] at e1;rw[cH m2 da] at e2;rw[g m hm] at ho;rw[g m2 da] at hp;have dM:∀m o,(if m=n then some (ah.tok k v') else h.get m)=some o->∃q,h.get m=some q/\(o.dA=false->q.dA=false):=fun m o ho=>by
   by_cases q:m=n
   ·rw[if_pos q] at ho;cases ho;rw[q];exact⟨_,hg,fun z=>by cases z⟩
   ·rw[if_neg q] at ho;exact⟨o,ho,id⟩
  let⟨o1,a1,a2⟩:=dM m o ho;let⟨o2,a3,a4⟩:=dM m2 p hp;exact r.one m m2 o1 o2 x M M2 hm da a1 a3 (cV.imp a2 a4) e1 e2
 ·rw[g m hm] at ho;by_cases q:m=n
  ·rw[if_pos q] at ho;cases ho
  ·rw[if_neg q] at ho;let⟨hi,fE,b1,N1,bm,M,l,bu,seen,u1,u2,u3,u4,u5⟩:=r.iter m i es ex left cur hm ho;have iN:i≠n:=by intro e;subst e;rw[hg] at fE;cases fE
   have u:ni ρ w' m i es ex left cur:=⟨b1,N1,bm,M,l,bu,seen,u1,u2,(nr b1 (gC u3)<|other m _ b1 N1 hm q ho u1).trans u3,(nr bm (gC u4)<|other i _ bm M hi iN fE u2).trans u4,u5⟩;exact⟨hi,by rw[g i hi,if_neg iN];exact fE,u.mono hl⟩
 ·rw[g i hi] at ho;rw[g j hj] at hp;by_cases q:i=n
  ·rw[if_pos q] at ho;cases ho
  ·rw[if_neg q] at ho;by_cases q2:j=n
   ·rw[if_pos q2] at hp;cases hp
   ·rw[if_neg q2] at hp;exact r.lone i j m es ex left cur iw jr iW iY hi hj ho hp
 ·rw[gV _<|gb _ _ _] at e;let⟨g0,l,c,e',fr,g1,g2,_,g4⟩:=q3.fz j x sh e;have nj:∀i y,l[i]? =some y->∃v,c[sh+i]? =some v/\VR (gK<|cS ρ σ) y v/\y.bM=true:=fun i y hy=>by
   let⟨v,k1,k2,k3⟩:=g4 i y hy;refine⟨v,k1,VR.mono (fun z u q=>?_) _ _ k2,k3⟩;unfold gK at q ⊢;split at q
   ·rename_i hk;rw[if_pos hk,gV z hk];exact q
   ·cases q
  by_cases q:ρ (hn j x sh)≠none
  ·let⟨z0,l',c',e2,kR,z1,z2,z3,_⟩:=r.fz j x sh q;exact⟨z0,l,c,e',fr,g1,g2,tB x z3,nj⟩
  ·rcases g0.resolve_left q with z|z
   ·have z:w.heap.size<=x:=z;exact⟨.inr<|r.size x z,l,c,e',fr,g1,g2,AJ x z,nj⟩
   ·exact⟨.inr (hH x z).2.1,l,c,e',fr,g1,g2,tB x (hH x z).2.2.1,nj⟩
 ·let H':Nat->Nat->Prop:=fun m x=>if m=n then Hn x else dm m x
  have Sx:∀x,Hn x->H' n x:=fun x hx=>by show(if n=n then Hn x else _);rw[if_pos rfl];exact hx
  have hsn:∀x,H' n x->Hn x:=fun x hx=>by have hx:(if n=n then Hn x else dm n x):=hx;rw[if_pos rfl] at hx;exact hx
  have hso:∀m x,m≠n->H' m x->dm m x:=fun m x hm hx=>by have hx:(if m=n then Hn x else dm m x):=hx;rw[if_neg hm] at hx;exact hx
  have akw:∀m x,m≠n->dm m x->H' m x:=fun m x hm hx=>by show(if m=n then Hn x else dm m x);rw[if_neg hm];exact hx
  have Dm:H' n=Hn:=funext fun x=>propext ⟨hsn x,Sx x⟩;have zq:∀m,m≠n->H' m=dm m:=fun m hm=>funext fun x=>propext ⟨hso m x hm,akw m x hm⟩;refine⟨⟨TO r.tk.1.1 q4.size,fun m o hm ho hf=>?_⟩,H',fun m k1 v1 hm ho=>?_,fun m m2 x k1 v1 k2 v2 hm da ho hp cz y1 y2=>?_⟩
  ·rw[g m hm] at ho;by_cases q:m=n
   ·rw[if_pos q] at ho;cases ho;cases hf
   ·rw[if_neg q] at ho;let⟨b1,N1,e1,e2⟩:=r.tk.1.2 m o hm ho hf;exact⟨b1,N1,(cH m hm).trans e1,e2⟩
  ·rw[g m hm] at ho;by_cases q:m=n
   ·subst q;rw[if_pos rfl] at ho;cases ho;rw[Dm];refine⟨b,N,(cH m hm).trans hr,?_,Ht U oR hR b N0 pt,fun x hx=>?_⟩
    ·rw[hT];let bl:Nat->Nat:=fun m=>match σ m with|some (x,_)=>x|none=>0
     have nT:∀m x M,σ m=some (x,M)->bl m=x:=fun m x M e=>by show(match σ m with|some (x,_)=>x|none=>0)=x;rw[e]
     refine .mk L' (fun m=>if m∈L'.map (·.1) then σ m else none) bl Hq N0 hx ?_ (fun m hm=>?_) (fun m o hm=>?_) (fun m m2 o p hm da e=>?_) (fun m k1 v1 hm=>?_) (fun m k1 v1 hm=>?_) (fun m k1 v1 hm x hx=>.inr ⟨m,k1,v1,hm,hx⟩) (fun m k1 v1 m2 o hm da ho y=>?_) fun m k1 v1 m2 k2 v2 x hm da cz y1 y2=>t2 m m2 x k1 v1 k2 v2 (gy _ _ hm) (gy _ _ da) (hL _ _ hm) (hL _ _ da) cz y1 y2
     ·rw[if_pos<|TI.2 ⟨_,hR,rfl⟩];exact pt
     ·refine if_neg fun z=>?_;obtain⟨p,hp,rfl⟩:=TI.1 z;have:=(nm p hp).1;omega
     ·let⟨x,M,o',e1,e2,e3,_⟩:=rH m o hm;refine⟨M,o',?_,by rw[nT m x M e1];exact e2,?_,by rw[nT m x M e1];exact Ht m o hm x M e1⟩
      ·rw[if_pos<|TI.2 ⟨_,hm,rfl⟩,nT m x M e1];exact e1
      ·refine((nm _ hm).2.2.2 _ _ _ e3).mono fun i y hi=>?_;have hi:(if top<=i\/i∈L'.map (·.1) then σ i else none)=some y:=hi;unfold yY;split at hi
       ·rename_i q;rcases q with q|q
        ·rw[if_pos q,gV i q];exact hi
        ·by_cases z:top<=i
         ·rw[if_pos z,gV i z];exact hi
         ·rw[if_neg z];show(if i∈L'.map (·.1) then σ i else none)=_;rw[if_pos q];exact hi
       ·cases hi
     ·let⟨x,M,_,e1,_,_,_⟩:=rH m o hm;let⟨x2,M2,_,e2,_,_,_⟩:=rH m2 p da;rw[nT m x M e1,nT m2 x2 M2 e2] at e;subst e;rcases kind m o hm with y|⟨k1,v1,rfl⟩
      ·exact q3.one m m2 o p x M M2 (gy _ _ hm) (gy _ _ da) (hL _ _ hm) (hL _ _ da) (.inl y) e1 e2
      ·rcases kind m2 p da with y|⟨k2,v2,rfl⟩
       ·exact q3.one m m2 _ p x M M2 (gy _ _ hm) (gy _ _ da) (hL _ _ hm) (hL _ _ da) (.inr y) e1 e2
       ·refine Ut fun cz=>?_;let⟨b1,N1,f1,_,f3,_⟩:=t1 m k1 v1 (gy _ _ hm)<|hL _ _ hm;let⟨b2,N2,f4,_,f6,_⟩:=t1 m2 k2 v2 (gy _ _ da)<|hL _ _ da;rw[e1] at f1;cases f1;rw[e2] at f4;cases f4;exact t2 m m2 x k1 v1 k2 v2 (gy _ _ hm) (gy _ _ da) (hL _ _ hm) (hL _ _ da) cz f3 f6
     ·let⟨b1,N1,f1,f2,_,_⟩:=t1 m k1 v1 (gy _ _ hm)<|hL _ _ hm;rw[nT m b1 N1 f1];have f2:B.inv k1 v1 σ w' b1<|Hq m:=f2;rw[hT] at f2;exact f2.mono (fun i y hi e=>by rw[gV i hi];exact e) fun _ _=>rfl
     ·let⟨b1,N1,f1,_,f3,_⟩:=t1 m k1 v1 (gy _ _ hm)<|hL _ _ hm;rw[nT m b1 N1 f1];exact f3
     ·let⟨b1,N1,_,_,_,f4⟩:=t1 m k1 v1 (gy _ _ hm)<|hL _ _ hm;let⟨x2,M2,_,e2,_,_,_⟩:=rH m2 o da;rw[nT m2 x2 M2 e2] at y;let⟨_,_,c3,_⟩:=f4 x2 y;rcases kind m2 o da with z|⟨k2,v2,rfl⟩
      ·exact c3 m2 o M2 (gy _ _ da) (hL _ _ da) z e2
      ·cases ho
    ·let⟨c1,c2,c3⟩:=Fp x hx;refine⟨⟨c1,?_⟩,?_,?_,fun j sh=>by rw[gV _<|gb _ _ _];exact c3 j sh⟩
     ·rcases c2 with z|z
      ·exact TO r.tk.1.1 z
      ·exact(hH x z).1.2
     ·rcases c2 with z|z
      ·exact r.size x z
      ·exact(hH x z).2.1
     ·rcases c2 with z|z
      ·exact AJ x z
      ·exact tB x (hH x z).2.2.1
   ·rw[if_neg q] at ho;rw[zq m q];let⟨b1,N1,f1,f2,f3,f4⟩:=h1 m k1 v1 hm ho;refine⟨b1,N1,(cH m hm).trans f1,B.mono f2 (fun i y _ e=>hl _ _ e) fun x hx=>?_,f3,fun x hx=>?_⟩
    ·exact nr x (f4 x hx).1.1 fun z=>h2 n m x k v k1 v1 pH hm hg ho (Ne.symm q) z hx
    ·let⟨⟨c1,cl⟩,c2,c3,c4⟩:=f4 x hx;refine⟨⟨TJ c1 q4.size,cl⟩,c2,tB x c3,fun j sh=>Ut fun z=>?_⟩;rw[gV _<|gb _ _ _] at z;rcases(q3.fz j x sh z).1 with y|y
     ·exact y<|c4 j sh
     ·rcases y with y|y
      ·have y:w.heap.size<=x:=y;omega
      ·exact h2 n m x k v k1 v1 pH hm hg ho (Ne.symm q) y hx
  ·rw[g m hm] at ho;rw[g m2 da] at hp;have cl:∀m k1 v1,m<top->m≠n->h.get m=some (.tok k1 v1)->∀x,Hn x->¬dm m x:=fun m k1 v1 hm cz ho x hx y=>by
    let⟨_,c2,_⟩:=Fp x hx;rcases c2 with z|z
    ·let⟨b1,N1,_,_,_,f4⟩:=h1 m k1 v1 hm ho;have:=(f4 x y).1.1;omega
    ·exact h2 n m x k v k1 v1 pH hm hg ho (Ne.symm cz) z y
   by_cases q:m=n
   ·rw[if_pos q] at ho;cases ho;have q2:m2≠n:=fun e=>cz<|q.trans e.symm;rw[if_neg q2] at hp;rw[q,Dm] at y1;rw[zq m2 q2] at y2;exact cl m2 k2 v2 da q2 hp x y1 y2
   ·rw[if_neg q] at ho;rw[zq m q] at y1;by_cases q2:m2=n
    ·rw[if_pos q2] at hp;cases hp;rw[q2,Dm] at y2;exact cl m k1 v1 hm q ho x y2 y1
    ·rw[if_neg q2] at hp;rw[zq m2 q2] at y2;exact h2 m m2 x k1 v1 k2 v2 hm da ho hp cz y1 y2
end Go.Rn
namespace Go.Rn
open Go.RowKit
section
variable {s1 s:AS}
theorem amX{n:Nat}{o:Option ah}{u:Unit}(h:lG n o s= .ok u s1):
 n<s.nx/\n<top/\s1.h=s.h.put n o/\s1.nx=s.nx:=by
 obtain⟨h1,h2,h3,rfl⟩:=WD h;by_cases e:n<s.mark
 ·rw[if_pos e];exact⟨h1,h2,rfl,rfl⟩
 ·rw[if_neg e];exact⟨h1,h2,rfl,rfl⟩
def kB(X:TX)(P:Program)(rs:List ResultVar)(k:Nat)(y:AV)(v':AV):=Fin P rs fun y1 s'=>y1=y/\∃L',X k v' L'/\∀m o,(m,o)∈L'->s'.h.get m=some o
theorem amY{X:TX}{P:Program}{B:aE}{f U k:Nat}{ns:List Nat}{h0:Tr ah}{kn:List<|Nat×Option ah}{val:AV->List AV->Option (AV×AV)}{fn:Func}{body:Code}{ρ:Ren}{w:World}(hX:zo X U)(hT:B.inv=ox X U)(hP:bY P)(cv:P.funcs[f]? =some fn)(cF:fn.body=some body)(dF:(fn.name == "runtime.NumGoroutine")=false)(fS:fY<=U)(dI:U<=top)(dL:∀n o,n<top->h0.get n=some o->n∈ns)(eH:∀n∈ns,n<U)(jG:∀n o,(n,some o)∈kn->h0.get n=some o)(jJ:∀p∈kn,p.1<top)(eX:∀v rest y v',val v rest=some (y,v')->max fn.ntmps (rest.length+1)<=top/\∀L,X k v L->∃nx,U<nx/\nx<=top/\(∀p∈L,p.1<nx)/\∀B':aE,B'.F=B.F->B'.inv=B.inv->
 av P B' (U+1) (kB X P fn.results.toList k y v') ⟨f,dZ<|.ptr (some (U,0))::rest,max fn.ntmps<|rest.length+1,[.code body],[],none⟩ ⟨gm<|kn++bf L,nx,0,[],[]⟩){Tu:aJ}{args:List AV}{x:AV}{vs:Array Value}(r:Rel B ρ s.h w)(hg:gG ρ)(h:yZ U ns h0 k val Tu args s= .ok x s1)(hv:ax ρ args vs.toList):jj P ((callFunc f vs).run P w)<|ky B ρ s s1 w x:=by
 unfold yZ at h;split at h
 ·rename_i n rest;let⟨hh,h1⟩:=dv h;let⟨gV,Ix⟩:=and_true.1 hh;let⟨u,s2,h2,h3⟩:=M.aQ h1;let⟨o,s3,h4,h5⟩:=M.aQ h3;let⟨a1,a2,a3⟩:=vU h2;let⟨b1,b2,b3,b4⟩:=gr h4;split at h5
  ·rename_i k' v;let⟨hk,h6⟩:=dv h5;have hk:=Ug hk;subst hk;let⟨p,h7,h8⟩:=bz h6;let⟨h9,gT⟩:=dv h8;let⟨u2,s4,zh,rE⟩:=M.aQ gT;obtain⟨rfl,rfl⟩:=bG rE;let⟨c1,c2,c3,c4⟩:=amX zh;let⟨y,v'⟩:=p;have jk:s.h.get n=some (.tok k v):=by rw[←a1];exact b2
   let⟨_,dm,t1,t2⟩:=r.tk;let⟨b,N,d1,d2,d3,d4⟩:=t1 n k v c2 jk;have ZX:=d2;rw[hT] at ZX;let⟨L,loc,N0,hx,pt,aiH,oy⟩:=aiF hX hT dI r dL eH jG jJ (fun n hn=>by let⟨_,o,p,h⟩:=a3 n hn;exact⟨o,p,h⟩) d4 ZX;let⟨q1,q2⟩:=eX _ _ _ _ h7;let⟨nx,n1,n2,n3,q3⟩:=q2 L hx;have fi:bH (⟨gm<|kn++bf L,nx,0,[],[]⟩:AS):=⟨TN _,n2⟩;have akx:U<top:=TJ n1 n2;have hi:jo ρ<|mT U ρ loc:=fun m x hm e=>by unfold mT;rw[if_neg ak,if_pos hm];exact e
   have XN:mT U ρ loc U=some (b,N0):=by unfold mT;rw[if_neg ak,if_neg ak];exact pt
   have kO:ax (mT U ρ loc) (.ptr (some (U,0))::rest) vs.toList:=by simp only[ax,VR] at hv ⊢;let⟨v0,vr,e1,⟨b',N',e2,e3⟩,e4⟩:=hv;rw[d1] at e2;cases e2;exact⟨v0,vr,e1,⟨b,N0,XN,e3⟩,AV.Ce hi gV e4⟩
   have bQ:=av.G7 (B:=uI B ρ w<|dm n) (s:=⟨gm<|kn++bf L,nx,0,[],[]⟩) (args:=.ptr (some (U,0))::rest) (vs:=vs) hP cv cF q1 (q3 _ rfl rfl) fi oy (fun g iV=>by
    let⟨N,e⟩:=hg g iV;exact⟨N,by unfold mT;rw[if_pos<|TJ iV fS];exact e⟩) (fun m hm kJ=>by
    have hm:nx<=m:=hm;unfold mT;rw[if_neg ak,if_neg ak];cases e:loc m with
    |none=>rfl
    |some z=>let⟨o,q⟩:=aiH m z e;have:=n3 _ q;have:m<nx:=this;omega) kO
   rw[tT cv cF dF];show Calls P f vs w _;refine bQ.mono fun e w'=>?_;rintro ⟨y1,x',s5,rfl,⟨rfl,L',rF,MW⟩,_,σ,e0,IH,e1,e2,e3⟩;let⟨g1,g2,g3,g4⟩:=ahi (a:=s.nx) (v':=v') hX hT c2 jk d1 r t1 t2 e2 e3 ((e0 U (UT _) akx).trans XN) (fun m z hm q=>IH m z hm<|hi m z hm q) rF MW;refine⟨y1,rfl,cS ρ σ,by rw[c4,b4,a2];exact g1,AV.ou g2 h9 e1,?_,g4⟩;rw[c3,b3,a1];exact g3
  ·cases h5
 ·cases h
end
theorem ahj{X:TX}{U k a:Nat}{v:AV}{B:aE}{ρ σ:Ren}{w w':World}{h h4:Tr ah}{b N0:Nat}{L':List<|Nat×ah}(hX:zo X U)(hT:B.inv=ox X U)(ht:U<=top)(ay:a<top)(ha:ρ a=none)(r:Rel B ρ h w)(q3:Rel (qh B ρ w) σ h4 w')(q4:cI (qh B ρ w) w w')(hle:(gH U ρ).le σ)(pt:σ U=some (b,N0))(hx:X k v L')(hL:∀m o,(m,o)∈L'->h4.get m=some o):
 Ext a (a+1) ρ (eW (cS ρ σ) a (b,0))/\jo σ (eW (cS ρ σ) a (b,0))/\Rel B (eW (cS ρ σ) a (b,0)) (h.put a<|some<|.tok k v) w'/\cI B w w':=by
 let⟨b1,b2,R1,b4⟩:=KD (a:=a) ht r q3 q4 hle;have nm:=hX.nm k v L' hx;have cH:∀k,k<top->cS ρ σ k=ρ k:=fun k hk=>by unfold cS;rw[if_neg ak]
 have gV:∀k,top<=k->cS ρ σ k=σ k:=fun k hk=>by unfold cS;rw[if_pos hk]
 have Sy:cS ρ σ a=none:=(cH a ay).trans ha;have hl:(cS ρ σ).le<|eW (cS ρ σ) a (b,0):=oh Sy;have Fq:∀k,top<=k->eW (cS ρ σ) a (b,0) k=σ k:=fun k hk=>by rw[gO _ _ ak];exact gV k hk
 have mD:h.get a=none:=by
  cases e:h.get a with
  |none=>rfl
  |some p=>let⟨_,_,_,h1,_⟩:=r.is a p ay e;rw[ha] at h1;cases h1
 have g:∀m,m<top->(h.put a<|some<|.tok k v).get m=if m=a then some (.tok k v) else h.get m:=fun m hm=>Tr.dy _ _ _ _ ay hm
 have nr:∀x,x<w.heap.size->w'.heap[x]? =w.heap[x]? :=fun x hx=>q4.block x hx fun z=>by have z:w.heap.size<=x:=z;omega
 have tB:∀x,kG ρ h x->kG (eW (cS ρ σ) a (b,0)) (h.put a<|some<|.tok k v) x:=fun x hn m o M hm ho cL e=>by
  rw[g m hm] at ho;by_cases q:m=a
  ·rw[if_pos q] at ho;cases ho;cases cL
  ·rw[if_neg q] at ho;rw[gO _ _ q,cH m hm] at e;exact hn m o M hm ho cL e
 have AJ:∀x,w.heap.size<=x->kG ρ h x:=fun x hx m o M hm ho cL e=>by let⟨b1,N1,o1,e1,e2,_⟩:=r.is m o hm ho;rw[e] at e1;cases e1;have:=gC e2;omega
 let⟨⟨_,_⟩,dm,h1,h2⟩:=r.tk;let⟨⟨_,_⟩,Hq,t1,t2⟩:=q3.tk;let⟨oR,hR⟩:=hX.root k v L' hx;have gy:∀m o,(m,o)∈L'->m<top:=fun m o hm=>(nm _ hm).2.1;have rH:∀m o,(m,o)∈L'->∃x M o',σ m=some (x,M)/\w'.heap[x]? =some o'/\OR σ M o o'/\(o.dA=false->w.heap.size<=x):=fun m o hm=>q3.is m o (gy m o hm)<|hL m o hm;have kind:∀m o,(m,o)∈L'->o.dA=false\/∃k1 v1,o= .tok k1 v1:=fun m o hm=>by
  rcases(nm _ hm).2.2.1 with y|y
  ·exact .inl (ah.vY y).2
  ·cases o<;>first|exact .inr ⟨_,_,rfl⟩|cases y
 let Hn:Nat->Prop:=fun x=>(∃m o M,(m,o)∈L'/\o.dA=false/\σ m=some (x,M))\/∃m k1 v1,(m,ah.tok k1 v1)∈L'/\Hq m x;have Ht:∀m o,(m,o)∈L'->∀x M,σ m=some (x,M)->Hn x:=fun m o hm x M e=>by
  rcases kind m o hm with q|⟨k1,v1,rfl⟩
  ·exact .inl ⟨m,o,M,hm,q,e⟩
  ·let⟨b1,N1,e1,_,e3,_⟩:=t1 m k1 v1 (gy _ _ hm)<|hL _ _ hm;rw[e] at e1;cases e1;exact .inr ⟨m,k1,v1,hm,e3⟩
 have Fp:∀x,Hn x->x<w'.heap.size/\w.heap.size<=x/\∀j sh,σ (hn j x sh)=none:=fun x hx=>by
  rcases hx with⟨m,o,M,hm,q,e⟩|⟨m,k1,v1,hm,q⟩
  ·let⟨x1,M1,o',e1,e2,_,e4⟩:=rH m o hm;rw[e] at e1;cases e1;refine⟨gC e2,e4 q,fun j sh=>Ut fun z=>?_⟩;let⟨_,_,_,_,_,_,_,z3,_⟩:=q3.fz j x sh z;exact z3 m o M (gy m o hm) (hL m o hm) q e
  ·let⟨b1,N1,_,_,_,e4⟩:=t1 m k1 v1 (gy _ _ hm)<|hL _ _ hm;let⟨⟨c1,_⟩,c2,_,c4⟩:=e4 x q;exact⟨c1,c2,c4⟩
 have II:Hn b:=Ht U oR hR b N0 pt;refine⟨⟨Ren.le_trans b1.le hl,fun k hk hka=>(gO _ _ ak).trans<|b1.out k hk ak⟩,fun m x hm e=>by rw[Fq m hm];exact e,⟨fun m o hm ho=>?_,fun m m2 o p x M M2 hm da ho hp cV e1 e2=>?_,fun m i es ex left cur hm ho=>?_,R1.size,fun i j m es ex left cur iw jr iW iY hi hj ho hp=>?_,fun j x sh e=>?_,?_⟩,b4⟩
 ·rw[g m hm] at ho;by_cases q:m=a
  ·subst q;rw[if_pos rfl] at ho;cases ho;let⟨x,M,o',e1,e2,_,_⟩:=rH U oR hR;rw[pt] at e1;cases e1;exact⟨b,0,o',jg _ _ _,e2,trivial,fun z=>by cases z⟩
  ·rw[if_neg q] at ho;let⟨b1,N1,o1,e1,e2,e3,e4⟩:=R1.is m o hm ho;exact⟨b1,N1,o1,hl _ _ e1,e2,e3.mono hl,e4⟩
 ·rw[g m hm] at ho;rw[g m2 da] at hp;have tf:∀m o M,m<top->h.get m=some o->o.dA=false->ρ m=some (b,M)->False:=fun m o M hm ho cL e=>AJ b (Fp b II).2.1 m o M hm ho cL e;by_cases q:m=a
  ·rw[if_pos q] at ho;cases ho;by_cases q2:m2=a
   ·rw[q,q2]
   ·rw[if_neg q2] at hp;rw[q,jg] at e1;cases e1;rw[gO _ _ q2,cH m2 da] at e2;exact(tf m2 p M2 da hp (cV.resolve_left fun z=>by cases z) e2).elim
  ·rw[if_neg q] at ho;by_cases q2:m2=a
   ·rw[if_pos q2] at hp;cases hp;rw[q2,jg] at e2;cases e2;rw[gO _ _ q,cH m hm] at e1;exact(tf m o M hm ho (cV.resolve_right fun z=>by cases z) e1).elim
   ·rw[if_neg q2] at hp;rw[gO _ _ q] at e1;rw[gO _ _ q2] at e2;exact R1.one m m2 o p x M M2 hm da ho hp cV e1 e2
 ·rw[g m hm] at ho;by_cases q:m=a
  ·rw[if_pos q] at ho;cases ho
  ·rw[if_neg q] at ho;let⟨hi,fE,u⟩:=R1.iter m i es ex left cur hm ho;have iN:i≠a:=by intro e;subst e;rw[mD] at fE;cases fE
   exact⟨hi,by rw[g i hi,if_neg iN];exact fE,u.mono hl⟩
 ·rw[g i hi] at ho;rw[g j hj] at hp;by_cases q:i=a
  ·rw[if_pos q] at ho;cases ho
  ·rw[if_neg q] at ho;by_cases q2:j=a
   ·rw[if_pos q2] at hp;cases hp
   ·rw[if_neg q2] at hp;exact R1.lone i j m es ex left cur iw jr iW iY hi hj ho hp
 ·rw[gO _ _ (by have:=gb j x sh;omega)] at e;let⟨g0,l,c,e',fr,g1,g2,g3,g4⟩:=R1.fz j x sh e;refine⟨g0,l,c,e',fr,g1,g2,fun m o M hm ho cL e=>?_,fun i y hy=>by let⟨v,k1,k2,k3⟩:=g4 i y hy;exact⟨v,k1,VR.mono (D1 hl) _ _ k2,k3⟩⟩;rw[g m hm] at ho;by_cases q:m=a
  ·rw[if_pos q] at ho;cases ho;cases cL
  ·rw[if_neg q] at ho;rw[gO _ _ q] at e;exact g3 m o M hm ho cL e
 ·let H':Nat->Nat->Prop:=fun m x=>if m=a then Hn x else dm m x
  have Dm:H' a=Hn:=funext fun x=>if_pos rfl;have zq:∀m,m≠a->H' m=dm m:=fun m hm=>funext fun x=>if_neg hm;refine⟨⟨TO r.tk.1.1 q4.size,fun m o hm ho hf=>?_⟩,H',fun m k1 v1 hm ho=>?_,fun m m2 x k1 v1 k2 v2 hm da ho hp cz y1 y2=>?_⟩
  ·rw[g m hm] at ho;by_cases q:m=a
   ·rw[if_pos q] at ho;cases ho;cases hf
   ·rw[if_neg q] at ho;let⟨b1,N1,e1,e2⟩:=r.tk.1.2 m o hm ho hf;exact⟨b1,N1,(gO _ _ q).trans<|(cH m hm).trans e1,e2⟩
  ·rw[g m hm] at ho;by_cases q:m=a
   ·subst q;rw[if_pos rfl] at ho;cases ho;rw[Dm];refine⟨b,0,jg _ _ _,?_,II,fun x hx=>?_⟩
    ·rw[hT];let bl:Nat->Nat:=fun m=>match σ m with|some (x,_)=>x|none=>0
     have nT:∀m x M,σ m=some (x,M)->bl m=x:=fun m x M e=>by show(match σ m with|some (x,_)=>x|none=>0)=x;rw[e]
     refine .mk L' (fun m=>if m∈L'.map (·.1) then σ m else none) bl Hq N0 hx ?_ (fun m hm=>?_) (fun m o hm=>?_) (fun m m2 o p hm da e=>?_) (fun m k1 v1 hm=>?_) (fun m k1 v1 hm=>?_) (fun m k1 v1 hm x hx=>.inr ⟨m,k1,v1,hm,hx⟩) (fun m k1 v1 m2 o hm da ho y=>?_) fun m k1 v1 m2 k2 v2 x hm da cz y1 y2=>t2 m m2 x k1 v1 k2 v2 (gy _ _ hm) (gy _ _ da) (hL _ _ hm) (hL _ _ da) cz y1 y2
     ·rw[if_pos<|TI.2 ⟨_,hR,rfl⟩];exact pt
     ·refine if_neg fun z=>?_;obtain⟨p,hp,rfl⟩:=TI.1 z;have:=(nm p hp).1;omega
     ·let⟨x,M,o',e1,e2,e3,_⟩:=rH m o hm;refine⟨M,o',?_,by rw[nT m x M e1];exact e2,?_,by rw[nT m x M e1];exact Ht m o hm x M e1⟩
      ·rw[if_pos<|TI.2 ⟨_,hm,rfl⟩,nT m x M e1];exact e1
      ·refine((nm _ hm).2.2.2 _ _ _ e3).mono fun i y hi=>?_;have hi:(if top<=i\/i∈L'.map (·.1) then σ i else none)=some y:=hi;unfold yY;split at hi
       ·rename_i q;rcases q with q|q
        ·rw[if_pos q,Fq i q];exact hi
        ·by_cases z:top<=i
         ·rw[if_pos z,Fq i z];exact hi
         ·rw[if_neg z];show(if i∈L'.map (·.1) then σ i else none)=_;rw[if_pos q];exact hi
       ·cases hi
     ·let⟨x,M,_,e1,_,_,_⟩:=rH m o hm;let⟨x2,M2,_,e2,_,_,_⟩:=rH m2 p da;rw[nT m x M e1,nT m2 x2 M2 e2] at e;subst e;rcases kind m o hm with y|⟨k1,v1,rfl⟩
      ·exact q3.one m m2 o p x M M2 (gy _ _ hm) (gy _ _ da) (hL _ _ hm) (hL _ _ da) (.inl y) e1 e2
      ·rcases kind m2 p da with y|⟨k2,v2,rfl⟩
       ·exact q3.one m m2 _ p x M M2 (gy _ _ hm) (gy _ _ da) (hL _ _ hm) (hL _ _ da) (.inr y) e1 e2
       ·refine Ut fun cz=>?_;let⟨b1,N1,f1,_,f3,_⟩:=t1 m k1 v1 (gy _ _ hm)<|hL _ _ hm;let⟨b2,N2,f4,_,f6,_⟩:=t1 m2 k2 v2 (gy _ _ da)<|hL _ _ da;rw[e1] at f1;cases f1;rw[e2] at f4;cases f4;exact t2 m m2 x k1 v1 k2 v2 (gy _ _ hm) (gy _ _ da) (hL _ _ hm) (hL _ _ da) cz f3 f6
     ·let⟨b1,N1,f1,f2,_,_⟩:=t1 m k1 v1 (gy _ _ hm)<|hL _ _ hm;rw[nT m b1 N1 f1];have f2:B.inv k1 v1 σ w' b1<|Hq m:=f2;rw[hT] at f2;exact f2.mono (fun i y hi e=>by rw[Fq i hi];exact e) fun _ _=>rfl
     ·let⟨b1,N1,f1,_,f3,_⟩:=t1 m k1 v1 (gy _ _ hm)<|hL _ _ hm;rw[nT m b1 N1 f1];exact f3
     ·let⟨b1,N1,_,_,_,f4⟩:=t1 m k1 v1 (gy _ _ hm)<|hL _ _ hm;let⟨x2,M2,_,e2,_,_,_⟩:=rH m2 o da;rw[nT m2 x2 M2 e2] at y;let⟨_,_,c3,_⟩:=f4 x2 y;rcases kind m2 o da with z|⟨k2,v2,rfl⟩
      ·exact c3 m2 o M2 (gy _ _ da) (hL _ _ da) z e2
      ·cases ho
    ·let⟨c1,c2,c3⟩:=Fp x hx;exact⟨⟨c1,TO r.tk.1.1 c2⟩,r.size x c2,tB x<|AJ x c2,fun j sh=>by rw[Fq _<|gb _ _ _];exact c3 j sh⟩
   ·rw[if_neg q] at ho;rw[zq m q];let⟨MY,N1,f1,f2,f3,f4⟩:=h1 m k1 v1 hm ho;refine⟨MY,N1,(gO _ _ q).trans<|(cH m hm).trans f1,B.mono f2 (fun i y _ e=>hl _ _<|b1.le _ _ e) fun x hx=>nr x (f4 x hx).1.1,f3,fun x hx=>?_⟩;let⟨⟨c1,cl⟩,c2,c3,c4⟩:=f4 x hx;refine⟨⟨TJ c1 q4.size,cl⟩,c2,tB x c3,fun j sh=>Ut fun z=>?_⟩;rw[Fq _<|gb _ _ _] at z;rcases(q3.fz j x sh z).1 with y|y
    ·exact y<|c4 j sh
    ·have y:w.heap.size<=x:=y;omega
  ·rw[g m hm] at ho;rw[g m2 da] at hp;have cl:∀m k1 v1,m<top->h.get m=some (.tok k1 v1)->∀x,Hn x->¬dm m x:=fun m k1 v1 hm ho x hx y=>by let⟨_,c2,_⟩:=Fp x hx;let⟨b1,N1,_,_,_,f4⟩:=h1 m k1 v1 hm ho;have:=(f4 x y).1.1;omega
   by_cases q:m=a
   ·have q2:m2≠a:=fun e=>cz<|q.trans e.symm;rw[if_neg q2] at hp;rw[q,Dm] at y1;rw[zq m2 q2] at y2;exact cl m2 k2 v2 da hp x y1 y2
   ·rw[if_neg q] at ho;rw[zq m q] at y1;by_cases q2:m2=a
    ·rw[q2,Dm] at y2;exact cl m k1 v1 hm ho x y2 y1
    ·rw[if_neg q2] at hp;rw[zq m2 q2] at y2;exact h2 m m2 x k1 v1 k2 v2 hm da ho hp cz y1 y2
section
variable {U:Nat} {x:AV}
section
def CJ(U:Nat)(ns:List Nat)(h0:Tr ah)(k:Nat)(val:List AV->Option (Option AV×(AV->AV))):aJ->List AV->M AV:=fun _ args=>
 aG (args.all AV.hi) <| (gj U h0 ns).bind fun _=>aB (val args) fun p=>match p.1 with
  |none=>aG (p.2<|.ptr none).hi <| M.pure<|p.2<|.ptr none
  |some v=>(gQ<|.tok k v).bind fun n=>M.pure<|p.2<|.ptr<|some (n,0)
end
theorem Tt.CJ(U:Nat)(ns:List Nat)(h0:Tr ah)(k:Nat)(val:List AV->Option (Option AV×(AV->AV)))(Tu:aJ)(args:List AV):Tt<|CJ U ns h0 k val Tu args:=by
 refine Tt.aG fun _=>Tt.bind (Tt.gj U h0 ns) fun _=>Tt.aB fun p _=>?_;split
 ·exact Tt.aG fun _=>Tt.pure _
 ·exact Tt.bind (Tt.gQ _) fun _=>Tt.pure _
def Am(U:Nat)(res:AV->AV):Prop:=∀(σ IJ:Ren) (n:Nat) (y:Value),jo σ IJ->(∀b N,σ U=some (b,N)->∃N',IJ n=some (b,N'))->VR σ (res<|.ptr<|some (U,0)) y->VR IJ (res<|.ptr<|some (n,0)) y
theorem aeo{X:TX}{P:Program}{B:aE}{f k:Nat}{ns:List Nat}{h0:Tr ah}{val:List AV->Option (Option AV×(AV->AV))}{fn:Func}{body:Code}{ρ:Ren}{w:World}{s s1:AS}(hX:zo X U)(hT:B.inv=ox X U)(hP:bY P)(cv:P.funcs[f]? =some fn)(cF:fn.body=some body)(dF:(fn.name == "runtime.NumGoroutine")=false)(fS:fY<=U)(dI:U<top)(dL:∀n o,n<top->h0.get n=some o->n∈ns)(eH:∀n∈ns,n<U)(eX:∀args p,val args=some p->max fn.ntmps args.length<=top/\(p.1=none->∀B':aE,B'.F=B.F->B'.inv=B.inv->
 av P B' U (Fin P fn.results.toList fun y _=>y=p.2 (.ptr none)) ⟨f,dZ args,max fn.ntmps args.length,[.code body],[],none⟩ ⟨h0,U,0,[],[]⟩)/\
 ∀v,p.1=some v->Am U p.2/\∀B':aE,B'.F=B.F->B'.inv=B.inv->av P B' U (kB X P fn.results.toList k (p.2<|.ptr<|some (U,0)) v) ⟨f,dZ args,max fn.ntmps args.length,[.code body],[],none⟩ ⟨h0,U,0,[],[]⟩){Tu:aJ}{args:List AV}{vs:Array Value}(r:Rel B ρ s.h w)(hg:gG ρ)(hf:dU s.nx s1.nx ρ)(h:CJ U ns h0 k val Tu args s= .ok x s1)(hv:ax ρ args vs.toList):jj P ((callFunc f vs).run P w)<|ky B ρ s s1 w x:=by
 have HT:=U1 dI;unfold CJ at h;let⟨gV,h1⟩:=dv h;let⟨u,s2,h2,h3⟩:=M.aQ h1;let⟨p,h4,h5⟩:=bz h3;let⟨a1,a2,a3⟩:=vU h2;let⟨q1,q2,q3⟩:=eX _ _ h4;have oy:=EW HT r dL eH (fun n hn=>by let⟨_,o,p,h⟩:=a3 n hn;exact⟨o,p,h⟩);have fi:bH (⟨h0,U,0,[],[]⟩:AS):=⟨TN _,HT⟩;have Bc:gG<|gH U ρ:=fun g iV=>by let⟨N,e⟩:=hg g iV;exact⟨N,by unfold gH;rw[if_pos<|TJ iV fS];exact e⟩
 have mq:∀k,(⟨h0,U,0,[],[]⟩:AS).nx<=k->k<top->gH U ρ k=none:=fun k k1 k2=>by have k1:U<=k:=k1;unfold gH gK;rw[if_neg ak,if_neg ak]
 have ZY:=AV.Ce (ρ:=ρ) (σ:=gH U ρ) (fun k y hk e=>by rw[qP HT hk];exact e) gV hv;rw[tT cv cF dF];show Calls P f vs w _;let⟨st,res⟩:=p;cases st with
 |none=>have e0:(none:Option AV)=none:=rfl;let⟨h6,h7⟩:=dv (show aG (res<|.ptr none).hi (M.pure<|res<|.ptr none) s2= .ok x s1 from h5);obtain⟨rfl,rfl⟩:=bG h7;refine(av.calls (B:=qh B ρ w) (s:=⟨h0,U,0,[],[]⟩) (args:=args) (vs:=vs) hP cv cF q1 (q2 e0 _ rfl rfl) fi oy Bc mq ZY).mono fun e w'=>?_;rintro ⟨y,x',s4,rfl,rfl,_,_,σ,e1,e2,e3,e4⟩;let⟨b1,b2,b3,b4⟩:=KD (a:=s.nx) HT r e3 e4 e1.le;exact⟨y,rfl,cS ρ σ,by rw[a2];exact b1,AV.ou b2 h6 e2,by rw[a1];exact b3,b4⟩
 |some v=>
  have e0:(some v:Option AV)=some v:=rfl;let⟨n,s3,h6,h7⟩:=M.aQ (show((gQ<|.tok k v).bind fun n=>M.pure<|res<|.ptr<|some (n,0)) s2= .ok x s1 from h5);obtain⟨rfl,rfl⟩:=bG h7;obtain⟨FI,rfl,rfl⟩:=v8 h6;let⟨lT,aky⟩:=q3 v e0;refine(av.calls (B:=qh B ρ w) (s:=⟨h0,U,0,[],[]⟩) (args:=args) (vs:=vs) hP cv cF q1 (aky _ rfl rfl) fi oy Bc mq ZY).mono fun e w'=>?_;rintro ⟨y,x',s4,rfl,⟨rfl,L',rF,MW⟩,_,_,σ,e1,e2,e3,e4⟩;let⟨oR,hR⟩:=hX.root _ _ _ rF;let⟨b,N0,o',r1,_,_,_⟩:=e3.is U oR dI<|MW _ _ hR;have Sy:ρ s.nx=none:=hf s.nx (Tz _) (by show s.nx<s2.nx+1;omega) ak;let⟨b1,b2,b3,b4⟩:=ahj (a:=s.nx) hX hT HT ak Sy r e3 e4 e1.le r1 rF MW;refine⟨y,rfl,_,?_,lT σ _ s2.nx y b2 (fun b' N' e=>?_) e2,?_,b4⟩
  ·show Ext s.nx (s2.nx+1) ρ _;rw[a2];exact b1
  ·rw[r1] at e;cases e;rw[a2];exact⟨0,jg _ _ _⟩
  ·show Rel B _ (s2.h.put s2.nx<|some<|.tok k v) w';rw[a1,a2];exact b3
theorem Am.ptr:Am U fun p=>p:=fun σ IJ n y _ h2 h=>by simp only[VR] at h ⊢;let⟨b,N,e1,e2⟩:=h;let⟨N',e3⟩:=h2 b N e1;exact⟨b,N',e3,e2⟩
theorem Am.tup(hx:x.cN=true):Am U fun p=>.tuple [p,x]:=fun σ IJ n y h1 h2 h=>by simp only[VR,ax] at h ⊢;let⟨a,e1,v,l,e2,⟨b,N,e3,e4⟩,v2,l2,e5,e6,e7⟩:=h;let⟨N',e8⟩:=h2 b N e3;exact⟨a,e1,v,l,e2,⟨b,N',e8,e4⟩,v2,l2,e5,AV.wx h1 hx e6,e7⟩
end
section
variable {β α:Type} {U:Nat} {ns:List Nat} {h0:Tr ah}
theorem PD{s:AS}{n:Nat}{o:Option ah}{p:ah}(h1:Tv n s.nx=true)(h2:s.h.get n=some p)(h3:p.lB=true)(ht:Tv n top=true):lG n o s= .ok () (fN n o s):=by let⟨hh,nx,mark,rd,wr⟩:=s;have e1:(Tv n nx&&Tv n top)=true:=and_true.2 ⟨h1,ht⟩;have e2:hh.get n=some p:=h2;show @Bool.rec (fun _=>R Unit) .bad (@Option.rec ah (fun _=>R Unit) .bad (fun p=> @Bool.rec (fun _=>R Unit) (@Bool.rec (fun _=>R Unit) (.ok () ⟨hh.put n o,nx,mark,rd,wr⟩) (.ok () ⟨hh.put n o,nx,mark,n::rd,n::wr⟩)<|Tv n mark) .bad<|!p.lB)<|hh.get n) (Tv n nx&&Tv n top)=_;rw[e1,e2];show @Bool.rec (fun _=>R Unit) (@Bool.rec (fun _=>R Unit) (.ok () ⟨hh.put n o,nx,mark,rd,wr⟩) (.ok () ⟨hh.put n o,nx,mark,n::rd,n::wr⟩)<|Tv n mark) .bad (!p.lB)=_;rw[h3];show @Bool.rec (fun _=>R Unit) (.ok () ⟨hh.put n o,nx,mark,rd,wr⟩) (.ok () ⟨hh.put n o,nx,mark,n::rd,n::wr⟩) (Tv n mark)= .ok () (@Bool.rec (fun _=>AS) ⟨hh.put n o,nx,mark,rd,wr⟩ ⟨hh.put n o,nx,mark,n::rd,n::wr⟩<|Tv n mark);cases Tv n mark<;>rfl
section
inductive KE where
 |val (v:List AV->Option AV)
 |tok (k:Nat) (v:AV->List AV->Option (AV×AV))
 |new (k:Nat) (v:List AV->Option (Option AV×(AV->AV)))
 |raw (m:Nat->List Nat->Tr ah->aJ->List AV->M AV)
abbrev bV:=List<|FuncId×KE
def KE.m(U:Nat)(ns:List Nat)(h0:Tr ah):KE->aJ->List AV->M AV
 | .val v=>nH U ns h0 v
 | .tok k v=>yZ U ns h0 k v
 | .new k v=>CJ U ns h0 k v
 | .raw m=>m U ns h0
def dE(U:Nat)(ns:List Nat)(h0:Tr ah):bV->Sp
 |[]=>fun _=>none
 |p::l=>fun f=>bif Tx f p.1 then some (p.2.m U ns h0) else dE U ns h0 l f
def iZ(val:AV->List AV->Option (AV×AV))(v:AV)(rest:List AV):Option<|AV×AV:=match rest.all AV.hi with
 |true=>(val v rest).bind fun p=>match p.1.hi with
  |true=>some p
  |false=>none
 |false=>none
def CK(val:List AV->Option (Option AV×(AV->AV)))(args:List AV):Option<|Option AV×(AV->AV):=match args.all AV.hi with
 |true=>(val args).bind fun p=>match p.1 with
  |none=>match (p.2<|.ptr none).hi with
   |true=>some p
   |false=>none
  |some _=>some p
 |false=>none
def EX:bV->FuncId->Option KE
 |[]=>fun _=>none
 |p::l=>fun f=>bif Tx f p.1 then some p.2 else EX l f
def KE.v1:KE->Option (List AV->Option AV)
 | .val v=>some<|bc v
 |_=>none
def KE.v2:KE->Option (Nat×(AV->List AV->Option (AV×AV)))
 | .tok k v=>some (k,iZ v)
 |_=>none
def KE.v3:KE->Option (Nat×(List AV->Option (Option AV×(AV->AV))))
 | .new k v=>some (k,CK v)
 |_=>none
def Me(o:Option α)(f:α->Option β):Option β:=match o with
 |some a=>f a
 |none=>none
def y8(P:Program)(U:Nat)(ns:List Nat)(h0:Tr ah)(L:bV)(lo:Nat)(fg:Bool):Env:=⟨P,dE U ns h0 L,FU,fun g=>Me (EX L g) KE.v1,fun _=>false,nu U h0 ns,de U h0 ns,lo,fg,fun g=>Me (EX L g) KE.v2,fun g=>Me (EX L g) KE.v3,U⟩
end
theorem JP:∀{L:bV} {g:FuncId} {e:KE},EX L g=some e->dE U ns h0 L g=some (e.m U ns h0)
 |[],g,e,h=>by cases h
 |p::l,g,e,h=>by
  unfold EX at h;unfold dE;cases q:Tx g p.1 with
  |true=>rw[q] at h;injection h with h;rw[h];rfl
  |false=>rw[q] at h;exact JP h
theorem OX{o:Option α}{f:α->Option β}{b:β}(h:Me o f=some b):∃a,o=some a/\f a=some b:=by
 cases o with
 |none=>cases h
 |some a=>exact⟨a,rfl,h⟩
theorem fw{P:Program}{L:bV}{lo:Nat}{fg:Bool}:(y8 P U ns h0 L lo fg).Ok:=by
 refine⟨fun g val args v s n h1 h2 h3=>?_,fun g q m v rest y v' s n h1 h2 h3 h4 h5 h6 h7=>?_,fun g q args v res s n h1 h2 h3 h4=>?_,fun g h=>(by cases h)⟩
 ·let⟨e,k1,k2⟩:=OX h1;have k3:=JP (U:=U) (ns:=ns) (h0:=h0) k1;cases e with
  |val v0=>
   injection k2 with k2;subst k2
   show jv P (dE U ns h0 L) g (ba P (dE U ns h0 L) FU n) args s=_;rw[p6 k3];exact amf (Tu:=ba P (dE U ns h0 L) FU n) h2 h3
  |tok k v0=>cases k2
  |new k v0=>cases k2
  |raw m0=>cases k2
 ·let⟨e,k1,k2⟩:=OX h1;have k3:=JP (U:=U) (ns:=ns) (h0:=h0) k1;cases e with
  |val v0=>cases k2
  |new k v0=>cases k2
  |raw m0=>cases k2
  |tok k v0=>
   injection k2 with k2;subst k2
   show jv P (dE U ns h0 L) g (ba P (dE U ns h0 L) FU n) (.ptr (some (m,0))::rest) s=_;rw[p6 k3];have h7:iZ v0 v rest=some (y,v'):=h7;unfold iZ at h7;cases e1:rest.all AV.hi with
   |false=>rw[e1] at h7;cases h7
   |true=>
    rw[e1] at h7;cases e2:v0 v rest with
    |none=>rw[e2] at h7;cases h7
    |some p=>
     rw[e2] at h7;have h7:(match p.1.hi with|true=>some p|false=>none)=some (y,v'):=h7;cases e3:p.1.hi with
     |false=>rw[e3] at h7;cases h7
     |true=>
      rw[e3] at h7;injection h7 with h7
      subst h7;show(aG (rest.all AV.hi&&Tw U m) <| (gj U h0 ns).bind fun _=>(bA m).bind fun o=>match o with
       | .tok k' v=>aG (Tx k k') <| aB (v0 v rest) fun p=>aG p.1.hi <| (lG m<|some<|.tok k p.2).bind fun _=>M.pure p.1
       |_=>fail) s=_
      have h3:Tw U m=true:=h3;have h4:Tv m (de U h0 ns s).nx=true:=h4;have h6:(de U h0 ns s).h.get m=some (.tok k v):=h6;rw[e1,h3,(show(true&&true)=true from rfl),dR,M.bO<|yr h2,M.bO<|mo h4 h6];show(aG (Tx k k) <| aB (v0 v rest) fun p=>aG p.1.hi <| (lG m<|some<|.tok k p.2).bind fun _=>M.pure p.1) (aU m<|de U h0 ns s)=_;rw[eP.2 rfl,dR,e2,bW,e3,dR,M.bO<|PD (p:=.tok k v) (by rw[(gd m _).2.1];exact h4) (by rw[(gd m _).1];exact h6) rfl h5];rfl
 ·let⟨e,k1,k2⟩:=OX h1;have k3:=JP (U:=U) (ns:=ns) (h0:=h0) k1;cases e with
  |val v0=>cases k2
  |tok k v0=>cases k2
  |raw m0=>cases k2
  |new k v0=>
   injection k2 with k2;subst k2
   show jv P (dE U ns h0 L) g (ba P (dE U ns h0 L) FU n) args s=_;rw[p6 k3];have h4:CK v0 args=some (v,res):=h4;unfold CK at h4;cases e1:args.all AV.hi with
   |false=>rw[e1] at h4;cases h4
   |true=>
    rw[e1] at h4;cases e2:v0 args with
    |none=>rw[e2] at h4;cases h4
    |some p=>
     let⟨st,r⟩:=p;rw[e2] at h4;show(aG (args.all AV.hi) <| (gj U h0 ns).bind fun _=>aB (v0 args) fun p=>match p.1 with
      |none=>aG (p.2<|.ptr none).hi <| M.pure (p.2<|.ptr none)
      |some v=>(gQ<|.tok k v).bind fun n=>M.pure<|p.2<|.ptr<|some (n,0)) s=_
     rw[e1,dR,M.bO<|yr h2,e2,bW];cases st with
     |none=>
      have h4:(match (r<|.ptr none).hi with|true=>some ((none:Option AV),r)|false=>none)=some (v,res):=h4;cases e3:(r<|.ptr none).hi with
      |false=>rw[e3] at h4;cases h4
      |true=>
       rw[e3] at h4;injection h4 with h4
       injection h4 with h5 h6
       subst h5;subst h6;show aG true (M.pure<|r<|.ptr none) _=_;rw[dR];rfl
     |some v1=>
      have h4:some (some v1,r)=some (v,res):=h4;injection h4 with h4
      injection h4 with h5 h6
      subst h5;subst h6;show((gQ<|.tok k v1).bind fun n=>M.pure<|r<|.ptr<|some (n,0)) _=_;have h3:Tv (de U h0 ns s).nx top=true:=h3;rw[M.bO<|Ps<|(blt_eq _ _).mp h3];rfl
end
section
variable {B:aE}
theorem NN{P:Program}{f U:Nat}{ns:List Nat}{h0:Tr ah}{val:List AV->Option AV}{fn:Func}{body:Code}{ρ:Ren}{w:World}{s s1:AS}(hP:bY P)(cv:P.funcs[f]? =some fn)(cF:fn.body=some body)(dF:(fn.name == "runtime.NumGoroutine")=false)(fS:fY<=U)(dI:U<=top)(dL:∀n o,n<top->h0.get n=some o->n∈ns)(eH:∀n∈ns,n<U)(eX:∀args v,val args=some v->max fn.ntmps args.length<=top/\∀B':aE,B'.F=B.F->B'.inv=B.inv->av P B' U (Fin P fn.results.toList fun y _=>y=v) ⟨f,dZ args,max fn.ntmps args.length,[.code body],[],none⟩ ⟨h0,U,0,[],[]⟩){Tu:aJ}{args:List AV}{x:AV}{vs:Array Value}(r:Rel B ρ s.h w)(hg:gG ρ)(h:nH U ns h0 val Tu args s= .ok x s1)(hv:ax ρ args vs.toList):jj P ((callFunc f vs).run P w)<|ky B ρ s s1 w x:=by
 unfold nH at h;let⟨gV,h1⟩:=dv h;let⟨u,s2,h2,h3⟩:=M.aQ h1;let⟨v,h4,h5⟩:=bz h3;let⟨h6,h7⟩:=dv h5;obtain⟨rfl,rfl⟩:=bG h7;let⟨a1,a2,a3⟩:=vU h2;let⟨q1,q2⟩:=eX _ _ h4;have oy:=EW dI r dL eH (fun n hn=>by let⟨_,o,p,h⟩:=a3 n hn;exact⟨o,p,h⟩);have fi:bH (⟨h0,U,0,[],[]⟩:AS):=⟨TN _,dI⟩;have Bc:gG<|gH U ρ:=fun g iV=>by let⟨N,e⟩:=hg g iV;exact⟨N,by unfold gH;rw[if_pos<|TJ iV fS];exact e⟩
 have bQ:=av.calls (B:=qh B ρ w) (s:=⟨h0,U,0,[],[]⟩) (args:=args) (vs:=vs) hP cv cF q1 (q2 _ rfl rfl) fi oy Bc (fun k k1 k2=>by
  have k1:U<=k:=k1;unfold gH gK;rw[if_neg ak,if_neg ak])
  (AV.Ce (fun k y hk e=>by rw[qP dI hk];exact e) gV hv)
 rw[tT cv cF dF];show Calls P f vs w _;refine bQ.mono fun e w'=>?_;rintro ⟨y,x',s4,rfl,rfl,_,_,σ,e1,e2,e3,e4⟩;let⟨b1,b2,b3,b4⟩:=KD (a:=s.nx) dI r e3 e4 e1.le;exact⟨y,rfl,cS ρ σ,by rw[a2];exact b1,AV.ou b2 h6 e2,by rw[a1];exact b3,b4⟩
def eF(X:TX)(U:Nat)(P:Program)(sp:Sp):Prop:=∀B:aE,B.F=FU->B.inv=ox X U->L9 P B sp
theorem eF.cX{X:TX}{U:Nat}{P:Program}{sp:Sp}{g:FuncId}{m:aJ->List AV->M AV}(h:eF X U P sp)(hl:∀Tu:aJ,(∀t a,Tt<|Tu t a)->∀args,Tt<|m Tu args)(hs:∀B:aE,B.F=FU->B.inv=ox X U->∀Tu:aJ,gk P B Tu->(∀t a,Tt<|Tu t a)->∀(args:List AV) (x:AV) (s s1:AS) (ρ:Ren) (w:World) (vs:Array Value),bH s->Rel B ρ s.h w->gG ρ->dU s.nx s1.nx ρ->
 m Tu args s= .ok x s1->ax ρ args vs.toList->jj P ((callFunc g vs).run P w) (ky B ρ s s1 w x)):eF X U P<|pA sp g m:=by
 intro B hB hT;refine⟨fun f m' e Tu kQ args=>?_,fun f m' e Tu hc kQ args x s s1 ρ w vs fi r hg hf hm hv=>?_⟩
 ·rcases ahD e with⟨_,rfl⟩|e
  ·exact hl Tu kQ args
  ·exact(h B hB hT).loc f m' e Tu kQ args
 ·rcases ahD e with⟨rfl,rfl⟩|e
  ·exact hs B hB hT Tu hc kQ args x s s1 ρ w vs fi r hg hf hm hv
  ·exact(h B hB hT).FT f m' e Tu hc kQ args x s s1 ρ w vs fi r hg hf hm hv
section
variable {X:TX} {P:Program} {U:Nat} {ns:List Nat} {h0:Tr ah} {kn:List<|Nat×Option ah} {L L':bV} {g k:Nat} {fn:Func} {body:Code}
theorem dj:eF X U P<|dE U ns h0 []:=fun _ _ _=>⟨fun f m h=>(by cases h),fun f m h=>(by cases h)⟩
def ry(X:TX)(P:Program)(U:Nat)(ns:List Nat)(h0:Tr ah)(L:bV)(B:aE):Prop:=B.F=FU/\B.inv=ox X U/\gk P B (ba P (dE U ns h0 L) FU 6)/\∀t a,Tt<|ba P (dE U ns h0 L) FU 6 t a
theorem sK(hP:bY P)(h':eF X U P<|dE U ns h0 L)(h1:B.F=FU)(h2:B.inv=ox X U):ry X P U ns h0 L B:=⟨h1,h2,al3 hP (h' B h1 h2) h1 6,DU P (h' B h1 h2) FU 6⟩
theorem afy(hP:bY P)(fS:fY<=U)(dI:U<=top)(dL:∀n o,n<top->h0.get n=some o->n∈ns)(eH:∀n∈ns,n<U){val:List AV->Option AV}(h:eF X U P<|dE U ns h0 L)(h':eF X U P<|dE U ns h0 L')(cv:P.funcs[g]? =some fn)(cF:fn.body=some body)(dF:(fn.name == "runtime.NumGoroutine")=false)(eX:∀args v,val args=some v->max fn.ntmps args.length<=top/\∀B:aE,ry X P U ns h0 L' B->
 av P B U (Fin P fn.results.toList fun y _=>y=v) ⟨g,dZ args,max fn.ntmps args.length,[.code body],[],none⟩ ⟨h0,U,0,[],[]⟩):eF X U P<|dE U ns h0<|(g,.val val)::L:=by
 refine(show eF X U P (pA (dE U ns h0 L) g<|nH U ns h0 val) from h.cX (fun Tu _ args=>Tt.nH _ _ _ _ Tu args) fun B hB hT Tu hc hl args x s s1 ρ w vs fi r hg hf hm hv=>?_);refine NN hP cv cF dF fS dI dL eH (fun args v e=>?_) r hg hm hv;let⟨q1,q2⟩:=eX args v e;exact⟨q1,fun B' l6 l7=>q2 B'<|sK hP h' (l6.trans hB)<|l7.trans hT⟩
theorem PE(hX:zo X U)(hP:bY P)(fS:fY<=U)(dI:U<=top)(dL:∀n o,n<top->h0.get n=some o->n∈ns)(eH:∀n∈ns,n<U)(jG:∀n o,(n,some o)∈kn->h0.get n=some o)(jJ:∀p∈kn,p.1<top){val:AV->List AV->Option (AV×AV)}(h:eF X U P<|dE U ns h0 L)(h':eF X U P<|dE U ns h0 L')(cv:P.funcs[g]? =some fn)(cF:fn.body=some body)(dF:(fn.name == "runtime.NumGoroutine")=false)(eX:∀v rest y v',val v rest=some (y,v')->max fn.ntmps (rest.length+1)<=top/\∀L,X k v L->∃nx,U<nx/\nx<=top/\(∀p∈L,p.1<nx)/\∀B:aE,ry X P U ns h0 L' B->
 av P B (U+1) (kB X P fn.results.toList k y v') ⟨g,dZ<|.ptr (some (U,0))::rest,max fn.ntmps<|rest.length+1,[.code body],[],none⟩ ⟨gm<|kn++bf L,nx,0,[],[]⟩):eF X U P<|dE U ns h0<|(g,.tok k val)::L:=by
 refine(show eF X U P (pA (dE U ns h0 L) g<|yZ U ns h0 k val) from h.cX (fun Tu _ args=>Tt.yZ _ _ _ _ _ Tu args) fun B hB hT Tu hc hl args x s s1 ρ w vs fi r hg hf hm hv=>?_);refine amY hX hT hP cv cF dF fS dI dL eH jG jJ (fun v rest y v' e=>?_) r hg hm hv;let⟨q1,q2⟩:=eX v rest y v' e;refine⟨q1,fun L1 hL=>?_⟩;let⟨nx,n1,n2,n3,q3⟩:=q2 L1 hL;exact⟨nx,n1,n2,n3,fun B' l6 l7=>q3 B'<|sK hP h' (l6.trans hB)<|l7.trans hT⟩
theorem WE(hX:zo X U)(hP:bY P)(fS:fY<=U)(dI:U<top)(dL:∀n o,n<top->h0.get n=some o->n∈ns)(eH:∀n∈ns,n<U){val:List AV->Option (Option AV×(AV->AV))}(h:eF X U P<|dE U ns h0 L)(h':eF X U P<|dE U ns h0 L')(cv:P.funcs[g]? =some fn)(cF:fn.body=some body)(dF:(fn.name == "runtime.NumGoroutine")=false)(eX:∀args p,val args=some p->max fn.ntmps args.length<=top/\(p.1=none->∀B:aE,ry X P U ns h0 L' B->
 av P B U (Fin P fn.results.toList fun y _=>y=p.2 (.ptr none)) ⟨g,dZ args,max fn.ntmps args.length,[.code body],[],none⟩ ⟨h0,U,0,[],[]⟩)/\
 ∀v,p.1=some v->Am U p.2/\∀B:aE,ry X P U ns h0 L' B->av P B U (kB X P fn.results.toList k (p.2<|.ptr<|some (U,0)) v) ⟨g,dZ args,max fn.ntmps args.length,[.code body],[],none⟩ ⟨h0,U,0,[],[]⟩):
 eF X U P (dE U ns h0<|(g,.new k val)::L):=by
 refine(show eF X U P (pA (dE U ns h0 L) g<|CJ U ns h0 k val) from h.cX (fun Tu _ args=>Tt.CJ _ _ _ _ _ Tu args) fun B hB hT Tu hc hl args x s s1 ρ w vs fi r hg hf hm hv=>?_);refine aeo hX hT hP cv cF dF fS dI dL eH (fun args p e=>?_) r hg hf hm hv;let⟨q1,q2,q3⟩:=eX args p e;refine⟨q1,fun e0 B' l6 l7=>q2 e0 B'<|sK hP h' (l6.trans hB)<|l7.trans hT,fun v e0=>?_⟩;let⟨q4,q5⟩:=q3 v e0;exact⟨q4,fun B' l6 l7=>q5 B'<|sK hP h' (l6.trans hB)<|l7.trans hT⟩
end
end
section
variable {α:Type} {enc:α->List AV} {r:Nat->Nat} {fz:jl} {l:List α} {K n o:Nat} {a v:AV} {cap:cx} {args:List AV}
def dP(enc:α->List AV)(K:Nat)(a:AV)(l:List α):Prop:=∃n o,a= .ab n o l.length/\top<=n/\∀(i:Nat) c,l[i]? =some c->cZ FU n (o+i*K) K=some (enc c)
theorem dP.cN(h:dP enc K a l):a.cN=true:=by obtain⟨n,o,rfl,h1,_⟩:=h;exact aI.2 h1
theorem dP.hi(h:dP enc K a l):a.hi=true:=by have:=h.cN;obtain⟨n,o,rfl,h1,_⟩:=h;exact this
theorem dP.ar{α:Type}{enc:α->List AV}{K:Nat}(he:kA K enc)(l:List α):dP enc K (ar enc l) l:=⟨_,0,rfl,cR _,fun i c hc=>by have:=Ad he hc 0 K ak;rw[T6];rw[Ul,T8, ←he.len c,UM] at this;rw[he.len c] at this;exact this⟩
theorem dP.inj{m:List α}(Fl:∀x y,enc x=enc y->x=y)(h:dP enc K a l)(k:dP enc K a m):l=m:=by
 obtain⟨n,o,rfl,_,h2⟩:=h;let⟨n',o',e,_,k2⟩:=k;injection e with e1 e2 e3
 subst e1;subst e2;refine U2 fun i=>?_;by_cases q:i<l.length
 ·have a1:l[i]? =some l[i]:=TE q;have a2:m[i]? =some (m[i]'ak):=TE ak;have b1:=h2 i _ a1;have b2:=k2 i _ a2;rw[b1] at b2;injection b2 with b2
  rw[a1,a2,Fl _ _ b2]
 ·rw[Uf ak,Uf ak]
theorem dP.len{α:Type}{enc:α->List AV}{K n o len:Nat}{l:List α}(h:dP enc K (.ab n o len) l):l.length=len/\top<=n/\∀(i:Nat) c,l[i]? =some c->cZ FU n (o+i*K) K=some (enc c):=by
 let⟨n',o',e,ht,h3⟩:=h;injection e with e1 e2 e3
 subst e1;subst e2;exact⟨e3.symm,ht,h3⟩
theorem GS{len:Nat}(hl:∀c,(enc c).length=K)(h:dP enc K (.ab n o len) l):cZ FU n o (len*K)=some (l.map enc).flatten\/l=[]:=by
 let⟨h1,_,h3⟩:=h.len;by_cases hn:l=[]
 ·exact .inr hn
 refine .inl ?_;have Fm:0<l.length:=by cases l with|nil=>exact absurd rfl hn|cons _ _=>exact Uu _
 obtain⟨row,fx⟩:∃row,FU n=some row:=by
  have:=h3 0 l[0]<|TE Fm;unfold cZ at this;cases e:FU n with
  |none=>rw[e] at this;cases this
  |some r=>exact⟨r,rfl⟩
 have ay:∀(i:Nat) c,l[i]? =some c->o+i*K+K<=row.length/\(row.drop<|o+i*K).take K=enc c:=by
  intro i c hc;have:=h3 i c hc;unfold cZ at this;rw[fx] at this;simp only at this;cases q:Tw (o+i*K+K) row.length with
  |false=>rw[q] at this;cases this
  |true=>rw[q] at this;injection this with this;exact⟨aI.1 q,this⟩
 have aoo:=(ay (l.length - 1) l[l.length - 1]<|TE ak).1;have hmul:(l.length - 1)*K+K=l.length*K:=by rw[←VK];congr 1;omega
 have hle:o+len*K<=row.length:=by rw[←h1];omega
 unfold cZ;rw[fx];simp only[(aI.2 hle:Tw (o+len*K) row.length=true)];congr 1;have zl:(l.map enc).flatten.length=l.length*K:=by
  have:=vW (K:=K) (l:=l.map enc) fun c hc=>by obtain⟨a,_,rfl⟩:=TI.1 hc;exact hl a
  rw[this,T3]
 refine U2 fun i=>?_;by_cases q:i<l.length*K
 ·rcases Vl K with z|hK
  ·rw[z] at q;omega
  have hdiv:i / K<l.length:=Nat.div_lt_of_lt_mul (by rw[UQ];exact q);have HK:i % K<K:=Vv _ hK;have FV:i / K*K+i % K=i:=by rw[UQ];exact Nat.div_add_mod i K
  let⟨_,h4⟩:=ay (i / K) l[i / K]<|TE hdiv;have h5:=NU (l:=l.map enc) (K:=K) (i:=i / K) (c:=enc l[i / K]) (fun c hc=>by obtain⟨a,_,rfl⟩:=TI.1 hc;exact hl a) (by rw[Uc,TE hdiv];rfl);have h6:(row.drop<|o+i / K*K)[i % K]? =(enc l[i / K])[i % K]? :=by rw[←h4,U4 HK]
  have h7:((l.map enc).flatten.drop<|i / K*K)[i % K]? =(enc l[i / K])[i % K]? :=by rw[←h5,U4 HK]
  rw[Ue] at h6 h7;rw[U4 (by rw[←h1];exact q),Ue,show o+i=o+i / K*K+i % K by omega,h6, ←h7,FV]
 ·rw[Uf (by rw[T4, ←h1];omega),Uf ak]
theorem BZ(hm:(n,nm (l.map enc).flatten,(l.map enc).flatten)∈fz)(hr:∀k,top<=k->r k=k)(hc:(match cap with| .known c=>Tw l.length c| .au _ _=>true| .lost=>false)=true):gE fz r (.slice (some (n,0)) l.length cap)<|ar enc l:=by
 intro ρ fp v zp hv;have:∃b N c,ρ n=some (b,N)/\v= .slice (some ⟨b,0,none⟩) l.length c/\l.length<=c:=by
  cases cap with
  |known c=>simp only[VR] at hv;let⟨b,N,e,hv⟩:=hv;exact⟨b,N,c,e,hv,aI.1 hc⟩
  |au lo e0=>simp only[VR] at hv;let⟨b,N,c,e,hv,_,h,_⟩:=hv;exact⟨b,N,c,e,hv,h⟩
  |lost=>cases hc
 obtain⟨b,N,c,e,rfl,hle⟩:=this;have hk:=zp.2.2 _ hm b N e;unfold ar;simp only[VR];exact .inr ⟨b,0,c,.inr ⟨cR _,fun z=>hk<|(congrArg fp<|hr _<|gb _ _ _).symm.trans z⟩,rfl,fun _=>⟨hle,(EV _).1⟩⟩
theorem B0:gE fz r (.slice none 0<|.known 0)<|ar enc []:=by intro ρ fp v _ hv;simp only[VR] at hv;obtain⟨rfl,_,_⟩:=hv;unfold ar;simp only[VR];exact .inl ⟨cR _,rfl,none,0,rfl,(fun _=>rfl),(fun _=>rfl),fun e=>absurd e (EV _).2⟩
theorem ada:gE fz r (.slice (some (n,o)) 0 cap)<|ar enc []:=by
 intro ρ fp v _ hv;have:∃a c,v= .slice (some a) 0 c:=by
  cases cap<;>simp only[VR] at hv
  ·obtain⟨_,_,_,rfl⟩:=hv;exact⟨_,_,rfl⟩
  ·obtain⟨_,_,_,_,rfl,_⟩:=hv;exact⟨_,_,rfl⟩
  ·obtain⟨_,_,_,_,_,_,rfl⟩:=hv;exact⟨_,_,rfl⟩
 obtain⟨a,c,rfl⟩:=this;unfold ar;simp only[VR];exact .inl ⟨cR _,rfl,some a,c,rfl,(fun e=>by cases e),(fun e=>absurd e (EV _).1),fun _ e=>by cases e⟩
theorem ahk{len:Nat}(ht:top<=n)(hr:∀k,top<=k->r k=k):gE fz r (.ab n o len)<|.ab n o len:=(aZ.ab (hr n ht) hr).z
theorem pa(hr:∀k,top<=k->r k=k):gE fz r (ar enc l)<|ar enc l:=ahk (cR _) hr
theorem Ei(he:kA K enc)(hl:l.length*K<=top)(n:Nat)(hn:n<top){o0:List<|Nat×Option ah}(hm:(n,some<|az enc l)∈o0):
 n<top/\FU (nm (l.map enc).flatten)=some (l.map enc).flatten/\∃N t z,(n,some<|.cells N t z)∈o0/\∀i x,(l.map enc).flatten[i]? =some x->i<N/\cellAt t z i=some x/\x.bM=true/\x.cN=true:=by
 refine⟨hn,Al<|he.all l,_,_,_,hm,fun i x hx=>?_⟩;have hi:=(TZ.1 hx).1;have hc:=TG.1 (he.all l) x<|TY hx;exact⟨hi,by rw[zM (by rw[he.length];exact hl) hi];exact hx,Jv hc,Ea hc⟩
def lz(fz:jl)(r:Nat->Nat):List AV->List AV->Prop
 |[],[]=>True
 |x::l,y::m=>gE fz r x y/\lz fz r l m
 |_,_=>False
theorem lz.length:∀{l m:List AV},lz fz r l m->l.length=m.length
 |[],[],_=>rfl
 |_::_,_::_,h=>by simp[lz.length h.2]
 |[],_::_,h=>by cases h
 |_::_,[],h=>by cases h
theorem lz.aw:∀{l m:List AV} {i:Nat} {x y:AV},lz fz r l m->l[i]? =some x->m[i]? =some y->gE fz r x y
 |x::l,y::m,0,a,b,h,h1,h2=>by simp at h1 h2;subst h1;subst h2;exact h.1
 |x::l,y::m,i+1,a,b,h,h1,h2=>lz.aw h.2 (by simpa using h1) (by simpa using h2)
 |[],[],_,_,_,_,h1,_=>by simp at h1
 |_::_,[],_,_,_,h,_,_=>by cases h
 |[],_::_,_,_,_,h,_,_=>by cases h
theorem dT.cells{l m:List AV}(hl:l.length<=top)(h:lz fz r l m)(h1:m.all AV.bM=true):dT fz r (.cells l.length (Tr.fill l 0 .nil) [])<|.cells m.length (Tr.fill m 0 .nil) []:=by
 have hlen:=h.length;intro ρ fp N o zp k;obtain⟨c,e,rfl,k1,k2,k3⟩:=k;refine⟨c,e,rfl,k1,by omega,fun i hi=>?_⟩;let⟨x,v,a1,a2,a3,a4⟩:=k3 i ak;have hx:l[i]? =some x:=by unfold cellAt at a1;rw[Tr.rR _ _ _ _ ak,if_pos ak,Uk,TE ak] at a1;rw[TE ak];exact a1
 have hy:m[i]? =some m[i]:=TE hi;refine⟨m[i],v,?_,?_,a3,h.aw hx hy ρ fp v zp a4⟩
 ·unfold cellAt;rw[Tr.rR _ _ _ _ ak,if_pos ak,Uk,hy]
 ·exact TG.1 h1 _<|VD hi
open Classical in
def aK(R:List AV->AV->Prop)(args:List AV):Option AV:=if h:∃v,R args v then some h.choose else none
theorem fQ{R:List AV->AV->Prop}(h:aK R args=some v):R args v:=by
 unfold aK at h;split at h
 ·rename_i q;injection h with h;rw[←h];exact q.choose_spec
 ·cases h
theorem eQ{R:List AV->AV->Prop}(hd:∀args v v',R args v->R args v'->v=v')(h:R args v):aK R args=some v:=by unfold aK;have q:∃v,R args v:=⟨v,h⟩;rw[dif_pos q,hd _ _ _ q.choose_spec h]
end
section
variable {ns:List Nat} {v y v':AV} {rest:List AV} {n o:Nat} {S:Type} {f:S->List AV->Option (AV×S)} {enc:S->AV}
def AK(ns:List Nat)(σ:Ren):Ren:=fun m=>if top<=m\/m∈ns then σ m else none
def gP(ns:List Nat)(x:AV):Prop:=∀(σ:Ren) (v:Value),VR σ x v->VR (AK ns σ) x v
theorem afz(ns:List Nat)(σ:Ren):jo σ<|AK ns σ:=fun k x hk e=>by unfold AK;rw[if_pos<|.inl hk];exact e
theorem gP.hi{x:AV}(h:x.cN=true):gP ns x:=fun σ _ k=>AV.wx (afz ns σ) h k
theorem gP.ptr(h:n∈ns):gP ns<|.ptr<|some (n,o):=fun σ v k=>by simp only[VR] at k ⊢;let⟨b,N,e1,e2⟩:=k;exact⟨b,N,by unfold AK;rw[if_pos<|.inr h];exact e1,e2⟩
theorem gP.map(h:n∈ns):gP ns<|.map<|some n:=fun σ v k=>by simp only[VR] at k ⊢;let⟨b,N,e1,e2⟩:=k;exact⟨b,N,by unfold AK;rw[if_pos<|.inr h];exact e1,e2⟩
theorem gP.slice{len:Nat}{cap:cx}(h:n∈ns):gP ns<|.slice (some (n,o)) len cap:=fun σ v k=>by
 cases cap<;>simp only[VR] at k ⊢
 ·let⟨b,N,e1,e2⟩:=k;exact⟨b,N,by unfold AK;rw[if_pos<|.inr h];exact e1,e2⟩
 ·let⟨b,N,c,e1,e2⟩:=k;exact⟨b,N,c,by unfold AK;rw[if_pos<|.inr h];exact e1,e2⟩
 ·let⟨l,b,N,p,c,e1,e2⟩:=k;exact⟨l,b,N,p,c,by unfold AK;rw[if_pos<|.inr h];exact e1,e2⟩
theorem lP.tok{k:Nat}:lP ns<|.tok k v:=fun _ _ _ _=>trivial
theorem lP.cells{cs:List AV}(hl:cs.length<=top)(h:∀c∈cs,gP ns c):lP ns<|.cells cs.length (Tr.fill cs 0 .nil) []:=fun σ N o' k=>by let⟨c,e,r,s,u,f⟩:=k;refine⟨c,e,r,s,u,fun i hi=>?_⟩;let⟨x,v,a,b,d,q⟩:=f i hi;refine⟨x,v,a,b,d,h x ?_ σ v q⟩;have:=zM (l:=cs) (i:=i) hl hi;rw[this] at a;exact TY a
theorem lP.row{α:Type}{enc:α->List AV}{l:List α}(hl:(l.map enc).flatten.length<=top)(h:∀c∈(l.map enc).flatten,gP ns c):lP ns<|az enc l:=lP.cells hl h
def ir(enc:S->AV)(f:S->List AV->Option (AV×S)):AV->List AV->Option (AV×AV):=fun v rest=> @dite _ (∃a,enc a=v) (Classical.propDecidable _) (fun h=>(f h.choose rest).map fun p=>(p.1,enc p.2)) fun _=>none
theorem B1(inj:∀a b,enc a=enc b->a=b){a:S}:ir enc f (enc a) rest=(f a rest).map fun p=>(p.1,enc p.2):=by unfold ir;have h:∃b,enc b=enc a:=⟨a,rfl⟩;rw[dif_pos h,inj _ _ h.choose_spec]
theorem JQ(h:ir enc f v rest=some (y,v')):∃a a',v=enc a/\f a rest=some (y,a')/\v'=enc a':=by
 unfold ir at h;split at h
 ·rename_i q;cases e:f q.choose rest with
  |none=>rw[e] at h;cases h
  |some p=>
   rw[e] at h;injection h with h
   injection h with h1 h2
   refine⟨_,p.2,q.choose_spec.symm,?_,h2.symm⟩;rw[e, ←h1]
 ·cases h
theorem afA{val:AV->List AV->Option (AV×AV)}(h:val v rest=some (y,v'))(h1:rest.all AV.hi=true)(h2:y.hi=true):iZ val v rest=some (y,v'):=by unfold iZ;rw[h1,h];show(match y.hi with|true=>some (y,v')|false=>none)=_;rw[h2]
theorem afB{val:List AV->Option (Option AV×(AV->AV))}{res:AV->AV}{args:List AV}(h:val args=some (some v,res))(h1:args.all AV.hi=true):CK val args=some (some v,res):=by unfold CK;rw[h1,h];rfl
end
section
variable {ρ:Ren} {U:Nat}
abbrev Vw:=List<|Nat×Nat×ah
def gY(L:Vw)(m:Nat):Option Nat:=(L.find? fun p=>Tx p.1 m).map fun p=>p.2.1
def fA(U:Nat)(ρ:Ren)(L:Vw):Ren:=fun m=>if m<U then ρ m else if top<=m then ρ m else match gY L m with
 |some n=>ρ n
 |none=>none
def Lw(L:Vw):List<|Nat×ah:=L.map fun p=>(p.1,p.2.2)
theorem adb{L:Vw}(fn:∀p∈L,∀q∈L,p.1=q.1->p=q){p:Nat×Nat×ah}(hp:p∈L):gY L p.1=some p.2.1:=by
 unfold gY;cases e:L.find? fun q=>Tx q.1 p.1 with
 |none=>exact absurd (Wo.1 e p hp) j0
 |some q=>have h1:=Wp e;have h2:=Wq e;have h3:q.1=p.1:=Ug h2;rw[fn q h1 p hp h3];rfl
theorem ade{L:Vw}{m n:Nat}(h:gY L m=some n):∃p∈L,p.1=m/\p.2.1=n:=by
 unfold gY at h;cases e:L.find? fun q=>Tx q.1 m with
 |none=>rw[e] at h;cases h
 |some q=>rw[e] at h;have h2:=Wq e;refine⟨q,Wp e,Ug h2,?_⟩;injection h
theorem zX{L:Vw}(ht:U<=top){m:Nat}(hm:top<=m):fA U ρ L m=ρ m:=by unfold fA;rw[if_neg ak,if_pos hm]
theorem Ej{L:Vw}{m:Nat}(hm:m<U):fA U ρ L m=ρ m:=by unfold fA;rw[if_pos hm]
theorem Jx{L:Vw}{m:Nat}(h1:U<=m)(h2:m<top)(h3:∀p∈L,p.1≠m):fA U ρ L m=none:=by
 unfold fA;rw[if_neg ak,if_neg ak];cases e:gY L m with
 |none=>rfl
 |some n=>let⟨p,hp,e1,_⟩:=ade e;exact absurd e1<|h3 p hp
end
section
variable {ρ:Ren} {U:Nat} {h:Tr ah} {L:Vw}
structure Be (U:Nat) (ρ:Ren) (h:Tr ah) (L:Vw):Prop where
 nm:∀p∈L,U<=p.1/\p.1<top/\p.2.1<top
 fn:∀p∈L,∀q∈L,p.1=q.1->p=q
 inj:∀p∈L,∀q∈L,p.2.1=q.2.1->p=q
 is:∀p∈L,∃o,h.get p.2.1=some o/\((o.own=true/\p.2.2.own=true/\∀N o',OR ρ N o o'->OR (fA U ρ L) N p.2.2 o')\/∃k v,o= .tok k v/\p.2.2= .tok k v)
def wH(ρ:Ren)(dm:Nat->Nat->Prop)(L:Vw)(x:Nat):Prop:=(∃p∈L,p.2.2.dA=false/\∃N,ρ p.2.1=some (x,N))\/∃p∈L,p.2.2.lB=true/\dm p.2.1 x
theorem Be.xC(V:Be U ρ h L){p:Nat×Nat×ah}(hp:p∈L):fA U ρ L p.1=ρ p.2.1:=by let⟨q1,q2,_⟩:=V.nm p hp;unfold fA;rw[if_neg ak,if_neg ak,adb V.fn hp]
def Fs(B:aE)(ρ:Ren)(h:Tr ah)(w:World)(dm:Nat->Nat->Prop):Prop:=(∀n k v,n<top->h.get n=some (.tok k v)->∃b N,ρ n=some (b,N)/\B.inv k v ρ w b (dm n)/\dm n b/\∀x,dm n x->(x<w.heap.size/\B.lim<=x)/\B.may x/\kG ρ h x/\∀j sh,ρ (hn j x sh)=none)/\∀n m x k v k' v',n<top->m<top->h.get n=some (.tok k v)->h.get m=some (.tok k' v')->n≠m->dm n x->¬dm m x
theorem Lx{B:aE}{w:World}{h0:Tr ah}{ns:List Nat}{kn:List<|Nat×Option ah}{dm:Nat->Nat->Prop}(ht:U<=top)(r:Rel B ρ h w)(T:Fs B ρ h w dm)(dL:∀n o,n<top->h0.get n=some o->n∈ns)(eH:∀n∈ns,n<U)(jG:∀n o,(n,some o)∈kn->h0.get n=some o)(jJ:∀p∈kn,p.1<top)(a3:∀n∈ns,∃o p,h.get n=some o/\h0.get n=some p/\pe U o p=true)(V:Be U ρ h L):Rel (uI B ρ w<|wH ρ dm L) (fA U ρ L) (gm<|kn++bf (Lw L)) w:=by
 have r0:=EW ht r dL eH a3;let⟨t1,t2⟩:=T;have vA:(gH U ρ).le<|fA U ρ L:=by
  intro m x e;unfold gH at e;split at e
  ·rename_i q;rw[Ej q];exact e
  ·unfold gK at e;split at e
   ·rename_i q;rw[zX ht q];exact e
   ·cases e
 have Dk:∀m o,(m,o)∈Lw L->∃p∈L,p.1=m/\p.2.2=o:=fun m o hm=>by
  let⟨p,hp,e⟩:=TI.1 hm;injection e with e1 e2
  exact⟨p,hp,e1,e2⟩
 have cH:∀p∈kn++bf (Lw L),p.1<top:=fun p hp=>by
  rcases TP.1 hp with hp|hp
  ·exact jJ p hp
  ·refine Ox (fun q hq=>?_) p hp;let⟨p,hp,e1,_⟩:=Dk q.1 q.2 hq;rw[←e1];exact(V.nm p hp).2.1
 have aw:∀m o,(gm<|kn++bf (Lw L)).get m=some o->(m∈ns/\h0.get m=some o/\o.nq=true)\/∃p∈L,p.1=m/\p.2.2=o:=fun m o hg=>by
  rcases TP.1 (wc cH hg) with q|q
  ·have q2:=jG m o q;have iN:=dL m o (jJ _ q) q2;let⟨p1,p2,_,c3,c4⟩:=a3 m iN;rw[q2] at c3;cases c3;refine .inl ⟨iN,q2,?_⟩;unfold pe at c4;split at c4<;>first|rfl|cases c4
  ·exact .inr<|Dk m o<|On q
 have uW:∀p∈L,p.2.2.dA=false->∃o,h.get p.2.1=some o/\o.dA=false:=fun p hp e=>by
  obtain⟨o,g1,⟨g2,_⟩|⟨k,v,_,g2⟩⟩:=V.is p hp
  ·exact⟨o,g1,(ah.vY g2).2⟩
  ·rw[g2] at e;cases e
 have sM:∀p∈L,p.2.2.lB=true->∃k v,h.get p.2.1=some (.tok k v)/\p.2.2= .tok k v:=fun p hp e=>by
  obtain⟨o,g1,⟨_,g2,_⟩|⟨k,v,rfl,g2⟩⟩:=V.is p hp
  ·generalize p.2.2=q at e g2;cases q<;>first|(cases e;done)|cases g2
  ·exact⟨k,v,g1,g2⟩
 have ahm:∀p∈L,p.2.2.nq=true->False:=fun p hp e=>by
  obtain⟨o,g1,⟨_,g2,_⟩|⟨k,v,_,g2⟩⟩:=V.is p hp
  ·generalize p.2.2=q at e g2;cases q<;>first|(cases e;done)|cases g2
  ·rw[g2] at e;cases e
 have SA:∀m N x,m∈ns->fA U ρ L m=some (x,N)->x<B.lim/\¬wH ρ dm L x:=fun m N x q1 e=>by
  rw[Ej<|eH m q1] at e;let⟨p1,p2,c2,c3,c4⟩:=a3 m q1;have kJ:m<top:=TJ (eH m q1) ht;let⟨b',N',e1,e2⟩:=r.tk.1.2 m p1 kJ c2<|Jf c4;rw[e] at e1;cases e1;refine⟨e2,?_⟩;rintro (⟨p,hp,ho,M,e3⟩|⟨p,hp,ho,e3⟩)
  ·let⟨o,g1,g2⟩:=uW p hp ho;have:=r.one m p.2.1 p1 o x N M kJ (V.nm p hp).2.2 c2 g1 (.inr g2) e e3;rw[←this,c2] at g1;cases g1;rw[ah.kL<|Jf c4] at g2;cases g2
  ·let⟨k,v,g1,_⟩:=sM p hp ho;let⟨_,_,_,_,_,f⟩:=t1 _ k v (V.nm p hp).2.2 g1;have:=(f x e3).1.2;omega
 have ahn:∀j x sh,ρ (hn j x sh)≠none->¬wH ρ dm L x:=fun j x sh e=>by
  let⟨_,_,_,_,_,_,_,z3,_⟩:=r.fz j x sh e;rintro (⟨p,hp,ho,M,e3⟩|⟨p,hp,ho,e3⟩)
  ·let⟨o,g1,g2⟩:=uW p hp ho;exact z3 p.2.1 o M (V.nm p hp).2.2 g1 g2 e3
  ·let⟨k,v,g1,_⟩:=sM p hp ho;let⟨_,_,_,_,_,f⟩:=t1 _ k v (V.nm p hp).2.2 g1;exact e<|(f x e3).2.2.2 j sh
 refine⟨fun m o hm hg=>?_,fun m n o p x N M hm fC hg lF cV e1 e2=>?_,fun m i es ex left cur hm hg=>?_,fun x hx=>.inl hx,fun i j m es ex left cur iw jr iW iY hi _ hg _=>?_,fun j x sh e=>?_,?_⟩
 ·rcases aw m o hg with⟨q1,q3,q4⟩|⟨p,hp,rfl,rfl⟩
  ·let⟨b',N',o',e1,e2,e3,_⟩:=r0.is m o hm q3;exact⟨b',N',o',vA _ _ e1,e2,e3.mono vA,fun z=>by rw[ah.kL q4] at z;cases z⟩
  ·let⟨o,g1,g2⟩:=V.is p hp;let⟨b',N',o',e1,e2,e3,_⟩:=r.is p.2.1 o (V.nm p hp).2.2 g1;rcases g2 with⟨_,_,g3⟩|⟨k,v,_,g3⟩
   ·exact⟨b',N',o',(V.xC hp).trans e1,e2,g3 _ _ e3,fun z=>.inr<|.inl ⟨p,hp,z,N',e1⟩⟩
   ·rw[g3];exact⟨b',N',o',(V.xC hp).trans e1,e2,trivial,fun z=>by cases z⟩
 ·rcases aw m o hg with⟨q1,q3,q4⟩|⟨p1,jx,rfl,rfl⟩
  ·rcases aw n p lF with⟨z1,z3,z4⟩|⟨p2,fI,rfl,rfl⟩
   ·rcases cV with y|y
    ·rw[ah.kL q4] at y;cases y
    ·rw[ah.kL z4] at y;cases y
   ·rw[V.xC fI] at e2;rcases cV with y|y
    ·rw[ah.kL q4] at y;cases y
    ·exact absurd (.inl ⟨p2,fI,y,M,e2⟩) (SA m N x q1 e1).2
  ·rw[V.xC jx] at e1;rcases aw n p lF with⟨z1,z3,z4⟩|⟨p2,fI,rfl,rfl⟩
   ·rcases cV with y|y
    ·exact absurd (.inl ⟨p1,jx,y,N,e1⟩) (SA n M x z1 e2).2
    ·rw[ah.kL z4] at y;cases y
   ·rw[V.xC fI] at e2;let⟨o1,g1,_⟩:=V.is p1 jx;let⟨o2,f1,_⟩:=V.is p2 fI;have akz:o1.dA=false\/o2.dA=false:=cV.imp (fun y=>by
     let⟨o,k1,k2⟩:=uW p1 jx y;rw[g1] at k1;cases k1;exact k2) (fun y=>by
     let⟨o,k1,k2⟩:=uW p2 fI y;rw[f1] at k1;cases k1;exact k2)
    have:=r.one p1.2.1 p2.2.1 o1 o2 x N M (V.nm p1 jx).2.2 (V.nm p2 fI).2.2 g1 f1 akz e1 e2;rw[V.inj p1 jx p2 fI this]
 ·rcases aw m _ hg with⟨_,_,q4⟩|⟨p,hp,_,e⟩
  ·cases q4
  ·obtain⟨_,_,⟨_,g2,_⟩|⟨k,v,_,g2⟩⟩:=V.is p hp
   ·rw[e] at g2;cases g2
   ·rw[e] at g2;cases g2
 ·rcases aw i _ hg with⟨_,_,q4⟩|⟨p,hp,_,e⟩
  ·cases q4
  ·obtain⟨_,_,⟨_,g2,_⟩|⟨k,v,_,g2⟩⟩:=V.is p hp
   ·rw[e] at g2;cases g2
   ·rw[e] at g2;cases g2
 ·rw[zX ht<|gb _ _ _] at e;let⟨g0,l,c,e',fr,g1,g2,g3,g4⟩:=r0.fz j x sh (by rw[qP ht<|gb _ _ _];exact e);refine⟨.inl e,l,c,e',fr,g1,g2,fun m o N hm hg cL hr=>?_,fun i y hy=>?_⟩
  ·rcases aw m o hg with⟨_,_,q4⟩|⟨p,hp,rfl,rfl⟩
   ·rw[ah.kL q4] at cL;cases cL
   ·rw[V.xC hp] at hr;exact ahn j x sh e<|.inl ⟨p,hp,cL,N,hr⟩
  ·let⟨v',k1,k2,k3⟩:=g4 i y hy;refine⟨v',k1,VR.mono (fun i z q=>?_) _ _ k2,k3⟩;unfold gK at q ⊢;split at q
   ·rename_i hk;rw[if_pos hk];exact vA _ _ q
   ·cases q
 ·let H':Nat->Nat->Prop:=fun m x=>∃p∈L,p.1=m/\dm p.2.1 x;have SC:∀p∈L,H' p.1=dm p.2.1:=fun p hp=>funext fun x=>propext ⟨fun⟨q,hq,e1,e2⟩=>by rw[V.fn q hq p hp e1] at e2;exact e2,fun e=>⟨p,hp,rfl,e⟩⟩;refine⟨⟨r.tk.1.1,fun m o hm hg hf=>?_⟩,H',fun m k' v' hm hg=>?_,fun m n x k' v' MV xw hm fC hg lF cz jw qE=>?_⟩
  ·rcases aw m o hg with⟨q1,q3,q4⟩|⟨p,hp,rfl,rfl⟩
   ·let⟨b',N',o',e1,e2,e3,_⟩:=r0.is m o hm q3;exact⟨b',N',vA _ _ e1,(SA m N' b' q1<|vA _ _ e1).1⟩
   ·exact(ahm p hp hf).elim
  ·rcases aw m _ hg with⟨_,_,q4⟩|⟨p,hp,rfl,e⟩
   ·cases q4
   ·let⟨k,v,g1,g2⟩:=sM p hp (by rw[e];rfl);rw[e] at g2;cases g2;let⟨b,N,f1,f2,f3,f4⟩:=t1 _ _ _ (V.nm p hp).2.2 g1;refine⟨b,N,(V.xC hp).trans f1,?_,by rw[SC p hp];exact f3,fun x hx=>?_⟩
    ·rw[SC p hp];exact B.mono f2 (fun i y hi q=>by rw[zX ht hi];exact q) fun _ _=>rfl
    ·rw[SC p hp] at hx;let⟨c1,c2,c3,c4⟩:=f4 x hx;refine⟨c1,.inr<|.inr ⟨p,hp,by rw[e];rfl,hx⟩,fun n o N fC lF cL hr=>?_,fun j sh=>by rw[zX ht<|gb _ _ _];exact c4 j sh⟩;rcases aw n o lF with⟨_,_,q4⟩|⟨p2,fI,rfl,rfl⟩
     ·rw[ah.kL q4] at cL;cases cL
     ·rw[V.xC fI] at hr;let⟨o2,k1,k2⟩:=uW p2 fI cL;exact c3 p2.2.1 o2 N (V.nm p2 fI).2.2 k1 k2 hr
  ·let⟨p1,jx,y1,z1⟩:=jw;let⟨p2,fI,y2,z2⟩:=qE;rcases aw m _ hg with⟨_,_,q4⟩|⟨q1,MK,e1,e2⟩
   ·cases q4
   ·rcases aw n _ lF with⟨_,_,q4⟩|⟨q2,Iy,e3,e4⟩
    ·cases q4
    ·have:=V.fn p1 jx q1 MK<|y1.trans e1.symm;subst this;have:=V.fn p2 fI q2 Iy<|y2.trans e3.symm;subst this;let⟨k1,v1,g1,_⟩:=sM p1 jx (by rw[e2];rfl);let⟨k2,v2,g2,_⟩:=sM p2 fI (by rw[e4];rfl);exact t2 _ _ x _ _ _ _ (V.nm p1 jx).2.2 (V.nm p2 fI).2.2 g1 g2 (fun q=>cz<|by rw[←y1, ←y2,V.inj p1 jx p2 fI q]) z1 z2
end
theorem KG{U a:Nat}{B:aE}{ρ σ:Ren}{w w':World}{h h4 h':Tr ah}{L:Vw}{L2:List<|Nat×ah}{dm:Nat->Nat->Prop}(r:Rel B ρ h w)(T:Fs B ρ h w dm)(V:Be U ρ h L)(q3:Rel (uI B ρ w<|wH ρ dm L) σ h4 w')(q4:cI (uI B ρ w<|wH ρ dm L) w w')(pt:∀p∈L,σ p.1=ρ p.2.1)(zp:∀m x,top<=m->ρ m=some x->σ m=some x)(h2:∀n q,(n,q)∈L2->∃p∈L,p.2.1=n/\∃o1,h4.get p.1=some o1/\((q.own=true/\p.2.2.own=true/\∀N o',OR σ N o1 o'->OR (cS ρ σ) N q o')\/∃k v v0,o1= .tok k v/\q= .tok k v/\p.2.2= .tok k v0))(h3:∀p∈L,p.2.2.dA=false->∃o1,h4.get p.1=some o1/\o1.dA=false)(hh:∀k,k<top->(∃q,(k,q)∈L2/\h'.get k=some q)\/((∀q∈L,q.2.1≠k)/\h'.get k=h.get k)):
 Ext a a ρ (cS ρ σ)/\jo σ (cS ρ σ)/\Rel B (cS ρ σ) h' w'/\cI B w w':=by
 let⟨t1,t2⟩:=T;have hl:ρ.le<|cS ρ σ:=by
  intro k x e;unfold cS;by_cases hk:top<=k
  ·rw[if_pos hk];exact zp k x hk e
  ·rw[if_neg hk];exact e
 have cH:∀k,k<top->cS ρ σ k=ρ k:=fun k hk=>by unfold cS;rw[if_neg ak]
 have gV:∀k,top<=k->cS ρ σ k=σ k:=fun k hk=>by unfold cS;rw[if_pos hk]
 have uW:∀p∈L,p.2.2.dA=false->∃o,h.get p.2.1=some o/\o.dA=false/\o.own=true:=fun p hp e=>by
  obtain⟨o,g1,⟨g2,_⟩|⟨k,v,_,g2⟩⟩:=V.is p hp
  ·exact⟨o,g1,(ah.vY g2).2,g2⟩
  ·rw[g2] at e;cases e
 have sM:∀p∈L,p.2.2.lB=true->∃k v,h.get p.2.1=some (.tok k v)/\p.2.2= .tok k v:=fun p hp e=>by
  obtain⟨o,g1,⟨_,g2,_⟩|⟨k,v,rfl,g2⟩⟩:=V.is p hp
  ·generalize p.2.2=q at e g2;cases q<;>first|(cases e;done)|cases g2
  ·exact⟨k,v,g1,g2⟩
 have sO:∀x,wH ρ dm L x->B.may x:=fun x hx=>by
  rcases hx with⟨p,hp,ho,N,e⟩|⟨p,hp,ho,e⟩
  ·let⟨o,g1,g2,_⟩:=uW p hp ho;let⟨x1,N1,_,e1,_,_,e3⟩:=r.is p.2.1 o (V.nm p hp).2.2 g1;rw[e] at e1;cases e1;exact e3 g2
  ·let⟨k,v,g1,_⟩:=sM p hp ho;let⟨_,_,_,_,_,f⟩:=t1 _ k v (V.nm p hp).2.2 g1;exact(f x e).2.1
 have yQ:cI B w w':=⟨q4.os,q4.tape,q4.output,q4.size,fun x hx hm=>q4.block x hx fun z=>by
  rcases z with z|z
  ·have z:w.heap.size<=x:=z;omega
  ·exact hm<|sO x z⟩
 have nr:∀x,x<w.heap.size->¬wH ρ dm L x->w'.heap[x]? =w.heap[x]? :=fun x hx hm=>q4.block x hx fun z=>by
  rcases z with z|z
  ·have z:w.heap.size<=x:=z;omega
  ·exact hm z
 have cs:∀m o,m<top->h'.get m=some o->(∃p∈L,p.2.1=m/\∃o1,h4.get p.1=some o1/\((o.own=true/\p.2.2.own=true/\∀N o',OR σ N o1 o'->OR (cS ρ σ) N o o')\/∃k v v0,o1= .tok k v/\o= .tok k v/\p.2.2= .tok k v0))\/((∀q∈L,q.2.1≠m)/\h.get m=some o):=fun m o hm ho=>by
  rcases hh m hm with⟨q,e1,e2⟩|⟨e1,e2⟩
  ·rw[ho] at e2;cases e2;exact .inl<|h2 m o e1
  ·exact .inr ⟨e1,by rw[←e2];exact ho⟩
 have dM:∀m o,m<top->h'.get m=some o->∃q,h.get m=some q/\(o.dA=false->q.dA=false):=fun m o hm ho=>by
  rcases cs m o hm ho with⟨p,hp,rfl,o1,g1,⟨y1,y2,_⟩|⟨k,v,v0,_,y1,_⟩⟩|⟨_,e⟩
  ·let⟨q,g1,g2,_⟩:=uW p hp (ah.vY y2).2;exact⟨q,g1,fun _=>g2⟩
  ·let⟨q,g1,_⟩:=V.is p hp;exact⟨q,g1,fun z=>by rw[y1] at z;cases z⟩
  ·exact⟨o,e,id⟩
 have other:∀m o x M,m<top->(∀q∈L,q.2.1≠m)->h.get m=some o->ρ m=some (x,M)->¬wH ρ dm L x:=fun m o x M hm cz ho e=>by
  rintro (⟨p,hp,jx,N,e1⟩|⟨p,hp,jx,e1⟩)
  ·let⟨q,g1,g2,_⟩:=uW p hp jx;exact cz p hp<|r.one p.2.1 m q o x N M (V.nm p hp).2.2 hm g1 ho (.inl g2) e1 e
  ·let⟨k,v,g1,_⟩:=sM p hp jx;let⟨_,_,_,_,_,f⟩:=t1 _ k v (V.nm p hp).2.2 g1;let⟨⟨_,c1⟩,_,c3,_⟩:=f x e1;cases cL:o.dA with
   |false=>exact c3 m o M hm ho cL e
   |true=>
    by_cases hf:o.nq=true
    ·let⟨b',N',k1,k2⟩:=r.tk.1.2 m o hm ho hf;rw[e] at k1;cases k1;omega
    ·cases o<;>first|(cases cL;done)|(exact hf rfl)|skip
     rename_i k' xw;let⟨b',N',k1,_,k3,_⟩:=t1 m k' xw hm ho;rw[e] at k1;cases k1;exact t2 _ m x k v k' xw (V.nm p hp).2.2 hm g1 ho (cz p hp) e1 k3
 have tB:∀x,kG ρ h x->kG (cS ρ σ) h' x:=fun x hn m o M hm ho cL e=>by let⟨q,g1,g2⟩:=dM m o hm ho;rw[cH m hm] at e;exact hn m q M hm g1 (g2 cL) e
 have AJ:∀x,w.heap.size<=x->kG (cS ρ σ) h' x:=fun x hx m o M hm ho cL e=>by let⟨q,g1,_⟩:=dM m o hm ho;rw[cH m hm] at e;let⟨b1,N1,o1,e1,e2,_⟩:=r.is m q hm g1;rw[e] at e1;cases e1;have:=gC e2;omega
 have aiI:∀p∈L,∀o,h.get p.2.1=some o->o.own=true\/o.lB=true:=fun p hp o ho=>by
  obtain⟨q,g1,⟨g2,_⟩|⟨k,v,g2,_⟩⟩:=V.is p hp
  ·rw[ho] at g1;cases g1;exact .inl g2
  ·rw[ho,g2] at g1;cases g1;exact .inr rfl
 have Yr:∀i,h.get i=some .iT->∀q∈L,q.2.1≠i:=fun i e q hq z=>by rcases aiI q hq .iT (by rw[z];exact e) with y|y<;>cases y
 let⟨⟨_,_⟩,Hq,s1,s2⟩:=q3.tk;refine⟨⟨hl,fun k hk _=>cH k hk⟩,fun k x hk e=>by rw[gV k hk];exact e,⟨fun m o hm ho=>?_,fun m m2 o p x M M2 hm da ho hp cV e1 e2=>?_,fun m i es ex left cur hm ho=>?_,fun x hx=>r.size x<|TO q4.size hx,fun i j m es ex left cur iw jr iW iY hi hj ho hp=>?_,fun j x sh e=>?_,?_⟩,yQ⟩
 ·rcases cs m o hm ho with⟨p,hp,rfl,o1,g1,⟨y1,y2,g2⟩|⟨k,v,v0,y1,y2,y3⟩⟩|⟨cz,e⟩
  ·let⟨b1,N1,o',e1,e2,e3,_⟩:=q3.is p.1 o1 (V.nm p hp).2.1 g1;rw[pt p hp] at e1;exact⟨b1,N1,o',(cH _ hm).trans e1,e2,g2 _ _ e3,fun _=>sO b1<|.inl ⟨p,hp,(ah.vY y2).2,N1,e1⟩⟩
  ·let⟨b1,N1,o',e1,e2,e3,_⟩:=q3.is p.1 o1 (V.nm p hp).2.1 g1;rw[pt p hp] at e1;rw[y2];exact⟨b1,N1,o',(cH _ hm).trans e1,e2,trivial,fun z=>by cases z⟩
  ·let⟨b1,N1,o1,e1,e2,e3,e4⟩:=r.is m o hm e;exact⟨b1,N1,o1,(cH m hm).trans e1,(nr b1 (gC e2)<|other m o b1 N1 hm cz e e1).trans e2,e3.mono hl,e4⟩
 ·rw[cH m hm] at e1;rw[cH m2 da] at e2;let⟨o1,a1,a2⟩:=dM m o hm ho;let⟨o2,a3,a4⟩:=dM m2 p da hp;exact r.one m m2 o1 o2 x M M2 hm da a1 a3 (cV.imp a2 a4) e1 e2
 ·rcases cs m _ hm ho with⟨p,hp,_,_,_,⟨y1,_⟩|⟨k,v,v0,_,y2,_⟩⟩|⟨cz,e⟩
  ·cases y1
  ·cases y2
  ·let⟨hi,fE,b1,N1,bm,M,l,bu,seen,u1,u2,u3,u4,u5⟩:=r.iter m i es ex left cur hm e;have u:ni ρ w' m i es ex left cur:=⟨b1,N1,bm,M,l,bu,seen,u1,u2,(nr b1 (gC u3)<|other m _ b1 N1 hm cz e u1).trans u3,(nr bm (gC u4)<|other i _ bm M hi (Yr i fE) fE u2).trans u4,u5⟩;refine⟨hi,?_,u.mono hl⟩;rcases hh i hi with⟨q,f1,f2⟩|⟨_,f2⟩
   ·let⟨p,hp,f3,_⟩:=h2 i q f1;exact absurd f3<|Yr i fE p hp
   ·rw[f2];exact fE
 ·rcases cs i _ hi ho with⟨p,hp,_,_,_,⟨y1,_⟩|⟨k,v,v0,_,y2,_⟩⟩|⟨_,e⟩
  ·cases y1
  ·cases y2
  ·rcases cs j _ hj hp with⟨p,hp,_,_,_,⟨y1,_⟩|⟨k,v,v0,_,y2,_⟩⟩|⟨_,e'⟩
   ·cases y1
   ·cases y2
   ·exact r.lone i j m es ex left cur iw jr iW iY hi hj e e'
 ·rw[gV _<|gb _ _ _] at e;let⟨g0,l,c,e',fr,g1,g2,gn,g4⟩:=q3.fz j x sh e;have nj:∀i y,l[i]? =some y->∃v,c[sh+i]? =some v/\VR (gK<|cS ρ σ) y v/\y.bM=true:=fun i y hy=>by
   let⟨v,k1,k2,k3⟩:=g4 i y hy;refine⟨v,k1,VR.mono (fun z u q=>?_) _ _ k2,k3⟩;unfold gK at q ⊢;split at q
   ·rename_i hk;rw[if_pos hk,gV z hk];exact q
   ·cases q
  by_cases q:ρ (hn j x sh)≠none
  ·let⟨z0,l',c',e2,kR,z1,z2,z3,_⟩:=r.fz j x sh q;exact⟨z0,l,c,e',fr,g1,g2,tB x z3,nj⟩
  ·rcases g0.resolve_left q with z|z
   ·have z:w.heap.size<=x:=z;exact⟨.inr<|r.size x z,l,c,e',fr,g1,g2,AJ x z,nj⟩
   ·refine⟨.inr<|sO x z,l,c,e',fr,g1,g2,?_,nj⟩;rcases z with⟨p,hp,ho,N,e1⟩|⟨p,hp,ho,e1⟩
    ·let⟨o1,f1,f2⟩:=h3 p hp ho;exact absurd ((pt p hp).trans e1)<|gn p.1 o1 N (V.nm p hp).2.1 f1 f2
    ·let⟨k,v,k1,_⟩:=sM p hp ho;let⟨_,_,_,_,_,f⟩:=t1 _ k v (V.nm p hp).2.2 k1;exact tB x (f x e1).2.2.1
 ·let H':Nat->Nat->Prop:=fun m x=>(∃p∈L,p.2.1=m/\Hq p.1 x)\/((∀p∈L,p.2.1≠m)/\dm m x);have FY:∀p∈L,H' p.2.1=Hq p.1:=fun p hp=>funext fun x=>propext ⟨fun z=>by
   rcases z with⟨q,hq,e1,e2⟩|⟨e1,_⟩
   ·rw[V.inj q hq p hp e1] at e2;exact e2
   ·exact absurd rfl<|e1 p hp,fun z=>.inl ⟨p,hp,rfl,z⟩⟩
  have FZ:∀m,(∀p∈L,p.2.1≠m)->H' m=dm m:=fun m hm=>funext fun x=>propext ⟨fun z=>by
   rcases z with⟨q,hq,e1,_⟩|⟨_,z⟩
   ·exact absurd e1 (hm q hq)
   ·exact z,fun z=>.inr ⟨hm,z⟩⟩
  have Dl:∀p∈L,∀k v,h4.get p.1=some (.tok k v)->∀x,Hq p.1 x->x<w'.heap.size/\(w.heap.size<=x\/wH ρ dm L x)/\∀j sh,σ (hn j x sh)=none:=fun p hp k v hg x hx=>by let⟨_,_,_,_,_,f⟩:=s1 p.1 k v (V.nm p hp).2.1 hg;let⟨⟨c1,_⟩,c2,_,c4⟩:=f x hx;exact⟨c1,c2,c4⟩
  have Ly:∀m k v,m<top->h'.get m=some (.tok k v)->(∃p∈L,p.2.1=m/\h4.get p.1=some (.tok k v)/\∃v0,p.2.2= .tok k v0)\/((∀q∈L,q.2.1≠m)/\h.get m=some (.tok k v)):=fun m k v hm ho=>by
   rcases cs m _ hm ho with⟨p,hp,e0,o1,g1,⟨y1,_⟩|⟨k',v',v0,y1,y2,y3⟩⟩|z
   ·cases y1
   ·cases y2;exact .inl ⟨p,hp,e0,by rw[g1,y1],v0,y3⟩
   ·exact .inr z
  have sep:∀m k v,m<top->(∀q∈L,q.2.1≠m)->h.get m=some (.tok k v)->∀x,dm m x->(w.heap.size<=x\/wH ρ dm L x)->False:=fun m k1 v1 hm cz hg x hx z=>by
   let⟨_,_,_,_,_,f4⟩:=t1 m k1 v1 hm hg;rcases z with z|⟨p,hp,Dn,N,e1⟩|⟨p,hp,Dn,e1⟩
   ·have:=(f4 x hx).1.1;omega
   ·let⟨q,g1,g2,_⟩:=uW p hp Dn;exact(f4 x hx).2.2.1 p.2.1 q N (V.nm p hp).2.2 g1 g2 e1
   ·let⟨k,v,g1,_⟩:=sM p hp Dn;exact t2 _ m x k v k1 v1 (V.nm p hp).2.2 hm g1 hg (cz p hp) e1 hx
  refine⟨⟨TO r.tk.1.1 q4.size,fun m o hm ho hf=>?_⟩,H',fun m k1 v1 hm ho=>?_,fun m m2 x k1 v1 k2 v2 hm da ho hp cz z1 z2=>?_⟩
  ·rcases cs m o hm ho with⟨p,hp,_,_,_,⟨y1,_⟩|⟨k,v,v0,_,y2,_⟩⟩|⟨_,e⟩
   ·cases o<;>first|(cases hf;done)|cases y1
   ·rw[y2] at hf;cases hf
   ·let⟨b1,N1,e1,e2⟩:=r.tk.1.2 m o hm e hf;exact⟨b1,N1,(cH m hm).trans e1,e2⟩
  ·rcases Ly m k1 v1 hm ho with⟨p,hp,rfl,hg,v0,Z3⟩|⟨cz,hg⟩
   ·let⟨b1,N1,f1,f2,f3,f4⟩:=s1 p.1 k1 v1 (V.nm p hp).2.1 hg;have hpt:p.2.2.lB=true:=by rw[Z3];rfl
    refine⟨b1,N1,(cH _ hm).trans<|(pt p hp).symm.trans f1,?_,by rw[FY p hp];exact f3,fun x hx=>?_⟩
    ·rw[FY p hp];exact B.mono f2 (fun i y hi q=>by rw[gV i hi];exact q) fun _ _=>rfl
    ·rw[FY p hp] at hx;let⟨c1,c2,c4⟩:=Dl p hp k1 v1 hg x hx;let⟨⟨_,akA⟩,_,c3,_⟩:=f4 x hx;refine⟨⟨c1,akA⟩,?_,?_,fun j sh=>by rw[gV _<|gb _ _ _];exact c4 j sh⟩
     ·rcases c2 with y|y
      ·exact r.size x y
      ·exact sO x y
     ·rcases c2 with y|y
      ·exact AJ x y
      ·rcases y with⟨p2,fI,SD,N2,e2⟩|⟨p2,fI,SD,e2⟩
       ·let⟨o1,k1',k2'⟩:=h3 p2 fI SD;exact absurd ((pt p2 fI).trans e2)<|c3 p2.1 o1 N2 (V.nm p2 fI).2.1 k1' k2'
       ·let⟨k,v,g1,_⟩:=sM p2 fI SD;let⟨_,_,_,_,_,f⟩:=t1 _ k v (V.nm p2 fI).2.2 g1;exact tB x (f x e2).2.2.1
   ·let⟨b1,N1,f1,f2,f3,f4⟩:=t1 m k1 v1 hm hg;have Y7:∀x,dm m x->¬wH ρ dm L x:=fun x hx z=>by
     rcases z with⟨p,hp,Dn,N,e1⟩|⟨p,hp,Dn,e1⟩
     ·let⟨q,g1,g2,_⟩:=uW p hp Dn;exact(f4 x hx).2.2.1 p.2.1 q N (V.nm p hp).2.2 g1 g2 e1
     ·let⟨k,v,g1,_⟩:=sM p hp Dn;exact t2 _ m x k v k1 v1 (V.nm p hp).2.2 hm g1 hg (cz p hp) e1 hx
    refine⟨b1,N1,(cH m hm).trans f1,?_,by rw[FZ m cz];exact f3,fun x hx=>?_⟩
    ·rw[FZ m cz];exact B.mono f2 (fun i y _ e=>hl _ _ e) fun x hx=>nr x (f4 x hx).1.1<|Y7 x hx
    ·rw[FZ m cz] at hx;let⟨⟨c1,cl⟩,c2,c3,c4⟩:=f4 x hx;refine⟨⟨TJ c1 q4.size,cl⟩,c2,tB x c3,fun j sh=>Ut fun z=>?_⟩;rw[gV _<|gb _ _ _] at z;rcases(q3.fz j x sh z).1 with y|y
     ·exact y<|c4 j sh
     ·rcases y with y|y
      ·have y:w.heap.size<=x:=y;omega
      ·exact Y7 x hx y
  ·rcases Ly m k1 v1 hm ho with⟨p1,jx,rfl,hg,v0,Z3⟩|⟨Ft,hg⟩
   ·rw[FY p1 jx] at z1;let⟨c1,c2,_⟩:=Dl p1 jx k1 v1 hg x z1;rcases Ly m2 k2 v2 da hp with⟨p2,fI,rfl,Dp,v02,akB⟩|⟨Mj,Dp⟩
    ·rw[FY p2 fI] at z2;exact s2 p1.1 p2.1 x k1 v1 k2 v2 (V.nm p1 jx).2.1 (V.nm p2 fI).2.1 hg Dp (fun q=>cz<|by rw[V.fn p1 jx p2 fI q]) z1 z2
    ·rw[FZ m2 Mj] at z2;exact sep m2 k2 v2 da Mj Dp x z2 c2
   ·rw[FZ m Ft] at z1;rcases Ly m2 k2 v2 da hp with⟨p2,fI,rfl,Dp,v02,akB⟩|⟨Mj,Dp⟩
    ·rw[FY p2 fI] at z2;exact sep m k1 v1 hm Ft hg x z1 (Dl p2 fI k2 v2 Dp x z2).2.1
    ·rw[FZ m2 Mj] at z2;exact t2 m m2 x k1 v1 k2 v2 hm da hg Dp cz z1 z2
section
variable {ρ σ:Ren} {β:Type} {o:ah} {v:AV} {s1 s:AS} {o':Obj} {c:Prop} {N:Nat}
structure Cb where
 fn:FuncId
 nt:Nat
 ps:List Tmp
 a:Code
 b:Code
 s1:Nat
 s2:Nat
structure fT where
 ret:Bool
 v1:AV
 v2:AV
 bU:Option Code
section
def An:ah->Option AV
 | .cells 1 t z=>cellAt t z 0
 |_=>none
def fe(v:AV):ah:=.cells 1 (Tr.fill [v] 0 .nil) []
def aiJ(p:Option Code):LoopState:=match p with
 |none=>.ready
 |some _=>.done
def Cb.loop(K:Cb)(bU:Option Code)(c1 c2 df:Nat):ah:=.loop (aiJ bU) bU K.fn (aA [(K.s1,.ptr<|some (c1,0)),(K.s2,.ptr<|some (c2,0))]) K.nt K.ps K.a K.b df
def EY(v:Option AV):Option Nat:=match v with
 |some (.ptr (some (c,0)))=>some c
 |_=>none
open Classical in
def iX(c:Prop)(m:M β):M β:=aG (decide c) m
structure Ys where
 fn:FuncId
 t:Tr AV
 nt:Nat
 ps:List Tmp
 a:Code
 b:Code
 df:Nat
def Lz:ah->Option Ys
 | .loop .ready none fn t nt ps a b df=>some ⟨fn,t,nt,ps,a,b,df⟩
 |_=>none
def HZ(K:Cb)(val:AV->AV->AV->Option fT)(x:AV)(L:Nat):M AV:=
 (bA L).bind fun o=>aB (Lz o) fun q=>
 iX (q.fn=K.fn/\q.nt=K.nt/\q.ps=K.ps/\q.a=K.a/\q.b=K.b) <|
 aB (EY<|q.t.get K.s1) fun c1=>aB (EY<|q.t.get K.s2) fun c2=>
 iX (L≠q.df/\L≠c1/\L≠c2/\q.df≠c1/\q.df≠c2/\c1≠c2) <|
 (bA q.df).bind fun od=>iX (od= .defs) <| (bA c1).bind fun o1=>(bA c2).bind fun o2=>
 aB (An o1) fun v1=>aB (An o2) fun v2=>aB (val x v1 v2) fun p=>
 iX (v1.hi=true/\v2.hi=true/\p.v1.hi=true/\p.v2.hi=true/\p.v1.bM=true/\p.v2.bM=true/\v1.bM=true/\v2.bM=true) <|
 (bS L<|some<|K.loop p.bU c1 c2 q.df).bind fun _=>(bS q.df<|some .defs).bind fun _=>(bS c1<|some<|fe p.v1).bind fun _=>(bS c2<|some<|fe p.v2).bind fun _=>M.pure<|.bool p.ret
def rL(K:Cb)(val:AV->AV->AV->Option fT)(U:Nat)(ns:List Nat)(h0:Tr ah):aJ->List AV->M AV:=fun _ args=>match args with
 |[x,.yield L]=>aG x.hi <| (gj U h0 ns).bind fun _=>HZ K val x L
 |_=>fail
end
open Classical in
theorem xX{m:M β}{b:β}(h:iX c m s= .ok b s1):c/\m s= .ok b s1:=by unfold iX at h;let⟨h1,h2⟩:=dv h;exact⟨of_decide_eq_true h1,h2⟩
theorem xZ{m:M β}(h:c):iX c m=m:=by unfold iX;simp only[h,decide_true];rfl
theorem Tt.iX{β:Type}{c:Prop}{m:M β}(h:Tt m):Tt<|iX c m:=Tt.aG fun _=>h
theorem Tt.rL(K:Cb)(val:AV->AV->AV->Option fT)(U:Nat)(ns:List Nat)(h0:Tr ah)(Tu:aJ)(args:List AV):Tt<|rL K val U ns h0 Tu args:=by
 unfold Rn.rL;split
 ·refine Tt.aG fun _=>Tt.bind (Tt.gj U h0 ns) fun _=>?_;unfold HZ;refine Tt.bind (Tt.bA _) fun o=>Tt.aB fun q _=>Tt.iX <| Tt.aB fun c1 _=>Tt.aB fun c2 _=>Tt.iX <| Tt.bind (Tt.bA _) fun _=>Tt.iX <| Tt.bind (Tt.bA _) fun _=>Tt.bind (Tt.bA _) fun _=>Tt.aB fun _ _=>Tt.aB fun _ _=>Tt.aB fun _ _=>Tt.iX <| Tt.bind (Tt.bS _ _) fun _=>Tt.bind (Tt.bS _ _) fun _=>Tt.bind (Tt.bS _ _) fun _=>Tt.bind (Tt.bS _ _) fun _=>Tt.pure _
 ·exact Tt.fail
theorem adf{q:Ys}(h:Lz o=some q):o= .loop .ready none q.fn q.t q.nt q.ps q.a q.b q.df:=by
 unfold Lz at h;split at h
 ·injection h with h;subst h;rfl
 ·cases h
theorem amg{v:Option AV}{c:Nat}(h:EY v=some c):v=some (.ptr<|some (c,0)):=by
 unfold EY at h;split at h
 ·injection h with h;subst h;rfl
 ·cases h
theorem Gy(h:An o=some v):∃t z,o= .cells 1 t z/\cellAt t z 0=some v:=by
 unfold An at h;split at h
 ·exact⟨_,_,rfl,h⟩
 ·cases h
def sP(K:Cb)(U:Nat)(P:Program)(rs:List ResultVar)(p:fT):=Fin P rs fun y s'=>y= .bool p.ret/\s'.h.get U=some (K.loop p.bU (U+2) (U+3)<|U+1)/\s'.h.get (U+1)=some .defs/\s'.h.get (U+2)=some (fe p.v1)/\s'.h.get (U+3)=some (fe p.v2)
def KJ(K:Cb)(U:Nat)(v1 v2:AV):List<|Nat×ah:=[(U,K.loop none (U+2) (U+3)<|U+1),(U+1,.defs),(U+2,fe v1),(U+3,fe v2)]
theorem GU(hb:An o=some v)(hv:v.hi=true)(h1:v.bM=true)(hr:jo ρ σ)(h:OR ρ N o o'):OR σ N (fe v) o':=by
 obtain⟨t,z,rfl,hc⟩:=Gy hb;obtain⟨c,e,rfl,h2,h3,h4⟩:=h;let⟨x,v',a1,a2,a3,a4⟩:=h4 0 ak;rw[hc] at a1;cases a1;refine⟨c,e,rfl,h2,h3,fun i hi=>?_⟩;obtain rfl:i=0:=by omega
 exact⟨v,v',by rfl,h1,a3,AV.ou hr hv a4⟩
theorem xT(v:AV):An (fe v)=some v:=rfl
theorem PF{K:Cb}{st:LoopState}{bU:Option Code}{t:Tr AV}{c1 c2 df d1 d2 dg:Nat}(ht1:K.s1<top)(FI:K.s2<top)(h1:t.get K.s1=some (.ptr<|some (c1,0)))(h2:t.get K.s2=some (.ptr<|some (c2,0)))(e1:∀x,ρ c1=some x->σ d1=some x)(e2:∀x,ρ c2=some x->σ d2=some x)(e3:∀x,ρ df=some x->σ dg=some x)(h:OR ρ N (.loop st bU K.fn t K.nt K.ps K.a K.b df) o'):OR σ N (.loop st bU K.fn (aA [(K.s1,.ptr<|some (d1,0)),(K.s2,.ptr<|some (d2,0))]) K.nt K.ps K.a K.b dg) o':=by
 obtain⟨a,b,M,rfl,h3,h4,h5,h6⟩:=h;refine⟨a,b,M,rfl,⟨h3.1,fun i x hx=>?_⟩,h4,e3 _ h5,h6⟩;have hm:=D5 (fun p hp=>by
  rcases Ty.1 hp with rfl|hp
  ·exact ht1
  ·rcases Ty.1 hp with rfl|hp
   ·exact FI
   ·cases hp) hx
 rcases Ty.1 hm with hm|hm
 ·cases hm;have:=h3.2 _ _ h1;simp only[VR] at this ⊢;let⟨b',N',q1,q2⟩:=this;exact⟨b',N',e1 _ q1,q2⟩
 ·rcases Ty.1 hm with hm|hm
  ·cases hm;have:=h3.2 _ _ h2;simp only[VR] at this ⊢;let⟨b',N',q1,q2⟩:=this;exact⟨b',N',e2 _ q1,q2⟩
  ·cases hm
theorem afC{P:Program}{B:aE}{f U:Nat}{ns:List Nat}{h0:Tr ah}{kn:List<|Nat×Option ah}{K:Cb}{val:AV->AV->AV->Option fT}{fn:Func}{body:Code}{w:World}(hP:bY P)(cv:P.funcs[f]? =some fn)(cF:fn.body=some body)(dF:(fn.name == "runtime.NumGoroutine")=false)(fS:fY<=U)(dI:U+4<=top)(kf:K.s1<top)(kP:K.s2<top)(nz:K.s1≠K.s2)(dL:∀n o,n<top->h0.get n=some o->n∈ns)(eH:∀n∈ns,n<U)(jG:∀n o,(n,some o)∈kn->h0.get n=some o)(jJ:∀p∈kn,p.1<top)(eX:∀x v1 v2 p,val x v1 v2=some p->max fn.ntmps 2<=top/\∀B':aE,B'.F=B.F->B'.inv=B.inv->
 av P B' (U+4) (sP K U P fn.results.toList p) ⟨f,dZ [x,.yield U],max fn.ntmps 2,[.code body],[],none⟩ ⟨gm<|kn++bf (KJ K U v1 v2),U+4,0,[],[]⟩){Tu:aJ}{args:List AV}{x:AV}{vs:Array Value}(r:Rel B ρ s.h w)(hg:gG ρ)(h:rL K val U ns h0 Tu args s= .ok x s1)(hv:ax ρ args vs.toList):jj P ((callFunc f vs).run P w)<|ky B ρ s s1 w x:=by
 unfold rL at h;split at h
 ·rename_i x0 L;let⟨gV,h1⟩:=dv h;let⟨u,s2,h2,h3⟩:=M.aQ h1;let⟨a1,a2,a3⟩:=vU h2;unfold HZ at h3;let⟨o,s3,k1,h3⟩:=M.aQ h3;let⟨q,hq,h3⟩:=bz h3;let⟨⟨f1,f2,f3,f4,f5⟩,h3⟩:=xX h3;let⟨c1,j8,h3⟩:=bz h3;let⟨c2,xu,h3⟩:=bz h3;let⟨⟨n1,n2,n3,n4,n5,n6⟩,h3⟩:=xX h3;let⟨od,s4,k2,h3⟩:=M.aQ h3;let⟨hod,h3⟩:=xX h3;let⟨o1,s5,k3,h3⟩:=M.aQ h3;let⟨o2,s6,k4,h3⟩:=M.aQ h3;let⟨v1,FP,h3⟩:=bz h3;let⟨v2,th,h3⟩:=bz h3;let⟨p,hp,h3⟩:=bz h3;let⟨⟨g1,g2,g3,g4,g5,g6,g7,g8⟩,h3⟩:=xX h3;let⟨u1,t1,w1,h3⟩:=M.aQ h3;let⟨u2,t2,w2,h3⟩:=M.aQ h3;let⟨u3,t3,w3,h3⟩:=M.aQ h3;let⟨u4,t4,w4,h3⟩:=M.aQ h3;obtain⟨rfl,rfl⟩:=bG h3;let⟨r1,r2,r3,r4⟩:=gr k1;let⟨r5,r6,r7,r8⟩:=gr k2;let⟨r9,Z4,Z5,r12⟩:=gr k3;let⟨r13,Z6,r15,r16⟩:=gr k4;let⟨x1,x2,_,x4,x5⟩:=jP w1;let⟨y1,y2,_,y4,y5⟩:=jP w2;let⟨z1,z2,_,z4,z5⟩:=jP w3;let⟨m1,m2,_,m4,m5⟩:=jP w4;have Z7:=adf hq;have p1:=amg j8;have p2:=amg xu;let⟨qfn,qt,qnt,qps,qa,qb,df⟩:=q;simp only at f1 f2 f3 f4 f5 n1 n2 n3 n4 n5 n6 Z7 p1 p2 j8 xu k2 k3 k4 w1 w2 w3 w4 y1 y2 y4 r5 r6 r7 r8 x4 hq;subst f1;subst f2;subst f3;subst f4;subst f5;subst hod;rw[Z7,a1] at r2;rw[r3,a1] at r6;rw[r7,r3,a1] at Z4;rw[Z5,r7,r3,a1] at Z6;let⟨tz1,zz1,bo1,_⟩:=Gy FP;let⟨tz2,zz2,bo2,_⟩:=Gy th;let V:Vw:=[(U,L,K.loop none (U+2) (U+3)<|U+1),(U+1,df,.defs),(U+2,c1,fe v1),(U+3,c2,fe v2)];have mem:∀q∈V,q=(U,L,K.loop none (U+2) (U+3)<|U+1)\/q=(U+1,df,.defs)\/q=(U+2,c1,fe v1)\/q=(U+3,c2,fe v2):=fun q hq=>by simpa[V] using hq
  have e0:∀gU:Ren,fA U gU V U=gU L:=fun gU=>by
   unfold fA;rw[if_neg ak,if_neg ak];show(match gY V U with|some n=>gU n|none=>none)=_;have:gY V U=some L:=by simp[gY,V]
   rw[this]
  have e1:∀gU:Ren,fA U gU V (U+1)=gU df:=fun gU=>by
   unfold fA;rw[if_neg ak,if_neg ak];show(match gY V (U+1) with|some n=>gU n|none=>none)=_;have:gY V (U+1)=some df:=by simp[gY,V]
   rw[this]
  have e2:∀gU:Ren,fA U gU V (U+2)=gU c1:=fun gU=>by
   unfold fA;rw[if_neg ak,if_neg ak];show(match gY V (U+2) with|some n=>gU n|none=>none)=_;have:gY V (U+2)=some c1:=by simp[gY,V]
   rw[this]
  have e3:∀gU:Ren,fA U gU V (U+3)=gU c2:=fun gU=>by
   unfold fA;rw[if_neg ak,if_neg ak];show(match gY V (U+3) with|some n=>gU n|none=>none)=_;have:gY V (U+3)=some c2:=by simp[gY,V]
   rw[this]
  have hi:jo ρ<|fA U ρ V:=fun m x hm e=>by rw[zX ak hm];exact e
  have hV:Be U ρ s.h V:=by
   refine⟨fun q hq=>?_,fun q hq q' eN e=>?_,fun q hq q' eN e=>?_,fun q hq=>?_⟩
   ·rcases mem q hq with rfl|rfl|rfl|rfl
    ·exact⟨Tz _,by omega,x2⟩
    ·exact⟨by omega,by omega,y2⟩
    ·exact⟨by omega,by omega,z2⟩
    ·exact⟨by omega,by omega,m2⟩
   ·rcases mem q hq with rfl|rfl|rfl|rfl<;>rcases mem q' eN with rfl|rfl|rfl|rfl<;>first|rfl|(simp only at e;omega)
   ·rcases mem q hq with rfl|rfl|rfl|rfl<;>rcases mem q' eN with rfl|rfl|rfl|rfl<;>first|rfl|(simp only at e;omega)
   ·rcases mem q hq with rfl|rfl|rfl|rfl
    ·exact⟨_,r2,.inl ⟨rfl,rfl,fun N o' hO=>PF kf kP p1 p2 (fun x e=>by rw[e2];exact e) (fun x e=>by rw[e3];exact e) (fun x e=>by rw[e1];exact e) hO⟩⟩
    ·exact⟨_,r6,.inl ⟨rfl,rfl,fun N o' hO=>hO⟩⟩
    ·exact⟨_,Z4,.inl ⟨by rw[bo1];rfl,rfl,fun N o' hO=>GU FP g1 g7 hi hO⟩⟩
    ·exact⟨_,Z6,.inl ⟨by rw[bo2];rfl,rfl,fun N o' hO=>GU th g2 g8 hi hO⟩⟩
  let⟨_,dm,T⟩:=r.tk;have T:Fs B ρ s.h w dm:=T;have oy:=Lx ak r T dL eH jG jJ (fun n hn=>by let⟨_,o,p,h⟩:=a3 n hn;exact⟨o,p,h⟩) hV;let⟨d1,d2⟩:=eX _ _ _ _ hp;have fi:bH (⟨gm<|kn++bf (KJ K U v1 v2),U+4,0,[],[]⟩:AS):=⟨TN _,dI⟩;have kO:ax (fA U ρ V) [x0,.yield U] vs.toList:=by simp only[ax,VR] at hv ⊢;let⟨y0,ys,q1,q2,y3,FJ,q3,⟨b',N',q4,q5⟩,q6⟩:=hv;exact⟨y0,ys,q1,AV.ou hi gV q2,y3,FJ,q3,⟨b',N',(e0 ρ).trans q4,q5⟩,q6⟩
  have bQ:=av.G7 (B:=uI B ρ w<|wH ρ dm V) (s:=⟨gm<|kn++bf (KJ K U v1 v2),U+4,0,[],[]⟩) (args:=[x0,.yield U]) (vs:=vs) hP cv cF d1 (d2 _ rfl rfl) fi oy (fun g iV=>by
   let⟨N,e⟩:=hg g iV;exact⟨N,by rw[Ej<|TJ iV fS];exact e⟩) (fun m hm kJ=>by
   have hm:U+4<=m:=hm;exact Jx ak kJ fun q hq=>by rcases mem q hq with rfl|rfl|rfl|rfl<;>(show _≠m;simp only;omega)) kO
  rw[tT cv cF dF];show Calls P f vs w _;refine bQ.mono fun e w'=>?_;rintro ⟨Dq,x',s7,rfl,⟨rfl,j1,j2,j3,j4⟩,_,σ,i0,Dr,i1,i2,i3⟩;have sV:∀q∈V,σ q.1=ρ q.2.1:=fun q hq=>by
   rcases mem q hq with rfl|rfl|rfl|rfl
   ·exact(i0 U ak ak).trans<|e0 ρ
   ·exact(i0 (U+1) ak ak).trans<|e1 ρ
   ·exact(i0 (U+2) ak ak).trans<|e2 ρ
   ·exact(i0 (U+3) ak ak).trans<|e3 ρ
  have rM:jo σ<|cS ρ σ:=fun k x hk e=>by unfold cS;rw[if_pos hk];exact e
  have RB:∀k,k<top->cS ρ σ k=ρ k:=fun k hk=>by unfold cS;rw[if_neg ak]
  have V0:(U,L,K.loop none (U+2) (U+3)<|U+1)∈V:=by simp[V]
  have V1:(U+1,df,ah.defs)∈V:=by simp[V]
  have V2:(U+2,c1,fe v1)∈V:=by simp[V]
  have V3:(U+3,c2,fe v2)∈V:=by simp[V]
  have F0:σ (U+1)=ρ df:=sV _ V1;have s2':σ (U+2)=ρ c1:=sV _ V2;have s3':σ (U+3)=ρ c2:=sV _ V3;have gt:∀(k c d:Nat),(aA [(K.s1,AV.ptr<|some (c,0)),(K.s2,.ptr<|some (d,0))]).get K.s1=some (.ptr<|some (c,0))/\(aA [(K.s1,AV.ptr<|some (c,0)),(K.s2,.ptr<|some (d,0))]).get K.s2=some (.ptr<|some (d,0)):=fun k c d=>by
   constructor
   ·show(((Tr.nil:Tr AV).put K.s2 _).put K.s1 _).get K.s1=_;rw[Tr.mh _ _ _ _ kf,if_pos rfl]
   ·show(((Tr.nil:Tr AV).put K.s2 _).put K.s1 _).get K.s2=_;rw[Tr.mh _ _ _ _ kf,if_neg fun e=>nz e.symm,Tr.mh _ _ _ _ kP,if_pos rfl]
  let⟨b1,b2,b3,b4⟩:=KG (a:=s.nx) (L2:=[(L,K.loop p.bU c1 c2 df),(df,.defs),(c1,fe p.v1),(c2,fe p.v2)]) (h':=s1.h) r T hV i2 i3 sV (fun m z hm q=>Dr m z hm<|hi m z hm q) (fun n q hm=>by
   rcases Ty.1 hm with hm|hm
   ·cases hm;exact⟨_,V0,rfl,_,j1,.inl ⟨rfl,rfl,fun N o' hO=>PF kf kP (gt 0 _ _).1 (gt 0 _ _).2 (fun x e=>by rw[RB c1 z2, ←s2'];exact e) (fun x e=>by rw[RB c2 m2, ←s3'];exact e) (fun x e=>by rw[RB df y2, ←F0];exact e) hO⟩⟩
   rcases Ty.1 hm with hm|hm
   ·cases hm;exact⟨_,V1,rfl,_,j2,.inl ⟨rfl,rfl,fun N o' hO=>hO⟩⟩
   rcases Ty.1 hm with hm|hm
   ·cases hm;exact⟨_,V2,rfl,_,j3,.inl ⟨rfl,rfl,fun N o' hO=>GU (xT _) g3 g5 rM hO⟩⟩
   rcases Ty.1 hm with hm|hm
   ·cases hm;exact⟨_,V3,rfl,_,j4,.inl ⟨rfl,rfl,fun N o' hO=>GU (xT _) g4 g6 rM hO⟩⟩
   cases hm) (fun q hq _=>by
   rcases mem q hq with rfl|rfl|rfl|rfl
   ·exact⟨_,j1,rfl⟩
   ·exact⟨_,j2,rfl⟩
   ·exact⟨_,j3,rfl⟩
   ·exact⟨_,j4,rfl⟩) (fun k hk=>by
   have IK:s1.h=(((s.h.put L<|some<|K.loop p.bU c1 c2 df).put df<|some .defs).put c1<|some<|fe p.v1).put c2 (some<|fe p.v2):=by rw[m4,z4,y4,x4,r15,Z5,r7,r3,a1]
   rw[IK,Tr.dy _ _ _ _ m2 hk,Tr.dy _ _ _ _ z2 hk,Tr.dy _ _ _ _ y2 hk,Tr.dy _ _ _ _ x2 hk];by_cases q4:k=c2
   ·subst q4;exact .inl ⟨_,by simp,if_pos rfl⟩
   rw[if_neg q4];by_cases q3:k=c1
   ·subst q3;exact .inl ⟨_,by simp,if_pos rfl⟩
   rw[if_neg q3];by_cases q2:k=df
   ·subst q2;exact .inl ⟨_,by simp,if_pos rfl⟩
   rw[if_neg q2];by_cases q1:k=L
   ·subst q1;exact .inl ⟨_,by simp,if_pos rfl⟩
   rw[if_neg q1];exact .inr ⟨fun q hq=>by rcases mem q hq with rfl|rfl|rfl|rfl<;>(intro e;exact absurd e.symm<|by assumption),rfl⟩)
  refine⟨Dq,rfl,cS ρ σ,?_,AV.ou rM rfl i1,b3,b4⟩;have cM:s1.nx=s.nx:=by rw[m5,z5,y5,x5,r16,r12,r8,r4,a2]
  rw[cM];exact b1
 ·cases h
end
section
variable {r:Nat->Nat} {n U g df c2 c1:Nat} {s:AS} {K:Cb} {ns:List Nat} {h0:Tr ah} {P:Program}
theorem aiK(h:s.mark=0):aU n s=s:=by let⟨hh,nx,mark,rd,wr⟩:=s;have h:mark=0:=h;subst h;rfl
theorem am1{U:Nat}{h0:Tr ah}:∀{ns:List Nat} {s s1:AS} {u:Unit},s.mark=0->gj U h0 ns s= .ok u s1->s1=s
 |[],s,s1,u,_,h=>(bG (show M.pure () s= .ok u s1 from h)).2
 |m::ns,s,s1,u,hm,h=>by let⟨o,s2,h1,h2⟩:=M.aQ (show((bA m).bind fun o=>aB (h0.get m) fun p=>aG (pe U o p) <| gj U h0 ns) s= .ok u s1 from h);obtain⟨a1,a2,rfl⟩:=Pr h1;rw[if_neg ak] at h2;let⟨p,_,h3⟩:=bz h2;let⟨_,h4⟩:=dv h3;exact am1 hm h4
theorem LB{o:Option ah}{p:ah}(hm:s.mark=0)(h1:n<s.nx)(h2:n<top)(h3:s.h.get n=some p)(h4:p.dA=false):bS n o s= .ok () ⟨s.h.put n o,s.nx,s.mark,s.rd,s.wr⟩:=by rw[P2 h1 h2 h3 h4,if_neg ak]
structure Mk (K:Cb) (s:AS) (L df c1 c2:Nat) (v1 v2:AV):Prop where
 mark:s.mark=0
 nx:s.nx<=top
 lt:L<s.nx/\df<s.nx/\c1<s.nx/\c2<s.nx
 ne:L≠df/\L≠c1/\L≠c2/\df≠c1/\df≠c2/\c1≠c2
 loop:∃t,s.h.get L=some (.loop .ready none K.fn t K.nt K.ps K.a K.b df)/\t.get K.s1=some (.ptr<|some (c1,0))/\t.get K.s2=some (.ptr<|some (c2,0))
 df:s.h.get df=some .defs
 b1:∃o,s.h.get c1=some o/\An o=some v1
 b2:∃o,s.h.get c2=some o/\An o=some v2
def okB(v:AV):Prop:=v.hi=true/\v.bM=true
def M3(K:Cb)(s:AS)(L df c1 c2:Nat)(p:fT):AS:=⟨(((s.h.put L<|some<|K.loop p.bU c1 c2 df).put df<|some .defs).put c1<|some<|fe p.v1).put c2<|some<|fe p.v2,s.nx,s.mark,s.rd,s.wr⟩
theorem PG{F:Nat->Option (List AV)}{sp:Sp}{val:AV->AV->AV->Option fT}(h:sp g=some (rL K val U ns h0)){x v1 v2:AV}{L:Nat}{p:fT}(hx:x.hi=true)(hk:nu U h0 ns s=true)(I:Mk K s L df c1 c2 v1 v2)(hv:val x v1 v2=some p)(o1:okB v1)(o2:okB v2)(o3:okB p.v1)(o4:okB p.v2):
 ba P sp F (n+1) (.fn g) [x,.yield L] s= .ok (.bool p.ret) (M3 K s L df c1 c2 p):=by
 show jv P sp g (ba P sp F n) [x,.yield L] s=_;rw[p6 h];show(aG x.hi <| (gj U h0 ns).bind fun _=>HZ K val x L) s=_;have hc:=yr hk;rw[am1 I.mark hc] at hc;rw[hx,dR,M.bO hc];let⟨t,l1,l2,l3⟩:=I.loop;let⟨q1,q2,q3⟩:=I.b1;let⟨r1,r2,r3⟩:=I.b2;let⟨n1,n2,n3,n4,n5,n6⟩:=I.ne;let⟨t1,t2,t3,t4⟩:=I.lt;have rd:∀(m:Nat) (o:ah),m<s.nx->s.h.get m=some o->bA m s= .ok o s:=fun m o hm ho=>by have:=mo ((blt_eq _ _).mpr hm) ho;rw[aiK I.mark] at this;exact this
 have tt:=I.nx;let⟨tz1,zz1,e1,_⟩:=Gy q3;let⟨tz2,zz2,e2,_⟩:=Gy r3;unfold HZ;rw[M.bO<|rd _ _ t1 l1];rw[show Lz (.loop .ready none K.fn t K.nt K.ps K.a K.b df)=some ⟨K.fn,t,K.nt,K.ps,K.a,K.b,df⟩ from rfl,bW];rw[xZ (show K.fn=K.fn/\K.nt=K.nt/\K.ps=K.ps/\K.a=K.a/\K.b=K.b from⟨rfl,rfl,rfl,rfl,rfl⟩)];simp only;rw[l2,l3,show EY (some<|.ptr<|some (c1,0))=some c1 from rfl,show EY (some<|.ptr<|some (c2,0))=some c2 from rfl,bW,bW,xZ ⟨n1,n2,n3,n4,n5,n6⟩,M.bO<|rd _ _ t2 I.df,xZ rfl,M.bO<|rd _ _ t3 q2,M.bO<|rd _ _ t4 r2,q3,r3,bW,bW,hv,bW,xZ ⟨o1.1,o2.1,o3.1,o4.1,o3.2,o4.2,o1.2,o2.2⟩];have g1:∀(h:Tr ah) (m k:Nat) (o:Option ah) (p:ah),m<top->k<top->m≠k->h.get k=some p->(h.put m o).get k=some p:=fun h m k o p hm hk cz e=>by rw[Tr.dy _ _ _ _ hm hk,if_neg<|Ne.symm cz];exact e
 rw[M.bO<|LB I.mark t1 ak l1 rfl];rw[M.bO<|LB (s:=⟨s.h.put L<|some<|K.loop p.bU c1 c2 df,s.nx,s.mark,s.rd,s.wr⟩) I.mark t2 ak (g1 _ _ _ _ _ ak ak n1 I.df) rfl];rw[M.bO<|LB (s:=⟨(s.h.put L<|some<|K.loop p.bU c1 c2 df).put df<|some .defs,s.nx,s.mark,s.rd,s.wr⟩) I.mark t3 ak (g1 _ _ _ _ _ ak ak n4<|g1 _ _ _ _ _ ak ak n2 q2) (by rw[e1];rfl)];rw[M.bO<|LB (s:=⟨((s.h.put L<|some<|K.loop p.bU c1 c2 df).put df<|some .defs).put c1<|some<|fe p.v1,s.nx,s.mark,s.rd,s.wr⟩) I.mark t4 ak (g1 _ _ _ _ _ ak ak n6<|g1 _ _ _ _ _ ak ak n5<|g1 _ _ _ _ _ ak ak n3 r2) (by rw[e2];rfl)];rfl
theorem XP{X:TX}{kn:List<|Nat×Option ah}{L L':bV}{fn:Func}{body:Code}(hP:bY P)(fS:fY<=U)(dI:U+4<=top)(kf:K.s1<top)(kP:K.s2<top)(nz:K.s1≠K.s2)(dL:∀n o,n<top->h0.get n=some o->n∈ns)(eH:∀n∈ns,n<U)(jG:∀n o,(n,some o)∈kn->h0.get n=some o)(jJ:∀p∈kn,p.1<top){val:AV->AV->AV->Option fT}(h:eF X U P<|dE U ns h0 L)(h':eF X U P<|dE U ns h0 L')(cv:P.funcs[g]? =some fn)(cF:fn.body=some body)(dF:(fn.name == "runtime.NumGoroutine")=false)(eX:∀x v1 v2 p,val x v1 v2=some p->max fn.ntmps 2<=top/\∀B:aE,ry X P U ns h0 L' B->
 av P B (U+4) (sP K U P fn.results.toList p) ⟨g,dZ [x,.yield U],max fn.ntmps 2,[.code body],[],none⟩ ⟨gm<|kn++bf (KJ K U v1 v2),U+4,0,[],[]⟩):eF X U P<|dE U ns h0<|(g,.raw<|rL K val)::L:=by
 refine(show eF X U P (pA (dE U ns h0 L) g<|rL K val U ns h0) from h.cX (fun Tu _ args=>Tt.rL _ _ _ _ _ Tu args) fun B hB hT Tu hc hl args x s s1 ρ w vs fi r hg hf hm hv=>?_);refine afC hP cv cF dF fS dI kf kP nz dL eH jG jJ (fun x v1 v2 p e=>?_) r hg hm hv;let⟨q1,q2⟩:=eX x v1 v2 p e;exact⟨q1,fun B' l6 l7=>q2 B'<|sK hP h' (l6.trans hB)<|l7.trans hT⟩
theorem aep{p:Option Code}(kf:K.s1<top)(kP:K.s2<top)(nz:K.s1≠K.s2)(e1:r c1=c1)(e2:r c2=c2)(e3:r df=df):lh r (K.loop p c1 c2 df)<|K.loop p c1 c2 df:=by
 intro ρ N o h;have gt:(aA [(K.s1,AV.ptr<|some (c1,0)),(K.s2,.ptr<|some (c2,0))]).get K.s1=some (.ptr<|some (c1,0))/\(aA [(K.s1,AV.ptr<|some (c1,0)),(K.s2,.ptr<|some (c2,0))]).get K.s2=some (.ptr<|some (c2,0)):=by
  constructor
  ·show(((Tr.nil:Tr AV).put K.s2 _).put K.s1 _).get K.s1=_;rw[Tr.mh _ _ _ _ kf,if_pos rfl]
  ·show(((Tr.nil:Tr AV).put K.s2 _).put K.s1 _).get K.s2=_;rw[Tr.mh _ _ _ _ kf,if_neg fun e=>nz e.symm,Tr.mh _ _ _ _ kP,if_pos rfl]
 exact PF kf kP gt.1 gt.2 (fun x e=>by rw[e1];exact e) (fun x e=>by rw[e2];exact e) (fun x e=>by rw[e3];exact e) h
theorem WJ{v:AV}(h:okB v)(hr:∀k,top<=k->r k=k):lh r (fe v)<|fe v:=by intro ρ N o k;exact GU (xT v) h.1 h.2 (fun m x hm e=>by rw[hr m hm];exact e) k
theorem aZ.yield(e:r n=n):aZ r (.yield n)<|.yield n:=by intro ρ v h;simp only[VR] at h ⊢;let⟨b,N,h1,h2⟩:=h;exact⟨b,N,by rw[e];exact h1,h2⟩
theorem aeq:lh r .defs .defs:=fun ρ N o k=>k
end
section
variable {U g:Nat} {ns:List Nat} {h0:Tr ah} {P:Program} {ρ:Ren} {s:AS} {kn:List<|Nat×Option ah} {fn:Func} {body:Code}
def fM(d s:List<|Int×Int):List<|Int×Int:=s.foldl (fun d p=>gf d p.1 p.2) d
theorem WK:∀{a b:List<|Int×Int},cJ a=cJ b->a=b
 |[],[],_=>rfl
 |[],_::_,h=>by cases h
 |_::_,[],h=>by cases h
 |(x,y)::a,(z,u)::b,h=>by have h:(AV.int .i64 x,AV.int .i64 y)::cJ a=(.int .i64 z,.int .i64 u)::cJ b:=h;simp only[TQ,Prod.mk.injEq,AV.int.injEq,true_and] at h;rw[h.1.1,h.1.2,WK h.2]
open Classical in
def Ae(o:ah):Option<|List<|Int×Int:=if h:∃m,o=bE m then some h.choose else none
theorem ajd{o:ah}{m:List<|Int×Int}(h:Ae o=some m):o=bE m:=by
 unfold Ae at h;split at h
 ·rename_i q;injection h with h;rw[←h];exact q.choose_spec
 ·cases h
theorem ajg(m:List<|Int×Int):Ae (bE m)=some m:=by
 unfold Ae;have q:∃m',bE m=bE m':=⟨m,rfl⟩;rw[dif_pos q];have e:=q.choose_spec;have e:ah.lN (cJ m)= .lN (cJ q.choose):=e;injection e with e
 exact congrArg some (WK e).symm
def xD(U:Nat)(ns:List Nat)(h0:Tr ah):aJ->List AV->M AV:=fun _ args=>match args with
 |[.map (some a),.map (some b)]=>(gj U h0 ns).bind fun _=>iX (a≠b) <| (bA a).bind fun o1=>(bA b).bind fun o2=>
  aB (Ae o1) fun m1=>aB (Ae o2) fun m2=>iX ((m1.map (·.1)).Nodup/\(m2.map (·.1)).Nodup) <|
  (bS a<|some<|bE<|fM m1 m2).bind fun _=>(bS b<|some<|bE m2).bind fun _=>M.pure<|.tuple []
 |_=>fail
theorem Tt.xD(U:Nat)(ns:List Nat)(h0:Tr ah)(Tu:aJ)(args:List AV):Tt<|xD U ns h0 Tu args:=by
 unfold Rn.xD;split
 ·refine Tt.bind (Tt.gj U h0 ns) fun _=>Tt.iX <| Tt.bind (Tt.bA _) fun _=>Tt.bind (Tt.bA _) fun _=>Tt.aB fun _ _=>Tt.aB fun _ _=>Tt.iX <| Tt.bind (Tt.bS _ _) fun _=>Tt.bind (Tt.bS _ _) fun _=>Tt.pure _
 ·exact Tt.fail
def RC(U:Nat)(P:Program)(rs:List ResultVar)(m1 m2:List<|Int×Int):=Fin P rs fun y s'=>y= .tuple []/\s'.h.get U=some (bE<|fM m1 m2)/\s'.h.get (U+1)=some (bE m2)
theorem we{σ:Ren}{N:Nat}{o':Obj}{m:List<|Int×Int}(h:OR ρ N (bE m) o'):OR σ N (bE m) o':=by
 obtain⟨l,bu,rfl,h1,h2,l',h3,h4⟩:=h;refine⟨l,bu,rfl,h1,h2,l',h3,?_⟩;have:∀(m:List<|Int×Int) (l:List MapEntry),eA ρ (cJ m) l->eA σ (cJ m) l:=by
  intro m;induction m with
  |nil=>intro l h;simpa only[cJ,U5,eA] using h
  |cons p m ih=>intro l h;have h:eA ρ ((.int .i64 p.1,.int .i64 p.2)::cJ m) l:=h;show eA σ ((.int .i64 p.1,.int .i64 p.2)::cJ m) l;simp only[eA,VR] at h ⊢;let⟨e,l',h1,h2,h3,h4⟩:=h;exact⟨e,l',h1,h2,h3,ih l' h4⟩
 exact this m l' h4
theorem afD{B:aE}{f:Nat}{w:World}{s1:AS}(hP:bY P)(cv:P.funcs[f]? =some fn)(cF:fn.body=some body)(dF:(fn.name == "runtime.NumGoroutine")=false)(fS:fY<=U)(dI:U+2<=top)(dL:∀n o,n<top->h0.get n=some o->n∈ns)(eH:∀n∈ns,n<U)(jG:∀n o,(n,some o)∈kn->h0.get n=some o)(jJ:∀p∈kn,p.1<top)(eX:∀m1 m2:List<|Int×Int,(m1.map (·.1)).Nodup->(m2.map (·.1)).Nodup->max fn.ntmps 2<=top/\∀B':aE,B'.F=B.F->B'.inv=B.inv->
 av P B' (U+2) (RC U P fn.results.toList m1 m2) ⟨f,dZ [.map<|some U,.map<|some<|U+1],max fn.ntmps 2,[.code body],[],none⟩ ⟨gm<|kn++bf [(U,bE m1),(U+1,bE m2)],U+2,0,[],[]⟩){Tu:aJ}{args:List AV}{x:AV}{vs:Array Value}(r:Rel B ρ s.h w)(hg:gG ρ)(h:xD U ns h0 Tu args s= .ok x s1)(hv:ax ρ args vs.toList):jj P ((callFunc f vs).run P w)<|ky B ρ s s1 w x:=by
 unfold xD at h;split at h
 ·rename_i n1 n2;let⟨u,s2,h2,h3⟩:=M.aQ h;let⟨a1,a2,a3⟩:=vU h2;let⟨cz,h3⟩:=xX h3;let⟨o1,s3,k1,h3⟩:=M.aQ h3;let⟨o2,s4,k2,h3⟩:=M.aQ h3;let⟨m1,Ds,h3⟩:=bz h3;let⟨m2,da,h3⟩:=bz h3;let⟨⟨nd1,nd2⟩,h3⟩:=xX h3;let⟨u1,t1,w1,h3⟩:=M.aQ h3;let⟨u2,t2,w2,h3⟩:=M.aQ h3;obtain⟨rfl,rfl⟩:=bG h3;let⟨r1,r2,r3,r4⟩:=gr k1;let⟨r5,r6,r7,r8⟩:=gr k2;let⟨x1,x2,_,x4,x5⟩:=jP w1;let⟨y1,y2,_,y4,y5⟩:=jP w2;rw[ajd Ds,a1] at r2;rw[ajd da,r3,a1] at r6;let V:Vw:=[(U,n1,bE m1),(U+1,n2,bE m2)];have mem:∀q∈V,q=(U,n1,bE m1)\/q=(U+1,n2,bE m2):=fun q hq=>by simpa[V] using hq
  have e0:∀gU:Ren,fA U gU V U=gU n1:=fun gU=>by
   unfold fA;rw[if_neg ak,if_neg ak];have:gY V U=some n1:=by simp[gY,V]
   rw[this]
  have e1:∀gU:Ren,fA U gU V (U+1)=gU n2:=fun gU=>by
   unfold fA;rw[if_neg ak,if_neg ak];have:gY V (U+1)=some n2:=by simp[gY,V]
   rw[this]
  have hi:jo ρ<|fA U ρ V:=fun m x hm e=>by rw[zX ak hm];exact e
  have hV:Be U ρ s.h V:=by
   refine⟨fun q hq=>?_,fun q hq q' eN e=>?_,fun q hq q' eN e=>?_,fun q hq=>?_⟩
   ·rcases mem q hq with rfl|rfl
    ·exact⟨Tz _,by omega,x2⟩
    ·exact⟨by omega,by omega,y2⟩
   ·rcases mem q hq with rfl|rfl<;>rcases mem q' eN with rfl|rfl<;>first|rfl|(simp only at e;omega)
   ·rcases mem q hq with rfl|rfl<;>rcases mem q' eN with rfl|rfl<;>first|rfl|(simp only at e;omega)
   ·rcases mem q hq with rfl|rfl
    ·exact⟨_,r2,.inl ⟨rfl,rfl,fun N o' hO=>we hO⟩⟩
    ·exact⟨_,r6,.inl ⟨rfl,rfl,fun N o' hO=>we hO⟩⟩
  let⟨_,dm,T⟩:=r.tk;have T:Fs B ρ s.h w dm:=T;have oy:=Lx ak r T dL eH jG jJ (fun n hn=>by let⟨_,o,p,h⟩:=a3 n hn;exact⟨o,p,h⟩) hV;let⟨d1,d2⟩:=eX m1 m2 nd1 nd2;have fi:bH (⟨gm<|kn++bf [(U,bE m1),(U+1,bE m2)],U+2,0,[],[]⟩:AS):=⟨TN _,dI⟩;have kO:ax (fA U ρ V) [.map<|some U,.map<|some<|U+1] vs.toList:=by simp only[ax,VR] at hv ⊢;let⟨y0,ys,q1,⟨b',N',q2,Sk⟩,y3,FJ,q3,⟨b'',N'',q4,q5⟩,q6⟩:=hv;exact⟨y0,ys,q1,⟨b',N',(e0 ρ).trans q2,Sk⟩,y3,FJ,q3,⟨b'',N'',(e1 ρ).trans q4,q5⟩,q6⟩
  have bQ:=av.G7 (B:=uI B ρ w<|wH ρ dm V) (s:=⟨gm<|kn++bf [(U,bE m1),(U+1,bE m2)],U+2,0,[],[]⟩) (args:=[.map<|some U,.map<|some<|U+1]) (vs:=vs) hP cv cF d1 (d2 _ rfl rfl) fi oy (fun g iV=>by
   let⟨N,e⟩:=hg g iV;exact⟨N,by rw[Ej<|TJ iV fS];exact e⟩) (fun m hm kJ=>by
   have hm:U+2<=m:=hm;exact Jx ak kJ fun q hq=>by rcases mem q hq with rfl|rfl<;>(show _≠m;simp only;omega)) kO
  rw[tT cv cF dF];show Calls P f vs w _;refine bQ.mono fun e w'=>?_;rintro ⟨Dq,x',s7,rfl,⟨rfl,j1,j2⟩,_,σ,i0,Dr,i1,i2,i3⟩;have sV:∀q∈V,σ q.1=ρ q.2.1:=fun q hq=>by
   rcases mem q hq with rfl|rfl
   ·exact(i0 U ak ak).trans<|e0 ρ
   ·exact(i0 (U+1) ak ak).trans<|e1 ρ
  have rM:jo σ<|cS ρ σ:=fun k x hk e=>by unfold cS;rw[if_pos hk];exact e
  have V0:(U,n1,bE m1)∈V:=by simp[V]
  have V1:(U+1,n2,bE m2)∈V:=by simp[V]
  let⟨b1,b2,b3,b4⟩:=KG (a:=s.nx) (L2:=[(n1,bE<|fM m1 m2),(n2,bE m2)]) (h':=s1.h) r T hV i2 i3 sV (fun m z hm q=>Dr m z hm<|hi m z hm q) (fun n q hm=>by
   rcases Ty.1 hm with hm|hm
   ·cases hm;exact⟨_,V0,rfl,_,j1,.inl ⟨rfl,rfl,fun N o' hO=>we hO⟩⟩
   rcases Ty.1 hm with hm|hm
   ·cases hm;exact⟨_,V1,rfl,_,j2,.inl ⟨rfl,rfl,fun N o' hO=>we hO⟩⟩
   cases hm) (fun q hq _=>by
   rcases mem q hq with rfl|rfl
   ·exact⟨_,j1,rfl⟩
   ·exact⟨_,j2,rfl⟩) (fun k hk=>by
   have IK:s1.h=(s.h.put n1<|some<|bE<|fM m1 m2).put n2 (some<|bE m2):=by rw[y4,x4,r7,r3,a1]
   rw[IK,Tr.dy _ _ _ _ y2 hk,Tr.dy _ _ _ _ x2 hk];by_cases q2:k=n2
   ·subst q2;exact .inl ⟨_,by simp,if_pos rfl⟩
   rw[if_neg q2];by_cases q1:k=n1
   ·subst q1;exact .inl ⟨_,by simp,if_pos rfl⟩
   rw[if_neg q1];exact .inr ⟨fun q hq=>by rcases mem q hq with rfl|rfl<;>(intro e;exact absurd e.symm<|by assumption),rfl⟩)
  refine⟨Dq,rfl,cS ρ σ,?_,AV.ou rM rfl i1,b3,b4⟩;have cM:s1.nx=s.nx:=by rw[y5,x5,r8,r4,a2]
  rw[cM];exact b1
 ·cases h
theorem aho{X:TX}{L L':bV}(hP:bY P)(fS:fY<=U)(dI:U+2<=top)(dL:∀n o,n<top->h0.get n=some o->n∈ns)(eH:∀n∈ns,n<U)(jG:∀n o,(n,some o)∈kn->h0.get n=some o)(jJ:∀p∈kn,p.1<top)(h:eF X U P<|dE U ns h0 L)(h':eF X U P<|dE U ns h0 L')(cv:P.funcs[g]? =some fn)(cF:fn.body=some body)(dF:(fn.name == "runtime.NumGoroutine")=false)(eX:∀m1 m2:List<|Int×Int,(m1.map (·.1)).Nodup->(m2.map (·.1)).Nodup->max fn.ntmps 2<=top/\∀B:aE,ry X P U ns h0 L' B->
 av P B (U+2) (RC U P fn.results.toList m1 m2) ⟨g,dZ [.map<|some U,.map<|some<|U+1],max fn.ntmps 2,[.code body],[],none⟩ ⟨gm<|kn++bf [(U,bE m1),(U+1,bE m2)],U+2,0,[],[]⟩):eF X U P<|dE U ns h0<|(g,.raw xD)::L:=by
 refine(show eF X U P (pA (dE U ns h0 L) g<|xD U ns h0) from h.cX (fun Tu _ args=>Tt.xD _ _ _ Tu args) fun B hB hT Tu hc hl args x s s1 ρ w vs fi r hg hf hm hv=>?_);refine afD hP cv cF dF fS dI dL eH jG jJ (fun m1 m2 n1 n2=>?_) r hg hm hv;let⟨q1,q2⟩:=eX m1 m2 n1 n2;exact⟨q1,fun B' l6 l7=>q2 B'<|sK hP h' (l6.trans hB)<|l7.trans hT⟩
theorem WL{F:Nat->Option (List AV)}{sp:Sp}{n:Nat}(h:sp g=some (xD U ns h0)){a b:Nat}{m1 m2:List<|Int×Int}(hk:nu U h0 ns s=true)(Iv:a≠b)(ha:Tv a (de U h0 ns s).nx=true)(hb:Tv b (de U h0 ns s).nx=true)(ay:Tv a top=true)(Z9:Tv b top=true)(g1:(de U h0 ns s).h.get a=some (bE m1))(g2:(de U h0 ns s).h.get b=some (bE m2))(n1:(m1.map (·.1)).Nodup)(n2:(m2.map (·.1)).Nodup):
 ba P sp F (n+1) (.fn g) [.map<|some a,.map<|some b] s= .ok (.tuple []) (fN b (some<|bE m2)<|fN a (some<|bE<|fM m1 m2)<|aU b<|aU a<|de U h0 ns s):=by
 show jv P sp g (ba P sp F n) [.map<|some a,.map<|some b] s=_;rw[p6 h];show((gj U h0 ns).bind fun _=>iX (a≠b) <| (bA a).bind fun o1=>(bA b).bind fun o2=>
  aB (Ae o1) fun m1=>aB (Ae o2) fun m2=>iX ((m1.map (·.1)).Nodup/\(m2.map (·.1)).Nodup) <|
  (bS a<|some<|bE<|fM m1 m2).bind fun _=>(bS b<|some<|bE m2).bind fun _=>M.pure<|AV.tuple []) s=_
 rw[M.bO<|yr hk,xZ Iv,M.bO<|mo ha g1];generalize de U h0 ns s=z at*;have gS:Tv b (aU a z).nx=true:=by rw[(gd a z).2.1];exact hb
 have A0:(aU a z).h.get b=some (bE m2):=by rw[(gd a z).1];exact g2
 rw[M.bO<|mo gS A0,ajg,bW,ajg,bW,xZ ⟨n1,n2⟩];have ha2:Tv a (aU b<|aU a z).nx=true:=by rw[(gd b _).2.1,(gd a z).2.1];exact ha
 have ga2:(aU b<|aU a z).h.get a=some (bE m1):=by rw[(gd b _).1,(gd a z).1];exact g1
 rw[M.bO<|yf ha2 ga2 rfl ay];have wn:∀(n:Nat) (o:Option ah) (s:AS),(fN n o s).nx=s.nx/\(fN n o s).h=s.h.put n o:=fun n o s=>by unfold fN;cases Tv n s.mark<;>exact⟨rfl,rfl⟩
 have hb3:Tv b (fN a (some<|bE<|fM m1 m2)<|aU b<|aU a z).nx=true:=by rw[(wn _ _ _).1,(gd b _).2.1];exact gS
 have gb3:(fN a (some<|bE<|fM m1 m2)<|aU b<|aU a z).h.get b=some (bE m2):=by rw[(wn _ _ _).2,Tr.dy _ _ _ _ ((blt_eq _ _).mp ay)<|(blt_eq _ _).mp Z9,if_neg<|Ne.symm Iv,(gd b _).1];exact A0
 rw[M.bO<|yf hb3 gb3 rfl Z9];rfl
end
section
variable {ρ σ:Ren} {o':Obj} {m' b a:List<|Int×Int} {N:Nat}
abbrev eK(m:List<|Int×Int):Prop:=(m.map (·.1)).Nodup
def kD:List (Int×Int)->Int->Option Int
 |[],_=>none
 |p::l,k=>if p.1=k then some p.2 else kD l k
theorem afE(m:List<|Int×Int)(k v j:Int):kD (gf m k v) j=if k=j then some v else kD m j:=by
 induction m with
 |nil=>simp[gf,kD]
 |cons p l ih=>
  unfold gf;by_cases e:p.1=k
  ·rw[if_pos e];by_cases q:k=j
   ·simp[kD,q]
   ·simp[kD,q,e]
  ·rw[if_neg e];by_cases q:p.1=j
   ·have:k≠j:=fun h=>e<|q.trans h.symm;simp[kD,q,this]
   ·simp only[kD,if_neg q];exact ih
theorem aer(m:List<|Int×Int)(k v:Int):∀j,j∈(gf m k v).map (·.1)↔j=k\/j∈m.map (·.1):=by
 intro j;induction m with
 |nil=>simp[gf]
 |cons p l ih=>
  unfold gf;by_cases e:p.1=k
  ·rw[if_pos e];simp only[T0,Ty];constructor
   ·rintro (h|h)
    ·exact .inl h
    ·exact .inr<|.inr h
   ·rintro (h|h|h)
    ·exact .inl h
    ·exact .inl<|h.trans e
    ·exact .inr h
  ·rw[if_neg e];simp only[T0,Ty];rw[ih];constructor
   ·rintro (h|h|h)
    ·exact .inr<|.inl h
    ·exact .inl h
    ·exact .inr<|.inr h
   ·rintro (h|h|h)
    ·exact .inr<|.inl h
    ·exact .inl h
    ·exact .inr<|.inr h
theorem eK.set{m:List<|Int×Int}(h:eK m)(k v:Int):eK<|gf m k v:=by
 induction m with
 |nil=>simp[eK,gf]
 |cons p l ih=>
  have h:(p.1::l.map (·.1)).Nodup:=h;obtain⟨h1,h2⟩:=UF.1 h;unfold gf;by_cases e:p.1=k
  ·rw[if_pos e];show(k::l.map (·.1)).Nodup;rw[←e];exact h
  ·rw[if_neg e];show(p.1::(gf l k v).map (·.1)).Nodup;refine UF.2 ⟨fun q=>?_,ih h2⟩;rcases(aer l k v p.1).1 q with q|q
   ·exact e q
   ·exact h1 q
theorem B2{m:List<|Int×Int}(h:eK m)(k v:Int):(k,v)∈m↔kD m k=some v:=by
 induction m with
 |nil=>simp[kD]
 |cons p l ih=>
  have h:(p.1::l.map (·.1)).Nodup:=h;obtain⟨h1,h2⟩:=UF.1 h;unfold kD;by_cases e:p.1=k
  ·rw[if_pos e,Ty];constructor
   ·rintro (q|q)
    ·rw[←q]
    ·exact absurd (TI.2 ⟨_,q,rfl⟩) (by rw[←e] at*;exact h1)
   ·intro q;injection q with q
    obtain⟨a,b⟩:=p;simp only at e q;rw[e,q];exact .inl rfl
  ·rw[if_neg e,Ty, ←ih h2];constructor
   ·rintro (q|q)
    ·rw[←q] at e;exact absurd rfl e
    ·exact q
   ·exact .inr
theorem eK.nodup{m:List<|Int×Int}(h:eK m):m.Nodup:=by
 induction m with
 |nil=>exact UD
 |cons p l ih=>have h:(p.1::l.map (·.1)).Nodup:=h;obtain⟨h1,h2⟩:=UF.1 h;exact UF.2 ⟨fun q=>h1<|TI.2 ⟨_,q,rfl⟩,ih h2⟩
theorem aes(ha:eK a)(hb:eK b)(h:∀k,kD a k=kD b k):a.Perm b:=(List.perm_ext_iff_of_nodup ha.nodup hb.nodup).2 fun⟨k,v⟩=>by rw[B2 ha,B2 hb,h]
theorem aet(ha:eK a)(h:a.Perm b)(k:Int):kD a k=kD b k:=by
 have hb:eK b:=(h.map (·.1)).nodup_iff.1 ha;cases e:kD a k with
 |some v=>exact((B2 hb k v).1<|h.mem_iff.1<|(B2 ha k v).2 e).symm
 |none=>
  cases e2:kD b k with
  |none=>rfl
  |some v=>have:=(B2 ha k v).1<|h.mem_iff.2<|(B2 hb k v).2 e2;rw[e] at this;cases this
theorem eK.merge:∀{s d:List<|Int×Int},eK d->eK (fM d s)
 |[],d,h=>h
 |p::s,d,h=>eK.merge (s:=s)<|h.set p.1 p.2
theorem Oy:∀(s d:List<|Int×Int) (k:Int),eK s->kD (fM d s) k=match kD s k with|some v=>some v|none=>kD d k
 |[],d,k,_=>rfl
 |p::s,d,k,h=>by
  have h:(p.1::s.map (·.1)).Nodup:=h;obtain⟨h1,h2⟩:=UF.1 h;show kD (fM (gf d p.1 p.2) s) k=_;have oc:kD (p::s) k=if p.1=k then some p.2 else kD s k:=rfl
  rw[Oy s _ k h2,afE,oc];by_cases e:p.1=k
  ·rw[if_pos e,if_pos e];have:kD s k=none:=by
    cases q:kD s k with
    |none=>rfl
    |some v=>exact absurd (TI.2 ⟨_,(B2 h2 k v).2 q,rfl⟩) (by rw[←e];exact h1)
   rw[this]
  ·rw[if_neg e,if_neg e]
theorem aco{d s s':List<|Int×Int}(hd:eK d)(hs:eK s)(h:s.Perm s'):(fM d s).Perm<|fM d s':=by have Sx:eK s':=(h.map (·.1)).nodup_iff.1 hs;refine aes hd.merge hd.merge fun k=>?_;rw[Oy s d k hs,Oy s' d k Sx,aet hs h]
theorem acp(d s:List<|Int×Int)(p:Int×Int):fM d (s++[p])=gf (fM d s) p.1 p.2:=by unfold fM;rw[List.foldl_append];rfl
theorem Jy:∀{l:List<|Int×Int} {x:AV×AV} {r:List<|AV×AV},(x,r)∈yF (cJ l)->∃(p:Int×Int) (l':List<|Int×Int),x=(.int .i64 p.1,.int .i64 p.2)/\r=cJ l'/\l.Perm (p::l')
 |[],x,r,h=>by cases h
 |a::l,x,r,h=>by
  have h:(x,r)∈(((AV.int .i64 a.1,AV.int .i64 a.2),cJ l)::(yF<|cJ l).map fun(y,r)=>(y,(AV.int .i64 a.1,AV.int .i64 a.2)::r)):=h;rcases Ty.1 h with h|h
  ·injection h with h1 h2
   exact⟨a,l,h1,h2,UL _⟩
  ·obtain⟨⟨y,r'⟩,hm,e⟩:=TI.1 h;simp only[Prod.mk.injEq] at e;obtain⟨p,l',h1,h2,h3⟩:=Jy hm;refine⟨p,a::l',by rw[←e.1];exact h1,by rw[←e.2,h2];rfl,?_⟩;exact(h3.cons a).trans<|Vz p a l'
theorem aeu{m:List<|Int×Int}(h:m.Perm m'):∀{l:List MapEntry},eA ρ (cJ m) l->∃l',l.Perm l'/\eA ρ (cJ m') l':=by
 induction h with
 |nil=>intro l h;exact⟨l,UL _,h⟩
 |cons x _ ih=>intro l h;have h:eA ρ ((.int .i64 x.1,.int .i64 x.2)::cJ _) l:=h;simp only[eA] at h;obtain⟨e,es,rfl,h1,h2,h3⟩:=h;obtain⟨l',q1,q2⟩:=ih h3;exact⟨e::l',q1.cons e,by show eA ρ ((.int .i64 x.1,.int .i64 x.2)::cJ _) _;simp only[eA];exact⟨e,l',rfl,h1,h2,q2⟩⟩
 |swap x y l0=>intro l h;have h:eA ρ ((.int .i64 y.1,.int .i64 y.2)::(.int .i64 x.1,.int .i64 x.2)::cJ l0) l:=h;simp only[eA] at h;obtain⟨e,es,rfl,h1,h2,e',iw,rfl,h3,h4,h5⟩:=h;exact⟨e'::e::iw,Vz _ _ _,by show eA ρ ((.int .i64 x.1,.int .i64 x.2)::(.int .i64 y.1,.int .i64 y.2)::cJ l0) _;simp only[eA];exact⟨e',_,rfl,h3,h4,e,iw,rfl,h1,h2,h5⟩⟩
 |trans _ _ ih1 ih2=>intro l h;obtain⟨l1,q1,q2⟩:=ih1 h;obtain⟨l2,q3,q4⟩:=ih2 q2;exact⟨l2,q1.trans q3,q4⟩
theorem adg{a b:Int}(h:a≠b):sameKey (.int .i64 a) (.int .i64 b)=some false/\sameKey (.int .i64 b) (.int .i64 a)=some false:=by
 rw[amQ,amQ];constructor
 ·rw[show(a == b)=false by simpa using h]
 ·rw[show(b == a)=false by simpa using fun e=>h e.symm]
theorem amh{m:List<|Int×Int}(h:eK m):lL<|cJ m:=by
 unfold lL;induction m with
 |nil=>exact .nil
 |cons p l ih=>have h:(p.1::l.map (·.1)).Nodup:=h;obtain⟨h1,h2⟩:=UF.1 h;refine .cons (fun q hq=>?_)<|ih h2;obtain⟨z,hz,rfl⟩:=TI.1 hq;exact adg fun e=>h1 (by rw[e];exact TI.2 ⟨z,hz,rfl⟩)
theorem acq{m:List<|Int×Int}(hk:eK m')(hp:m.Perm m')(h:OR ρ N (bE m) o'):OR σ N (bE m') o':=by have h:OR σ N (bE m) o':=we h;obtain⟨l,bu,rfl,h1,h2,l',h3,h4⟩:=h;obtain⟨l2,q1,q2⟩:=aeu hp h4;exact⟨l,bu,rfl,amh hk,h2,l2,h3.trans q1,q2⟩
theorem aev{m:List<|Int×Int}(hk:eK m)(h:OR ρ N (yT m) o'):OR σ N (bE m) o':=by obtain⟨l,h0,h1,h2⟩:∃l,o'= .map l m.length/\m.length=(cJ m).length/\kF ρ (cJ m) l.toList 0:=h;subst h0;have hb:=h2.XF;rw[←h1] at hb;have:OR ρ N (bE m)<|.map l m.length:=⟨l,m.length,rfl,amh hk,hb,l.toList,UL _,h2.eqs⟩;exact we this
end
section
variable {t:Tr AV} {s3:AS} {nt n fn:Nat} {v:AV} {aR:AF} {b a:Code}
section
def wO(l:Nat)(fr:AF):AF:=⟨fr.fn,fr.tmps,fr.nt,fr.todo,fr.defers,some l⟩
end
section
variable {P:Program} {Tu:aJ} {s s1:AS} {l:Nat}
theorem Ek{fr:AF}(h:(M.pure (bw.go fr):M bw) s= .ok (.go aR) s1):aR=fr/\s1=s:=by
 let⟨h1,h2⟩:=bG h;injection h1 with h1
 exact⟨h1,h2⟩
theorem aew{fr:AF}(h:jB P Tu fr s= .ok (.go aR) s1):aR.round=fr.round/\(fr.round=none->aR.defers=[]->fr.defers=[]/\jB P Tu (wO l fr) s= .ok (.go<|wO l aR) s1):=by
 let⟨f,t,nt,K,d,r⟩:=fr;cases K with
 |nil=>have h':(M.pure (bw.leave ⟨f,t,nt,[],d,r⟩ none):M bw) s= .ok (.go aR) s1:=h;cases(bG h').1
 |cons it k=>
  have h':(wK P it).val Tu f t nt d r k s= .ok (.go aR) s1:=h;have goal:∀(X:pk),(wK P it).val=X->X Tu f t nt d r k s= .ok (.go aR) s1->(aR.round=r/\(r=none->aR.defers=[]->d=[]/\X Tu f t nt d (some l) k s= .ok (.go<|wO l aR) s1))->aR.round=r/\(r=none->aR.defers=[]->d=[]/\jB P Tu (wO l ⟨f,t,nt,it::k,d,r⟩) s= .ok (.go<|wO l aR) s1):=by rintro X hX _ ⟨h1,h2⟩;refine⟨h1,fun a b=>?_⟩;let⟨c,e⟩:=h2 a b;refine⟨c,?_⟩;show(wK P it).val Tu f t nt d (some l) k s=_;rw[hX];exact e
  have pop:∀k',(M.pure (bw.go ⟨f,t,nt,k',d,r⟩):M bw) s= .ok (.go aR) s1->aR.round=r/\(r=none->aR.defers=[]->d=[]/\(M.pure (bw.go ⟨f,t,nt,k',d,some l⟩):M bw) s= .ok (.go<|wO l aR) s1):=by intro k' h;obtain⟨rfl,rfl⟩:=Ek h;exact⟨rfl,fun _ b=>⟨b,rfl⟩⟩
  cases it with
  |code c=>
   cases c with
   |skip=>exact goal rh rfl h'<|pop _ h'
   |label n=>exact goal rh rfl h'<|pop _ h'
   |seq a b=>exact goal (oo [.code a,.code b]) rfl h'<|pop _ h'
   |cond c a b=>refine goal (Ln c a b) rfl h' ?_;let⟨v,h1,h2⟩:=bz (show(aB (aF t c) fun v=>aB (ym v) fun v=>M.pure<|bw.go ⟨f,t,nt,.code (@Bool.rec (fun _=>Code) b a v)::k,d,r⟩) s=_ from h');let⟨v',h3,h4⟩:=bz h2;let⟨q1,q2⟩:=pop _ h4;refine⟨q1,fun a' b'=>⟨(q2 a' b').1,?_⟩⟩;show(aB (aF t c) fun v=>aB (ym v) fun v=>M.pure<|bw.go ⟨f,t,nt,.code (@Bool.rec (fun _=>Code) b a v)::k,d,some l⟩) s=_;rw[h1,bW,h3,bW];exact(q2 a' b').2
   |block i b=>exact goal (oo [.code b,.inBlock i]) rfl h'<|pop _ h'
   |loop b=>exact goal (oo [.code b,.inLoop b]) rfl h'<|pop _ h'
   |scope b=>exact goal (oo [.code b,.inScope b]) rfl h'<|pop _ h'
   |exit i=>
    refine goal (EN i) rfl h' ?_;have h2:(match exitTo i k with
     |some k'=>M.pure (bw.go ⟨f,t,nt,k',d,r⟩)
     |none=>M.pure<|bw.leave ⟨f,t,nt,.code (.exit i)::k,d,r⟩<|some<|.exit i) s= .ok (.go aR) s1:=h'
    cases e:exitTo i k with
    |none=>rw[e] at h2;cases(bG h2).1
    |some k'=>
     rw[e] at h2;let⟨q1,q2⟩:=pop _ h2;refine⟨q1,fun a' b'=>⟨(q2 a' b').1,?_⟩⟩;show(match exitTo i k with
      |some k'=>M.pure (bw.go ⟨f,t,nt,k',d,some l⟩)
      |none=>M.pure<|bw.leave ⟨f,t,nt,.code (.exit i)::k,d,some l⟩<|some<|.exit i) s=_
     rw[e];exact(q2 a' b').2
   |goto i=>
    refine goal (EO i) rfl h' ?_;have h2:(match gotoIn i k with
     |some k'=>M.pure (bw.go ⟨f,t,nt,k',d,r⟩)
     |none=>M.pure<|bw.leave ⟨f,t,nt,.code (.goto i)::k,d,r⟩<|some<|.goto i) s= .ok (.go aR) s1:=h'
    cases e:gotoIn i k with
    |none=>rw[e] at h2;cases(bG h2).1
    |some k'=>
     rw[e] at h2;let⟨q1,q2⟩:=pop _ h2;refine⟨q1,fun a' b'=>⟨(q2 a' b').1,?_⟩⟩;show(match gotoIn i k with
      |some k'=>M.pure (bw.go ⟨f,t,nt,k',d,some l⟩)
      |none=>M.pure<|bw.leave ⟨f,t,nt,.code (.goto i)::k,d,some l⟩<|some<|.goto i) s=_
     rw[e];exact(q2 a' b').2
   |ret=>cases(bG (show(M.pure (bw.leave ⟨f,t,nt,.code .ret::k,d,r⟩<|some .ret):M bw) s= .ok (.go aR) s1 from h')).1
   |region i ops dr=>
    cases dr with
    |false=>refine goal (J7 P ops) rfl h' ?_;let⟨t1,s2,h2,h3⟩:=M.aQ (show((jE P Tu nt ops ops.toList t).bind fun t=>M.pure<|bw.go ⟨f,t,nt,k,d,r⟩) s= .ok (.go aR) s1 from h');obtain⟨rfl,rfl⟩:=Ek h3;refine⟨rfl,fun a' b'=>⟨b',?_⟩⟩;show((jE P Tu nt ops ops.toList t).bind fun t=>M.pure<|bw.go ⟨f,t,nt,k,d,some l⟩) s=_;rw[M.bO h2];rfl
    |true=>refine goal (JG P ops) rfl h' ?_;let⟨t1,s2,h2,h3⟩:=M.aQ (show((qM P Tu nt ops t).bind fun t=>M.pure<|bw.go ⟨f,t,nt,k,d,r⟩) s= .ok (.go aR) s1 from h');obtain⟨rfl,rfl⟩:=Ek h3;refine⟨rfl,fun a' b'=>⟨b',?_⟩⟩;show((qM P Tu nt ops t).bind fun t=>M.pure<|bw.go ⟨f,t,nt,k,d,some l⟩) s=_;rw[M.bO h2];rfl
   |rangeFunc g ps a b=>
    have h2:wt g ps.toList a b Tu f t nt d r k s= .ok (.go aR) s1:=h';unfold wt at h2;cases r with
    |none=>let⟨df,s2,_,h3⟩:=M.aQ h2;let⟨lo,s3,_,h3⟩:=M.aQ h3;let⟨gv,_,h3⟩:=bz h3;let⟨y,s4,_,h3⟩:=M.aQ h3;let⟨p,s5,_,h3⟩:=M.aQ h3;obtain⟨rfl,rfl⟩:=Ek h3;exact⟨rfl,fun _ b'=>by cases b'⟩
    |some l0=>
     let⟨o,s2,_,h3⟩:=M.aQ h2;split at h3
     ·let⟨lo,s3,_,h3⟩:=M.aQ h3;let⟨gv,_,h3⟩:=bz h3;let⟨y,s4,_,h3⟩:=M.aQ h3;let⟨p,s5,_,h3⟩:=M.aQ h3;obtain⟨rfl,rfl⟩:=Ek h3;exact⟨rfl,fun a' _=>by cases a'⟩
     ·cases h3
   |refuse m=>cases h'
  |inBlock i=>exact goal rh rfl h'<|pop _ h'
  |inScope i=>exact goal rh rfl h'<|pop _ h'
  |inLoop b=>exact goal (oo [.code b,.inLoop b]) rfl h'<|pop _ h'
  |beginRound=>
   have h2:Aa Tu f t nt d r k s= .ok (.go aR) s1:=h';unfold Aa at h2;cases r with
   |none=>cases h2
   |some l0=>
    let⟨o,s2,_,h3⟩:=M.aQ h2;split at h3
    ·let⟨_,s3,_,h4⟩:=M.aQ h3;obtain⟨rfl,rfl⟩:=Ek h4;exact⟨rfl,fun a' _=>by cases a'⟩
    ·cases h3
  |_=>cases h'
theorem ajj:∀{k:Nat} {fr aR:AF} {s s1:AS},eL P Tu k fr s= .ok (.go aR) s1->aR.round=fr.round/\(fr.round=none->aR.defers=[]->fr.defers=[]/\eL P Tu k (wO l fr) s= .ok (.go<|wO l aR) s1)
 |0,fr,aR,s,s1,h=>by cases h;exact⟨rfl,fun _ b=>⟨b,rfl⟩⟩
 |k+1,fr,aR,s,s1,h=>by
  let⟨y,s2,h1,h2⟩:=M.aQ (show((jB P Tu fr).bind fun x=> @bw.rec (fun _=>M bw) (eL P Tu k) (fun fr j=>M.pure<|bw.leave fr j) x) s= .ok _ s1 from h);cases y with
  |leave qD j=>cases(bG (show(M.pure (bw.leave qD j):M bw) s2=_ from h2)).1
  |go qD=>have h2:eL P Tu k qD s2= .ok (.go aR) s1:=h2;let⟨a1,a2⟩:=ajj h2;let⟨b1,b2⟩:=aew (l:=l) h1;refine⟨a1.trans b1,fun q1 q2=>?_⟩;let⟨c1,c2⟩:=a2 (b1.trans q1) q2;let⟨d1,d2⟩:=b2 q1 c1;exact⟨d1,(BW d2).trans c2⟩
def KL(P:Program)(Tu:aJ)(l:Nat)(R:AF->Option Code->AS->Prop)(fr:AF)(s:AS):Prop:=fr.round=none/\fr.defers=[]/\Ev P Tu R (wO l fr) s
theorem Chunk.round{R:AF->Option Code->AS->Prop}:Chunk P Tu<|KL P Tu l R:=by rintro k fr aR s s1 h ⟨h1,h2,h3⟩;let⟨a1,a2⟩:=ajj (l:=l) h;let⟨b1,b2⟩:=a2 (a1.symm.trans h1) h2;exact⟨a1.symm.trans h1,b1,Chunk.ev k _ _ _ _ b2 h3⟩
end
section
variable {l:Nat}
theorem Eb{E:Env}(hE:E.Ok)(vy:E.fg=false){f:Nat}{K:List Item}{s:AS}{R:AF->Option Code->AS->Prop}{C:yW}(hC:∀fr s p,C fr s p->KL E.P (ba E.P E.sp E.F n) l R fr s)(fuel:Nat)(p:Pl){T:Prop}(x:T)(h:T=wp E fuel n (.fr f nt K t s) p [] (fun _ _ _=>False) C:=by as_aux_lemma=>kernel_rfl):Ev E.P (ba E.P E.sp E.F n) R ⟨f,t,nt,K,[],some l⟩ s:=(D8 hE fuel n (.fr f nt K t s) p [] (fun _ _ _=>False) C (KL E.P (ba E.P E.sp E.F n) l R) Chunk.round (fun fr s j aR jm s1 v s2 p q1 q2 q3=>q3.elim) hC (fun _ _ _ _ _ _ _ _ _ q=>by rw[vy] at q;cases q) (fun _ _ _ _ _ _ _ _ _ _ _ q=>by rw[vy] at q;cases q) (fun _ _ _ _ _ _ _ _ _ q=>by rw[vy] at q;cases q)<|h▸x).2.2
section
def B3(P:Program)(Tu:aJ)(l:Nat)(fr:AF)(s:AS):Option<|AV×AS:=
 match eL P Tu 4 (wO l fr) s with
 | .ok (.leave _ j) s1=>(match endRound l j s1 with
  | .ok v s2=>some (v,s2)
  | .bad=>none)
 |_=>none
end
theorem Gj{P:Program}{Tu:aJ}{fr:AF}{s:AS}(h1:fr.round=none)(h2:fr.defers=[])(h:B3 P Tu l fr s=some (v,s3)):KL P Tu l (fun _ j s2=>endRound l j s2= .ok v s3) fr s:=by
 refine⟨h1,h2,?_⟩;unfold B3 at h;split at h
 ·rename_i aR j s1 e;split at h
  ·rename_i v2 s2 e2;injection h with h;injection h with h3 h4
   subst h3;subst h4;exact⟨4,aR,j,s1,e,e2⟩
  ·cases h
 ·cases h
theorem Gk{P:Program}{sp:Sp}{F:Nat->Option (List AV)}{args:List AV}{s s0:AS}{st:LoopState}{bU:Option Code}{d:Nat}{ps:List Tmp}(hg:getLoop l s= .ok (.loop st bU fn t nt ps a b d) s0)(hlen:(and (Tx args.length ps.length)<|ps.all fun p=>Tv p nt)=true)(H:Ev P (ba P sp F n) (fun _ j s2=>endRound l j s2= .ok v s3) ⟨fn,jN ps args t,nt,[.code a,.beginRound,.code b],[],some l⟩ s0):ba P sp F (n+1) (.round l) args s= .ok v s3:=by let⟨k,aR,j,s2,h1,h2⟩:=H;show xW P (ba P sp F n) l args s=_;unfold xW;rw[M.bO hg];show(aG (and (Tx args.length ps.length)<|ps.all fun p=>Tv p nt) <| (p0 P (ba P sp F n) ⟨fn,jN ps args t,nt,[.code a,.beginRound,.code b],[],some l⟩).bind fun st=> @bw.rec (fun _=>M AV) (fun _=>fail) (fun _ j=>endRound l j) st) s0=_;rw[hlen,dR,M.bO<|Jt h1];exact h2
theorem JR{P:Program}{Tu:aJ}{s s1 s2 s4:AS}{df lo:Nat}{k:List Item}{f:Operand}{ps:Array Tmp}{gv y:AV}{p:Option Code}(h1:gQ .defs s= .ok df s1)(h2:gQ (.loop .ready none fn t nt ps.toList a b df) s1= .ok lo s2)(h3:aF t f=some gv)(h4:nK Tu gv [.yield lo] s2= .ok y s3)(h5:mj lo s3= .ok p s4):
 eL P Tu 1 ⟨fn,t,nt,.code (.rangeFunc f ps a b)::k,[],none⟩ s= .ok (.go ⟨fn,t,nt,andThen p k,[df],none⟩) s4:=by
 refine BW ?_;show wt f ps.toList a b Tu fn t nt [] none k s=_;unfold wt;simp only;rw[M.bO h1,M.bO h2,h3,bW,M.bO h4,M.bO h5];rfl
end
end
section
variable {U k:Nat} {B:aE} {v:AV} {rs:List ResultVar} {aR:AF} {Q:Tr AV->List Nat->Option Code->AS->Prop}
section
def wR(l:Nat)(fr:AF):AF:=⟨fr.fn,fr.tmps,fr.nt,fr.todo,[l],fr.round⟩
end
section
variable {P:Program} {Tu:aJ} {s s1:AS} {l:Nat}
theorem Ec{fr:AF}(h:(M.pure (bw.go fr):M bw) s= .ok (.go aR) s1):aR=fr/\s1=s:=by
 let⟨h1,h2⟩:=bG h;injection h1 with h1
 exact⟨h1,h2⟩
theorem acz{fr:AF}(h:jB P Tu fr s= .ok (.go aR) s1):aR.round=fr.round/\(fr.round=none->aR.defers=[]->fr.defers=[]/\jB P Tu (wR l fr) s= .ok (.go<|wR l aR) s1):=by
 let⟨f,t,nt,K,d,r⟩:=fr;cases K with
 |nil=>have h':(M.pure (bw.leave ⟨f,t,nt,[],d,r⟩ none):M bw) s= .ok (.go aR) s1:=h;cases(bG h').1
 |cons it k=>
  have h':(wK P it).val Tu f t nt d r k s= .ok (.go aR) s1:=h;have goal:∀(X:pk),(wK P it).val=X->X Tu f t nt d r k s= .ok (.go aR) s1->(aR.round=r/\(r=none->aR.defers=[]->d=[]/\X Tu f t nt [l] r k s= .ok (.go<|wR l aR) s1))->aR.round=r/\(r=none->aR.defers=[]->d=[]/\jB P Tu (wR l ⟨f,t,nt,it::k,d,r⟩) s= .ok (.go<|wR l aR) s1):=by rintro X hX _ ⟨h1,h2⟩;refine⟨h1,fun a b=>?_⟩;let⟨c,e⟩:=h2 a b;refine⟨c,?_⟩;show(wK P it).val Tu f t nt [l] r k s=_;rw[hX];exact e
  have pop:∀k',(M.pure (bw.go ⟨f,t,nt,k',d,r⟩):M bw) s= .ok (.go aR) s1->aR.round=r/\(r=none->aR.defers=[]->d=[]/\(M.pure (bw.go ⟨f,t,nt,k',[l],r⟩):M bw) s= .ok (.go<|wR l aR) s1):=by intro k' h;obtain⟨rfl,rfl⟩:=Ec h;exact⟨rfl,fun _ b=>⟨b,rfl⟩⟩
  cases it with
  |code c=>
   cases c with
   |skip=>exact goal rh rfl h'<|pop _ h'
   |label n=>exact goal rh rfl h'<|pop _ h'
   |seq a b=>exact goal (oo [.code a,.code b]) rfl h'<|pop _ h'
   |cond c a b=>refine goal (Ln c a b) rfl h' ?_;let⟨v,h1,h2⟩:=bz (show(aB (aF t c) fun v=>aB (ym v) fun v=>M.pure<|bw.go ⟨f,t,nt,.code (@Bool.rec (fun _=>Code) b a v)::k,d,r⟩) s=_ from h');let⟨v',h3,h4⟩:=bz h2;let⟨q1,q2⟩:=pop _ h4;refine⟨q1,fun a' b'=>⟨(q2 a' b').1,?_⟩⟩;show(aB (aF t c) fun v=>aB (ym v) fun v=>M.pure<|bw.go ⟨f,t,nt,.code (@Bool.rec (fun _=>Code) b a v)::k,[l],r⟩) s=_;rw[h1,bW,h3,bW];exact(q2 a' b').2
   |block i b=>exact goal (oo [.code b,.inBlock i]) rfl h'<|pop _ h'
   |loop b=>exact goal (oo [.code b,.inLoop b]) rfl h'<|pop _ h'
   |scope b=>exact goal (oo [.code b,.inScope b]) rfl h'<|pop _ h'
   |exit i=>
    refine goal (EN i) rfl h' ?_;have h2:(match exitTo i k with
     |some k'=>M.pure (bw.go ⟨f,t,nt,k',d,r⟩)
     |none=>M.pure<|bw.leave ⟨f,t,nt,.code (.exit i)::k,d,r⟩<|some<|.exit i) s= .ok (.go aR) s1:=h'
    cases e:exitTo i k with
    |none=>rw[e] at h2;cases(bG h2).1
    |some k'=>
     rw[e] at h2;let⟨q1,q2⟩:=pop _ h2;refine⟨q1,fun a' b'=>⟨(q2 a' b').1,?_⟩⟩;show(match exitTo i k with
      |some k'=>M.pure (bw.go ⟨f,t,nt,k',[l],r⟩)
      |none=>M.pure<|bw.leave ⟨f,t,nt,.code (.exit i)::k,[l],r⟩<|some<|.exit i) s=_
     rw[e];exact(q2 a' b').2
   |goto i=>
    refine goal (EO i) rfl h' ?_;have h2:(match gotoIn i k with
     |some k'=>M.pure (bw.go ⟨f,t,nt,k',d,r⟩)
     |none=>M.pure<|bw.leave ⟨f,t,nt,.code (.goto i)::k,d,r⟩<|some<|.goto i) s= .ok (.go aR) s1:=h'
    cases e:gotoIn i k with
    |none=>rw[e] at h2;cases(bG h2).1
    |some k'=>
     rw[e] at h2;let⟨q1,q2⟩:=pop _ h2;refine⟨q1,fun a' b'=>⟨(q2 a' b').1,?_⟩⟩;show(match gotoIn i k with
      |some k'=>M.pure (bw.go ⟨f,t,nt,k',[l],r⟩)
      |none=>M.pure<|bw.leave ⟨f,t,nt,.code (.goto i)::k,[l],r⟩<|some<|.goto i) s=_
     rw[e];exact(q2 a' b').2
   |ret=>cases(bG (show(M.pure (bw.leave ⟨f,t,nt,.code .ret::k,d,r⟩<|some .ret):M bw) s= .ok (.go aR) s1 from h')).1
   |region i ops dr=>
    cases dr with
    |false=>refine goal (J7 P ops) rfl h' ?_;let⟨t1,s2,h2,h3⟩:=M.aQ (show((jE P Tu nt ops ops.toList t).bind fun t=>M.pure<|bw.go ⟨f,t,nt,k,d,r⟩) s= .ok (.go aR) s1 from h');obtain⟨rfl,rfl⟩:=Ec h3;refine⟨rfl,fun a' b'=>⟨b',?_⟩⟩;show((jE P Tu nt ops ops.toList t).bind fun t=>M.pure<|bw.go ⟨f,t,nt,k,[l],r⟩) s=_;rw[M.bO h2];rfl
    |true=>refine goal (JG P ops) rfl h' ?_;let⟨t1,s2,h2,h3⟩:=M.aQ (show((qM P Tu nt ops t).bind fun t=>M.pure<|bw.go ⟨f,t,nt,k,d,r⟩) s= .ok (.go aR) s1 from h');obtain⟨rfl,rfl⟩:=Ec h3;refine⟨rfl,fun a' b'=>⟨b',?_⟩⟩;show((qM P Tu nt ops t).bind fun t=>M.pure<|bw.go ⟨f,t,nt,k,[l],r⟩) s=_;rw[M.bO h2];rfl
   |rangeFunc g ps a b=>
    have h2:wt g ps.toList a b Tu f t nt d r k s= .ok (.go aR) s1:=h';unfold wt at h2;cases r with
    |none=>let⟨df,s2,_,h3⟩:=M.aQ h2;let⟨lo,s3,_,h3⟩:=M.aQ h3;let⟨gv,_,h3⟩:=bz h3;let⟨y,s4,_,h3⟩:=M.aQ h3;let⟨p,s5,_,h3⟩:=M.aQ h3;obtain⟨rfl,rfl⟩:=Ec h3;exact⟨rfl,fun _ b'=>by cases b'⟩
    |some l0=>
     let⟨o,s2,_,h3⟩:=M.aQ h2;split at h3
     ·let⟨lo,s3,_,h3⟩:=M.aQ h3;let⟨gv,_,h3⟩:=bz h3;let⟨y,s4,_,h3⟩:=M.aQ h3;let⟨p,s5,_,h3⟩:=M.aQ h3;obtain⟨rfl,rfl⟩:=Ec h3;exact⟨rfl,fun a' _=>by cases a'⟩
     ·cases h3
   |refuse m=>cases h'
  |inBlock i=>exact goal rh rfl h'<|pop _ h'
  |inScope i=>exact goal rh rfl h'<|pop _ h'
  |inLoop b=>exact goal (oo [.code b,.inLoop b]) rfl h'<|pop _ h'
  |beginRound=>
   have h2:Aa Tu f t nt d r k s= .ok (.go aR) s1:=h';unfold Aa at h2;cases r with
   |none=>cases h2
   |some l0=>
    let⟨o,s2,_,h3⟩:=M.aQ h2;split at h3
    ·let⟨_,s3,_,h4⟩:=M.aQ h3;obtain⟨rfl,rfl⟩:=Ec h4;exact⟨rfl,fun a' _=>by cases a'⟩
    ·cases h3
  |_=>cases h'
theorem amp:∀{k:Nat} {fr aR:AF} {s s1:AS},eL P Tu k fr s= .ok (.go aR) s1->aR.round=fr.round/\(fr.round=none->aR.defers=[]->fr.defers=[]/\eL P Tu k (wR l fr) s= .ok (.go<|wR l aR) s1)
 |0,fr,aR,s,s1,h=>by cases h;exact⟨rfl,fun _ b=>⟨b,rfl⟩⟩
 |k+1,fr,aR,s,s1,h=>by
  let⟨y,s2,h1,h2⟩:=M.aQ (show((jB P Tu fr).bind fun x=> @bw.rec (fun _=>M bw) (eL P Tu k) (fun fr j=>M.pure<|bw.leave fr j) x) s= .ok _ s1 from h);cases y with
  |leave qD j=>cases(bG (show(M.pure (bw.leave qD j):M bw) s2=_ from h2)).1
  |go qD=>have h2:eL P Tu k qD s2= .ok (.go aR) s1:=h2;let⟨a1,a2⟩:=amp h2;let⟨b1,b2⟩:=acz (l:=l) h1;refine⟨a1.trans b1,fun q1 q2=>?_⟩;let⟨c1,c2⟩:=a2 (b1.trans q1) q2;let⟨d1,d2⟩:=b2 q1 c1;exact⟨d1,(BW d2).trans c2⟩
def GD(P:Program)(Tu:aJ)(B:aE)(U:Nat)(Q:Tr AV->List Nat->Option Code->AS->Prop)(l:Nat)(fr:AF)(s:AS):Prop:=fr.round=none/\fr.defers=[]/\AI P B U Q (wR l fr) s
theorem Chunk.defs(bR:P.follows .mixedOrders=true)(hc:gk P B Tu)(hl:∀t a,Tt<|Tu t a):Chunk P Tu<|GD P Tu B U Q l:=by rintro k fr aR s s1 h ⟨h1,h2,h3⟩;let⟨a1,a2⟩:=amp (l:=l) h;let⟨b1,b2⟩:=a2 (a1.symm.trans h1) h2;exact⟨a1.symm.trans h1,b1,Chunk.FT bR hc hl k _ _ _ _ b2 h3⟩
section
def H7(P:Program)(Tu:aJ)(rs:List ResultVar)(k l:Nat)(fr:AF)(s:AS):Option<|AV×AS:=
 match eL P Tu k (wR l fr) s with
 | .ok (.leave aR j) s1=>(match finish P rs aR j s1 with
  | .ok v s2=>some (v,s2)
  | .bad=>none)
 |_=>none
end
theorem O1{fr:AF}{R:AV->AS->Prop}{s2:AS}(bR:P.follows .mixedOrders=true)(hc:gk P B Tu)(hl:∀t a,Tt<|Tu t a)(h1:fr.round=none)(h2:fr.defers=[])(h:H7 P Tu rs k l fr s=some (v,s2))(hR:R v s2):GD P Tu B U (Fin P rs R) l fr s:=by
 refine⟨h1,h2,fun h0=>?_⟩;unfold H7 at h;split at h
 ·rename_i aR j s1 e;split at h
  ·rename_i v2 s3 e2;injection h with h;injection h with h3 h4
   subst h3;subst h4;exact av.leave bR hc hl e h0 ⟨v2,s3,by rw[←Gu];exact e2,hR⟩
  ·cases h
 ·cases h
end
section
def QX(P:Program)(Tu:aJ)(rs:List ResultVar)(k l:Nat)(fr:AF)(s:AS):Option AV:=match H7 P Tu rs k l fr s with
 |some (v,_)=>some v
 |none=>none
end
theorem OB{P:Program}{Tu:aJ}{l:Nat}{s:AS}{fr:AF}(bR:P.follows .mixedOrders=true)(hc:gk P B Tu)(hl:∀t a,Tt<|Tu t a)(h1:fr.round=none)(h2:fr.defers=[])(h:QX P Tu rs k l fr s=some v):GD P Tu B U (Fin P rs fun y _=>y=v) l fr s:=by
 unfold QX at h;split at h
 ·rename_i v2 s2 e;injection h with h;subst h
  exact O1 bR hc hl h1 h2 e rfl
 ·cases h
theorem afV{E:Env}(hE:E.Ok){n f nt l:Nat}{t:Tr AV}{K:List Item}{s:AS}{C:yW}(vy:E.fg=false)(bR:E.P.follows .mixedOrders=true)(hc:gk E.P B<|ba E.P E.sp E.F n)(hl:∀t a,Tt<|ba E.P E.sp E.F n t a)(hC:∀fr s p,C fr s p->GD E.P (ba E.P E.sp E.F n) B U Q l fr s)(h0:U<=s.nx)(fuel:Nat)(p:Pl){T:Prop}(x:T)(h:T=wp E fuel n (.fr f nt K t s) p [] (fun _ _ _=>False) C:=by as_aux_lemma=>kernel_rfl):av E.P B U Q ⟨f,t,nt,K,[l],none⟩ s:=(D8 hE fuel n (.fr f nt K t s) p [] (fun _ _ _=>False) C (GD E.P (ba E.P E.sp E.F n) B U Q l) (Chunk.defs bR hc hl) (fun fr s j aR jm s1 v s2 p q1 q2 q3=>q3.elim) hC (fun _ _ _ _ _ _ _ _ _ q=>by rw[vy] at q;cases q) (fun _ _ _ _ _ _ _ _ _ _ _ q=>by rw[vy] at q;cases q) (fun _ _ _ _ _ _ _ _ _ q=>by rw[vy] at q;cases q)<|h▸x).2.2 h0
end
end Go.Rn
namespace Go.Rn
open Go.RowKit
theorem VR.Kd{ρ:Ren}{n o:Nat}{v:Value}(ht:top<=n)(h:VR ρ (.ab n o 0) v):VR ρ (.ab top 0 0) v\/VR ρ (.ab (top+1) 0 0) v:=by
 simp only[VR] at h ⊢;rcases h with⟨_,_,a,c,rfl,hz⟩|⟨b,sh,c,_,rfl,_⟩
 ·cases a with
  |none=>exact .inl<|.inl ⟨Tz _,trivial,none,c,rfl,hz.1,(fun _=>rfl),fun e=>by omega⟩
  |some a=>exact .inr<|.inl ⟨by omega,trivial,some a,c,rfl,(fun e=>by cases e),(fun e=>by omega),fun _ e=>by cases e⟩
 ·exact .inr<|.inl ⟨by omega,trivial,_,c,rfl,(fun e=>by cases e),(fun e=>by omega),fun _ e=>by cases e⟩
theorem av.Kd{P:Program}{B:aE}{U:Nat}{Q:Tr AV->List Nat->Option Code->AS->Prop}{f nt:Nat}{t:Tr AV}{K:List Item}{d:List Nat}{r:Option Nat}{s:AS}{i n o:Nat}(hi:t.get i=some (.ab n o 0))(ht:top<=n)(qB:i<top)(H1:av P B U Q ⟨f,t.put i<|some<|.ab top 0 0,nt,K,d,r⟩ s)(H2:av P B U Q ⟨f,t.put i<|some<|.ab (top+1) 0 0,nt,K,d,r⟩ s):av P B U Q ⟨f,t,nt,K,d,r⟩ s:=by
 intro ρ w b a cs bI ay hf;have hv:=ay.tr.2 i _ hi;have aw:∀x,VR ρ x (a.tmps.getD i Go.undef)->At B ρ s nt (t.put i<|some x) w a:=fun x hx=>by
  let⟨h1,h2,h3,h4,h5⟩:=ay;refine⟨⟨h1.1,fun j y hy=>?_⟩,h2,h3,h4,h5⟩;rw[Tr.mh _ _ _ _ qB] at hy;by_cases e:j=i
  ·rw[if_pos e] at hy;cases hy;rw[e];exact hx
  ·rw[if_neg e] at hy;exact h1.2 j y hy
 let⟨f1,f2,f3,f4,f5⟩:=bI;rcases hv.Kd ht with q|q
 ·exact H1 ρ w b a cs ⟨f1,f2,f3,f4,f5⟩ (aw _ q) hf
 ·exact H2 ρ w b a cs ⟨f1,f2,f3,f4,f5⟩ (aw _ q) hf
end Go.Rn
namespace Go.Rn
open Go.RowKit
section
variable {X:TX} {P:Program} {U:Nat} {ns:List Nat} {h0:Tr ah} {L:bV} {g:Nat} {fn:Func} {body:Code}
theorem aeD(hP:bY P)(fS:fY<=U)(dI:U<=top)(dL:∀n o,n<top->h0.get n=some o->n∈ns)(eH:∀n∈ns,n<U){val:List AV->Option AV}(h:eF X U P<|dE U ns h0 L)(cv:P.funcs[g]? =some fn)(cF:fn.body=some body)(dF:(fn.name == "runtime.NumGoroutine")=false)(eX:∀args v,val args=some v->max fn.ntmps args.length<=top/\∃L',eF X U P (dE U ns h0 L')/\∀B:aE,ry X P U ns h0 L' B->
 av P B U (Fin P fn.results.toList fun y _=>y=v) ⟨g,dZ args,max fn.ntmps args.length,[.code body],[],none⟩ ⟨h0,U,0,[],[]⟩):eF X U P<|dE U ns h0<|(g,.val val)::L:=by
 refine(show eF X U P (pA (dE U ns h0 L) g<|nH U ns h0 val) from h.cX (fun Tu _ args=>Tt.nH _ _ _ _ Tu args) fun B hB hT Tu hc hl args x s s1 ρ w vs fi r hg hf hm hv=>?_);refine NN hP cv cF dF fS dI dL eH (fun args v e=>?_) r hg hm hv;let⟨q1,L',h',q2⟩:=eX args v e;exact⟨q1,fun B' l6 l7=>q2 B'<|sK hP h' (l6.trans hB)<|l7.trans hT⟩
end
end Go.Rn
namespace Go.Rn
open Go.RowKit
section
variable {s:AS}
section
variable {P:Program} {B:aE} {U:Nat} {Q:Tr AV->List Nat->Option Code->AS->Prop} {Tu:aJ}
theorem av.Zb{fr aR:AF}{s1:AS}{ρ:Ren}{w:World}{b:Frame}{a:Act}{cs:List Frame}(bI:Fr ρ fr b a)(hf:∀k,s.nx<=k->k<top->ρ k=none)(lE:s.nx<=s1.nx)(h0:U<=s.nx)(hw:mw P B ρ s s1 w fr b cs (lone (b.atR a fr.todo) cs w)<|.go aR)(H:av P B U Q aR s1):
 ∃(kR:AF) (j:Option Code) (s2:AS) (σ:Ren) (a2:Act) (w2:World),Q kR.tmps kR.defers j s2/\U<=s2.nx/\(∀k,k<U->k<top->σ k=ρ k)/\(∀k x,top<=k->ρ k=some x->σ k=some x)/\(∀k,s2.nx<=k->k<top->σ k=none)/\At B σ s2 fr.nt kR.tmps w2 a2/\wZ σ kR.defers a2.defers/\cI B w w2/\(kR.fn=fr.fn/\kR.nt=fr.nt/\kR.round=fr.round)/\jQ kR.todo/\Leaves j kR.todo/\Steps P (lone (b.atR a fr.todo) cs w) (lone (b.atR a2 kR.todo) cs w2):=by
 let⟨σ,a1,w1,e1,e2,e3,e4,⟨e5,e6,e7⟩,e8,_,e9⟩:=hw;have FQ:aR.fn=fr.fn:=e5;have ju:aR.nt=fr.nt:=e6;have qC:aR.round=fr.round:=e7;let⟨kR,j,s2,τ,a2,w2,q0,qn,q1,IG,q2,q3,q4,q5,⟨q6,q7,q8⟩,q9,Si,Sj⟩:=H σ w1 b a1 cs ⟨bI.fn.trans FQ.symm,bI.kind,by rw[qC];exact bI.round.mono e1.le,e3,e8⟩ (by rw[ju];exact e2) fun k hk ht=>(e1.out k ht ak).trans<|hf k ak ht;exact⟨kR,j,s2,τ,a2,w2,q0,qn,fun k hk gM=>(q1 k hk gM).trans<|e1.out k gM ak,fun k x hk hx=>IG k x hk<|e1.le _ _ hx,q2,by rw[←ju];exact q3,q4,e4.trans q5,⟨q6.trans FQ,q7.trans ju,q8.trans qC⟩,q9,Si,Steps.trans e9 Sj⟩
theorem av.next(hc:gk P B Tu)(hl:∀t a,Tt<|Tu t a){fr:AF}{s2:AS}{it:Operand}{o:Oper}{ops:Array Oper}{rest:List Oper}{k:List Item}{n m:Nat}{es:List<|AV×AV}{ex:Bool}{left:List<|AV×AV}{cur:Option<|AV×AV}(e:BN fr=some (it,o,ops,rest,k))(h0:U<=s.nx)(e1:sb fr it s= .ok (n,.iter m es ex left cur) s2)(H0:left=[]->∃aR s3,og P Tu fr n m es ex o ops rest k s2= .ok aR s3/\av P B U Q aR s3)(H1:∀x r,(x,r)∈yF left->∃aR s3,oi P Tu fr n (.iter m es ex r<|some x) o ops rest k (.tuple [.bool true,x.1,x.2]) s2= .ok aR s3/\av P B U Q aR s3):av P B U Q fr s:=by
 intro ρ w b a cs bI ay hf;let⟨id,pn,mR,De,ho⟩:=aas e;let⟨h1,h2⟩:=aaH e1;let⟨hx,hg,hh,cM⟩:=gr h2;have dO:bH s2:=(Tt.bA n).cG ay.cG h2;have ht:n<top:=TJ hx ay.cG.nx;have hd:∀c,o.op≠ .defer c:=fun c q=>by rw[ho] at q;cases q
 let⟨pJ,fE,u⟩:=ay.rel.iter n m es ex left cur ht hg;let⟨bn,N,hn,qe⟩:=u.next (P:=P) o.type;have ID:VR ρ (.ptr<|some (n,0))<|a.eval it:=Eg ay.tr ay.g h1;have FK:a.eval it= .pointer (some ⟨bn,0,none⟩):=by simp only[VR] at ID;let⟨b',N',q1,q2⟩:=ID;rw[hn] at q1;cases q1;exact q2
 have Ho:∀v w',(Instr.next (.pointer<|some ⟨bn,0,none⟩) false o.type).run P w= .ok v w'->(execOp a.eval o).run P w= .ok (.value v) w':=by intro v w' q;simp only[execOp,ho,FK,TF,q,TH,TK]
 let⟨_,_,_,hB⟩:=ay.rel.block ht hg hn;have free:∀{a b:Nat},s.nx<=a->dU a b ρ:=fun ha k h1 _ h3=>hf k ak h3;rcases qe with⟨LY,ri⟩|⟨x,r,v1,v2,w',iN,FP,th,ri,IE,hblk,Sh⟩
 ·let⟨aR,s3,e3,HS⟩:=H0 LY;have jH:=(Tt.og P hl fr n m es ex o ops rest k).cG dO e3;have Dd:=(Tt.og P hl fr n m es ex o ops rest k).le dO e3;refine av.Zb bI hf ak h0 ?_ HS;unfold og at e3;let⟨u1,s4,i1,i2⟩:=M.aQ e3;let⟨u2,s5,i3,i4⟩:=M.aQ i2;let⟨t1,s6,i5,i6⟩:=M.aQ i4;let⟨t2,s7,i7,i8⟩:=M.aQ i6;obtain⟨rfl,rfl⟩:=bG i8;obtain⟨i9,rfl⟩:=ij i5;let⟨_,_,_,j1,j2⟩:=jP i1;let⟨_,_,_,j3,j4⟩:=jP i3;have Df:bH s6:=(Tt.bS m _).cG ((Tt.bS n _).cG dO i1) i3;have lF:s.h.get n=some (.iter m es ex [] cur):=by rw[hg,LY]
  have CH:Rel B ρ s6.h w:=by rw[j3,j1,hh];exact ay.rel.YV ht lF
  have Dg:VR ρ (.tuple [.bool false])<|.tuple #[.bool false]:=by simp only[VR,ax];exact⟨_,rfl,_,_,rfl,rfl,rfl⟩
  let⟨q1,q2⟩:=D4 (a:=a) ay.tr ay.nt i9 Dg;exact Jd hc hl bI pn mR De hd (Ho _ _ ri) (cI.refl _ _) ⟨q1,CH,ay.g,ay.nt,Df⟩ (by rw[j4,j2,cM]) (free (by rw[j4,j2,cM];exact Tz _)) i7
 ·let⟨aR,s3,e3,HS⟩:=H1 x r iN;have jH:=(Tt.oi P hl fr n (.iter m es ex r<|some x) o ops rest k<|.tuple [.bool true,x.1,x.2]).cG dO e3;have Dd:=(Tt.oi P hl fr n (.iter m es ex r<|some x) o ops rest k<|.tuple [.bool true,x.1,x.2]).le dO e3;refine av.Zb bI hf ak h0 ?_ HS;unfold oi at e3;let⟨u1,s4,i1,i2⟩:=M.aQ e3;let⟨t1,s6,i5,i6⟩:=M.aQ i2;let⟨t2,s7,i7,i8⟩:=M.aQ i6;obtain⟨rfl,rfl⟩:=bG i8;obtain⟨i9,rfl⟩:=ij i5;let⟨_,_,_,j1,j2⟩:=jP i1;have Df:bH s6:=(Tt.bS n _).cG dO i1;have CH:Rel B ρ s6.h w':=by rw[j1,hh];exact ay.rel.XH ht hg hn IE hblk Sh
  have Dg:VR ρ (.tuple [.bool true,x.1,x.2])<|.tuple #[.bool true,v1,v2]:=by simp only[VR,ax];exact⟨_,rfl,_,_,rfl,rfl,_,_,rfl,FP,_,_,rfl,th,rfl⟩
  let⟨q1,q2⟩:=D4 (a:=a) ay.tr ay.nt i9 Dg;exact Jd hc hl bI pn mR De hd (Ho _ _ ri) (IE.below<|hB rfl) ⟨q1,CH,ay.g,ay.nt,Df⟩ (by rw[j2,cM]) (free (by rw[j2,cM];exact Tz _)) i7
end
end
section
variable {off:Nat} {cs:List AV}
theorem aeI{B:aE}{ρ fp:Ren}{h h0:Tr ah}{w:World}{j b:Nat}{c:Array Value}{e:TypeId}{fr:Nat×Nat}(R0:Rel (qh B ρ w) fp h0 w)(Ia:∀n o,n<top->h0.get n=some o->o.nq=true)(ji:fp (hn j b off)=none)(hF:B.F j=some cs)(hb:w.heap[b]? =some (.cells c e fr))(rG:∀i x,cs[i]? =some x->∃v,c[off+i]? =some v/\VR (gK fp) x v/\x.bM=true)(hold:∀k,ρ k≠none->eW fp (hn j b off) (b,0) k≠none):
 Rel (qh B (eW fp (hn j b off) (b,0)) w) (eW fp (hn j b off) (b,0)) h0 w:=by
 have hl:fp.le<|eW fp (hn j b off) (b,0):=oh ji;have cH:∀k,k<top->eW fp (hn j b off) (b,0) k=fp k:=fun k hk=>gO _ _ (by have:=gb j b off;omega);have hnw:∀x,kG (eW fp (hn j b off) (b,0)) h0 x:=fun x m o N hm hg hr=>by rw[ah.kL<|Ia m o hm hg] at hr;cases hr
 refine⟨fun n o fC ho=>?_,fun n m o p b1 N M fC hm h1 h2 cV e1 e2=>?_,fun n m es ex left cur fC ho=>?_,R0.size,R0.lone,fun n x sh q=>?_,?_⟩
 ·let⟨b1,N,o',i1,i2,i3,i4⟩:=R0.is n o fC ho;exact⟨b1,N,o',hl _ _ i1,i2,i3.mono hl,i4⟩
 ·rw[cH n fC] at e1;rw[cH m hm] at e2;exact R0.one n m o p b1 N M fC hm h1 h2 cV e1 e2
 ·have:=Ia n _ fC ho;cases this
 ·by_cases z:hn n x sh=hn j b off
  ·obtain⟨rfl,rfl,rfl⟩:=Es z;refine⟨.inl q,cs,c,e,fr,hF,hb,hnw _,fun i y hy=>?_⟩;let⟨v,k1,k2,k3⟩:=rG i y hy;exact⟨v,k1,VR.mono (D1 hl) _ _ k2,k3⟩
  ·have q':fp (hn n x sh)≠none:=by rw[gO _ _ z] at q;exact q
   let⟨_,l,c1,e1,aR,g1,g2,_,g4⟩:=R0.fz n x sh q';refine⟨.inl q,l,c1,e1,aR,g1,g2,hnw _,fun i y hy=>?_⟩;let⟨v,k1,k2,k3⟩:=g4 i y hy;exact⟨v,k1,VR.mono (D1 hl) _ _ k2,k3⟩
 ·refine vh.no (fun n k v fC hg=>by have:=Ia n _ fC hg;cases this) ⟨R0.tk.1.1,fun m o hm hg hf=>?_⟩;let⟨b1,N,e1,e2⟩:=R0.tk.1.2 m o hm hg hf;exact⟨b1,N,hl _ _ e1,e2⟩
section
def E4(len:Nat):cx->Bool
 | .known c=>Tw len c
 | .au _ _=>true
 | .lost=>false
end
theorem abR{o:ah}{k:Nat}(h:cellsOf (some o) off k=some cs):∃m t z,o= .cells m t z/\off+k<=m/\ly t z k off=some cs:=by
 unfold cellsOf at h;split at h
 ·rename_i m t z e;injection e with e
  split at h
  ·rename_i q;exact⟨m,t,z,e,aI.1 q,h⟩
  ·cases h
 ·cases h
end
section
variable {r2 r1 N n:Nat} {ρ σ:Ren} {o':Obj} {cs a rest b:List AV} {y v:AV} {sp:Sp} {s:AS} {o:ah} {F:Nat->Option (List AV)}
def bt(cs:List AV):ah:=.cells cs.length (Tr.fill cs 0 .nil) []
theorem aeJ(ha:a.length<=top)(hb:b.length<=top)(h:bt a=bt b):a=b:=by
 unfold bt at h;injection h with h1 h2 _
 refine U2 fun i=>?_;by_cases q:i<a.length
 ·have e1:=zM ha q;have e2:=zM hb (show i<b.length by omega);rw[←e1, ←e2,h2]
 ·rw[Uf ak,Uf ak]
open Classical in
def rowOf(o:ah):Option<|List AV:=if h:∃cs,cs.length<=top/\o=bt cs then some h.choose else none
theorem JB(h:rowOf o=some cs):o=bt cs/\cs.length<=top:=by
 unfold rowOf at h;split at h
 ·rename_i q;injection h with h;rw[←h];exact⟨q.choose_spec.2,q.choose_spec.1⟩
 ·cases h
theorem JC(h:cs.length<=top):rowOf (bt cs)=some cs:=by unfold rowOf;have q:∃xK,xK.length<=top/\bt cs=bt xK:=⟨cs,h,rfl⟩;rw[dif_pos q];exact congrArg some (aeJ h q.choose_spec.1 q.choose_spec.2).symm
structure RS where
 pre:List AV
 len:Nat
 cap:cx
 post:List AV
def eB(R:RS)(r1 r2:Nat):List AV:=R.pre++(.ptr (some (r1,0)):: .slice (some (r2,0)) R.len R.cap::R.post)
def rootOf(kp:Nat)(cs:List AV):Option<|RS×Nat×Nat:=match cs.drop kp with
 | .ptr (some (r1,0)):: .slice (some (r2,0)) len cap::post=>some (⟨cs.take kp,len,cap,post⟩,r1,r2)
 |_=>none
theorem aaK{R:RS}{kp:Nat}(h:R.pre.length=kp):rootOf kp (eB R r1 r2)=some (R,r1,r2):=by subst h;unfold rootOf eB;rw[List.drop_left,VX];rfl
theorem ajt{kp:Nat}{q:RS×Nat×Nat}(h:rootOf kp cs=some q):cs=eB q.1 q.2.1 q.2.2:=by
 unfold rootOf at h;split at h
 ·rename_i e;injection h with h;subst h
  unfold eB;rw[←e,VP]
 ·cases h
structure VS where
 R:RS
 u:AV
 row:List AV
def yL(k:Nat)(o:ah):Option AV:=match o with
 | .tok k' v=>(match Tx k k' with|true=>some v|false=>none)
 |_=>none
theorem OE{k:Nat}(h:yL k o=some v):o= .tok k v:=by
 unfold yL at h;split at h
 ·split at h
  ·rename_i q;injection h with h;rw[h,Ug q]
  ·cases h
 ·cases h
theorem OF{k:Nat}:yL k (.tok k v)=some v:=by show(match Tx k k with|true=>some v|false=>none)=some v;rw[eP.2 rfl]
def tK(R:RS):Bool:=R.pre.all AV.cN&&R.post.all AV.cN
def bT(kp:Nat)(st:VS):Bool:=tK st.R&&(st.row.all AV.cN&&(Tw (eB st.R 0 0).length top&&Tw st.row.length top))
section
def nN(kp k:Nat)(val:VS->List AV->Option (AV×VS))(U:Nat)(ns:List Nat)(h0:Tr ah):aJ->List AV->M AV:=fun _ args=>match args with
 | .ptr (some (n,0))::rest=>aG (rest.all AV.hi) <| (gj U h0 ns).bind fun _=>(bA n).bind fun o=>aB (rowOf o) fun cs=>aB (rootOf kp cs) fun q=>(bA q.2.1).bind fun o1=>aB (yL k o1) fun u=>(bA q.2.2).bind fun o2=>aB (rowOf o2) fun row=>
  aG (tK q.1&&row.all AV.cN) <| aG (!Nat.beq n q.2.1&&(!Nat.beq n q.2.2&& !Nat.beq q.2.1 q.2.2)) <| aB (val ⟨q.1,u,row⟩ rest) fun p=>aG (p.1.hi&&bT kp p.2) <|
  (bS n<|some<|bt<|eB p.2.R q.2.1 q.2.2).bind fun _=>(lG q.2.1<|some<|.tok k p.2.u).bind fun _=>(bS q.2.2<|some<|bt p.2.row).bind fun _=>M.pure p.1
 |_=>fail
def dW(U k:Nat)(st:VS):List<|Nat×ah:=[(U,bt<|eB st.R (U+1)<|U+2),(U+1,.tok k st.u),(U+2,bt st.row)]
end
theorem Tt.nN(kp k:Nat)(val:VS->List AV->Option (AV×VS))(U:Nat)(ns:List Nat)(h0:Tr ah)(Tu:aJ)(args:List AV):Tt<|nN kp k val U ns h0 Tu args:=by
 unfold Rn.nN;split
 ·exact Tt.aG fun _=>Tt.bind (Tt.gj U h0 ns) fun _=>Tt.bind (Tt.bA _) fun _=>Tt.aB fun _ _=>Tt.aB fun _ _=>Tt.bind (Tt.bA _) fun _=>Tt.aB fun _ _=>Tt.bind (Tt.bA _) fun _=>Tt.aB fun _ _=>Tt.aG fun _=>Tt.aG fun _=>Tt.aB fun _ _=>Tt.aG fun _=>Tt.bind (Tt.bS _ _) fun _=>Tt.bind (Tt.lG _ _) fun _=>Tt.bind (Tt.bS _ _) fun _=>Tt.pure _
 ·exact Tt.fail
def iE(U k:Nat)(P:Program)(rs:List ResultVar)(y:AV)(st:VS):=Fin P rs fun y1 s'=>y1=y/\∀m o,(m,o)∈dW U k st->s'.h.get m=some o
theorem W2(ha:a.length<=top)(hb:b.length<=top)(hl:b.length=a.length)(hc:∀(i:Nat) (x y:AV),a[i]? =some x->b[i]? =some y->(x.bM=true->y.bM=true)/\∀v,VR ρ x v->VR σ y v)(h:OR ρ N (bt a) o'):OR σ N (bt b) o':=by unfold bt at h ⊢;simp only[OR] at h ⊢;obtain⟨c,e,rfl,h1,h2,h3⟩:=h;refine⟨c,e,rfl,h1,by omega,fun i hi=>?_⟩;let⟨x,v,k1,k2,k3,k4⟩:=h3 i ak;rw[zM ha ak] at k1;have gS:b[i]? =some (b[i]'hi):=TE hi;let⟨q1,q2⟩:=hc i x _ k1 gS;exact⟨_,v,by rw[zM hb hi];exact gS,q1 k2,k3,q2 v k4⟩
theorem Hz(jI:jo ρ σ)(ha:a.length<=top)(hh:a.all AV.cN=true)(h:OR ρ N (bt a) o'):OR σ N (bt a) o':=W2 ha ha rfl (fun i x y e1 e2=>by rw[e1] at e2;cases e2;exact⟨id,fun v k=>AV.wx jI (TG.1 hh x<|TY e1) k⟩) h
theorem BG{R:RS}{r3 r4:Nat}:(eB R r1 r2).length=(eB R r3 r4).length:=by unfold eB;simp only[TM,TL]
theorem Kg{R:RS}{s1 s2:Nat}(jI:jo ρ σ)(hl:(eB R r1 r2).length<=top)(hR:tK R=true)(e1:∀x,ρ r1=some x->σ s1=some x)(e2:∀x,ρ r2=some x->σ s2=some x)(h:OR ρ N (bt<|eB R r1 r2) o'):OR σ N (bt<|eB R s1 s2) o':=by
 let⟨hp,hq⟩:=and_true.1 hR;refine W2 hl (by rw[BG (r3:=r1) (r4:=r2)];exact hl) BG (fun i x y k1 k2=>?_) h;unfold eB at k1 k2;by_cases c1:i<R.pre.length
 ·rw[Ux c1] at k1 k2;rw[k1] at k2;cases k2;exact⟨id,fun v k=>AV.wx jI (TG.1 hp x<|TY k1) k⟩
 ·rw[UJ ak] at k1 k2;generalize i - R.pre.length=j at k1 k2
  match j with
  |0=>simp only[UA,Ud] at k1 k2;subst k1;subst k2;refine⟨fun _=>rfl,fun v k=>?_⟩;simp only[VR] at k ⊢;let⟨b,N,a1,a2⟩:=k;exact⟨b,N,e1 _ a1,a2⟩
  |1=>
   simp only[Wh,UA,Ud] at k1 k2;subst k1;subst k2;refine⟨fun _=>rfl,fun v k=>?_⟩;generalize R.cap=cp at k ⊢;cases cp<;>simp only[VR] at k ⊢
   ·let⟨b,N,a1,a2⟩:=k;exact⟨b,N,e2 _ a1,a2⟩
   ·let⟨b,N,c,a1,a2⟩:=k;exact⟨b,N,c,e2 _ a1,a2⟩
   ·let⟨l,b,N,p,c,a1,a2⟩:=k;exact⟨l,b,N,p,c,e2 _ a1,a2⟩
  |j+2=>simp only[Wh] at k1 k2;rw[k1] at k2;cases k2;exact⟨id,fun v k=>AV.wx jI (TG.1 hq x<|TY k1) k⟩
theorem adv{P:Program}{B:aE}{f U kp k:Nat}{ns:List Nat}{h0:Tr ah}{kn:List<|Nat×Option ah}{val:VS->List AV->Option (AV×VS)}{fn:Func}{body:Code}{w:World}{s1:AS}(hP:bY P)(cv:P.funcs[f]? =some fn)(cF:fn.body=some body)(dF:(fn.name == "runtime.NumGoroutine")=false)(fS:fY<=U)(dI:U+3<=top)(dL:∀n o,n<top->h0.get n=some o->n∈ns)(eH:∀n∈ns,n<U)(jG:∀n o,(n,some o)∈kn->h0.get n=some o)(jJ:∀p∈kn,p.1<top)(eX:∀st rest y br,val st rest=some (y,br)->max fn.ntmps (rest.length+1)<=top/\∀B':aE,B'.F=B.F->B'.inv=B.inv->
 av P B' (U+3) (iE U k P fn.results.toList y br) ⟨f,dZ<|.ptr (some (U,0))::rest,max fn.ntmps<|rest.length+1,[.code body],[],none⟩ ⟨gm<|kn++bf (dW U k st),U+3,0,[],[]⟩){Tu:aJ}{args:List AV}{x:AV}{vs:Array Value}(r:Rel B ρ s.h w)(hg:gG ρ)(h:nN kp k val U ns h0 Tu args s= .ok x s1)(hv:ax ρ args vs.toList):jj P ((callFunc f vs).run P w)<|ky B ρ s s1 w x:=by
 unfold nN at h;split at h
 case h_2=>cases h
 rename_i n rest;let⟨gV,h⟩:=dv h;let⟨u,s2,h2,h⟩:=M.aQ h;let⟨a1,a2,a3⟩:=vU h2;let⟨o,s3,k1,h⟩:=M.aQ h;let⟨cs,m1,h⟩:=bz h;let⟨q,m2,h⟩:=bz h;let⟨o1,s4,k2,h⟩:=M.aQ h;let⟨tv,m3,h⟩:=bz h;let⟨o2,s5,k3,h⟩:=M.aQ h;let⟨row,m4,h⟩:=bz h;let⟨fH,h⟩:=dv h;let⟨Ib,fx⟩:=and_true.1 fH;let⟨cz,h⟩:=dv h;let⟨p,hp,h⟩:=bz h;let⟨lT,h⟩:=dv h;let⟨SJ,hS⟩:=and_true.1 lT;let⟨hSR,hS⟩:=and_true.1 hS;let⟨ajC,hS⟩:=and_true.1 hS;let⟨hSl,alb⟩:=and_true.1 hS;let⟨_,t1,w1,h⟩:=M.aQ h;let⟨_,t2,w2,h⟩:=M.aQ h;let⟨_,t3,w3,h⟩:=M.aQ h;obtain⟨rfl,rfl⟩:=bG h;let⟨R,n1,n2⟩:=q;let⟨y,br⟩:=p;have Ft:n≠n1/\n≠n2/\n1≠n2:=by
  let⟨c1,c2⟩:=and_true.1 cz;let⟨c2,c3⟩:=and_true.1 c2;refine⟨fun e=>?_,fun e=>?_,fun e=>?_⟩<;>subst e
  ·rw[eP.2 rfl] at c1;cases c1
  ·rw[eP.2 rfl] at c2;cases c2
  ·rw[show Tx n1 n1=true from eP.2 rfl] at c3;cases c3
 let⟨d1,d2,d3⟩:=Ft;obtain⟨rfl,pI⟩:=JB m1;have rG:=ajt m2;subst rG;have IV:=OE m3;subst IV;obtain⟨rfl,DA⟩:=JB m4;let⟨b1,b2,b3,b4⟩:=gr k1;let⟨b5,b6,b7,b8⟩:=gr k2;let⟨b9,SK,SL,SM⟩:=gr k3;let⟨x1,x2,_,x4,x5⟩:=jP w1;let⟨y1,y2,y3,y4⟩:=amX w2;let⟨z1,z2,_,z4,z5⟩:=jP w3;have g1:s.h.get n=some (bt<|eB R n1 n2):=by rw[←a1];exact b2
 have g2:s.h.get n1=some (.tok k tv):=by rw[←a1, ←b3];exact b6
 have g3:s.h.get n2=some (bt row):=by rw[←a1, ←b3, ←b7];exact SK
 let V:Vw:=[(U,n,bt<|eB R (U+1)<|U+2),(U+1,n1,.tok k tv),(U+2,n2,bt row)];have mem:∀q∈V,q=(U,n,bt<|eB R (U+1)<|U+2)\/q=(U+1,n1,.tok k tv)\/q=(U+2,n2,bt row):=fun q hq=>by simpa[V] using hq
 have V0:(U,n,bt<|eB R (U+1)<|U+2)∈V:=by simp[V]
 have V1:(U+1,n1,ah.tok k tv)∈V:=by simp[V]
 have V2:(U+2,n2,bt row)∈V:=by simp[V]
 have e0:fA U ρ V U=ρ n:=by
  unfold fA;rw[if_neg ak,if_neg ak];have:gY V U=some n:=by simp[gY,V]
  rw[this]
 have e1:fA U ρ V (U+1)=ρ n1:=by
  unfold fA;rw[if_neg ak,if_neg ak];have:gY V (U+1)=some n1:=by simp[gY,V]
  rw[this]
 have e2:fA U ρ V (U+2)=ρ n2:=by
  unfold fA;rw[if_neg ak,if_neg ak];have:gY V (U+2)=some n2:=by simp[gY,V]
  rw[this]
 have hi:jo ρ<|fA U ρ V:=fun m x hm e=>by rw[zX ak hm];exact e
 have hV:Be U ρ s.h V:=by
  refine⟨fun q hq=>?_,fun q hq q' eN e=>?_,fun q hq q' eN e=>?_,fun q hq=>?_⟩
  ·rcases mem q hq with rfl|rfl|rfl
   ·exact⟨Tz _,by show U<top;omega,x2⟩
   ·exact⟨by show U<=U+1;omega,by show U+1<top;omega,y2⟩
   ·exact⟨by show U<=U+2;omega,by show U+2<top;omega,z2⟩
  ·rcases mem q hq with rfl|rfl|rfl<;>rcases mem q' eN with rfl|rfl|rfl<;>first|rfl|(simp only at e;omega)
  ·rcases mem q hq with rfl|rfl|rfl<;>rcases mem q' eN with rfl|rfl|rfl<;>first|rfl|(exact absurd e<|by assumption)|(exact absurd e.symm<|by assumption)
  ·rcases mem q hq with rfl|rfl|rfl
   ·exact⟨_,g1,.inl ⟨rfl,rfl,fun N o' hO=>Kg hi pI Ib (fun x e=>e1.trans e) (fun x e=>e2.trans e) hO⟩⟩
   ·exact⟨_,g2,.inr ⟨k,tv,rfl,rfl⟩⟩
   ·exact⟨_,g3,.inl ⟨rfl,rfl,fun N o' hO=>Hz hi DA fx hO⟩⟩
 let⟨_,dm,T⟩:=r.tk;have T:Fs B ρ s.h w dm:=T;have oy:=Lx ak r T dL eH jG jJ (fun n hn=>by let⟨_,o,p,h⟩:=a3 n hn;exact⟨o,p,h⟩) hV;let⟨q1,q2⟩:=eX _ _ _ _ hp;have fi:bH (⟨gm<|kn++bf (dW U k ⟨R,tv,row⟩),U+3,0,[],[]⟩:AS):=⟨TN _,dI⟩;have kO:ax (fA U ρ V) (.ptr (some (U,0))::rest) vs.toList:=by simp only[ax,VR] at hv ⊢;let⟨v0,vr,q1,⟨b',N',q2,q3⟩,q4⟩:=hv;exact⟨v0,vr,q1,⟨b',N',e0.trans q2,q3⟩,AV.Ce hi gV q4⟩
 have bQ:=av.G7 (B:=uI B ρ w<|wH ρ dm V) (s:=⟨gm<|kn++bf (dW U k ⟨R,tv,row⟩),U+3,0,[],[]⟩) (args:=.ptr (some (U,0))::rest) (vs:=vs) hP cv cF q1 (q2 _ rfl rfl) fi oy (fun g iV=>by
  let⟨N,e⟩:=hg g iV;exact⟨N,by rw[Ej<|TJ iV fS];exact e⟩) (fun m hm kJ=>by
  have hm:U+3<=m:=hm;exact Jx ak kJ fun q hq=>by rcases mem q hq with rfl|rfl|rfl<;>(show _≠m;simp only;omega)) kO
 rw[tT cv cF dF];show Calls P f vs w _;refine bQ.mono fun e w'=>?_;rintro ⟨Dq,x',s7,rfl,⟨rfl,hL⟩,_,σ,i0,Dr,i1,i2,i3⟩;have sV:∀q∈V,σ q.1=ρ q.2.1:=fun q hq=>by
  rcases mem q hq with rfl|rfl|rfl
  ·exact(i0 U ak ak).trans e0
  ·exact(i0 (U+1) ak ak).trans e1
  ·exact(i0 (U+2) ak ak).trans e2
 have j1:=hL U _ (by simp[dW];rfl);have j2:=hL (U+1) (.tok k br.u) (by simp[dW]);have j3:=hL (U+2) (bt br.row) (by simp[dW]);have j9:(eB br.R (U+1)<|U+2).length<=top:=by rw[BG (r3:=0) (r4:=0)];exact aI.1 hSl
 have HA:∀k,k<top->cS ρ σ k=ρ k:=fun k hk=>by unfold cS;rw[if_neg ak]
 have rM:jo σ<|cS ρ σ:=fun k x hk e=>by unfold cS;rw[if_pos hk];exact e
 let⟨f1,f2,f3,f4⟩:=KG (a:=s.nx) (L2:=[(n,bt<|eB br.R n1 n2),(n1,.tok k br.u),(n2,bt br.row)]) (h':=s1.h) r T hV i2 i3 sV (fun m z hm q=>Dr m z hm<|hi m z hm q) (fun m q hm=>by
  rcases Ty.1 hm with hm|hm
  ·cases hm;exact⟨_,V0,rfl,_,j1,.inl ⟨rfl,rfl,fun N o' hO=>Kg rM j9 hSR (fun x e=>by rw[HA _ y2, ←sV _ V1];exact e) (fun x e=>by rw[HA _ z2, ←sV _ V2];exact e) hO⟩⟩
  rcases Ty.1 hm with hm|hm
  ·cases hm;exact⟨_,V1,rfl,_,j2,.inr ⟨k,_,tv,rfl,rfl,rfl⟩⟩
  rcases Ty.1 hm with hm|hm
  ·cases hm;exact⟨_,V2,rfl,_,j3,.inl ⟨rfl,rfl,fun N o' hO=>Hz rM (aI.1 alb) ajC hO⟩⟩
  cases hm) (fun q hq cL=>by
  rcases mem q hq with rfl|rfl|rfl
  ·exact⟨_,j1,rfl⟩
  ·cases cL
  ·exact⟨_,j3,rfl⟩) (fun m hm=>by
  have IK:s1.h=((s.h.put n<|some<|bt<|eB br.R n1 n2).put n1<|some<|.tok k br.u).put n2 (some<|bt br.row):=by rw[z4,y3,x4,SL,b7,b3,a1]
  rw[IK,Tr.dy _ _ _ _ z2 hm,Tr.dy _ _ _ _ y2 hm,Tr.dy _ _ _ _ x2 hm];by_cases c3:m=n2
  ·subst c3;exact .inl ⟨_,by simp,if_pos rfl⟩
  rw[if_neg c3];by_cases c2:m=n1
  ·subst c2;exact .inl ⟨_,by simp,if_pos rfl⟩
  rw[if_neg c2];by_cases c1:m=n
  ·subst c1;exact .inl ⟨_,by simp,if_pos rfl⟩
  rw[if_neg c1];exact .inr ⟨fun q hq=>by rcases mem q hq with rfl|rfl|rfl<;>(intro e;exact absurd e.symm<|by assumption),rfl⟩)
 refine⟨Dq,rfl,cS ρ σ,?_,AV.ou rM SJ i1,f3,f4⟩;have cM:s1.nx=s.nx:=by rw[z5,y4,x5,SM,b8,b4,a2]
 rw[cM];exact f1
section
variable {X:TX} {P:Program} {U kp k:Nat} {ns:List Nat} {h0:Tr ah} {kn:List<|Nat×Option ah} {L L':bV} {g:Nat} {fn:Func} {body:Code}
theorem JX(hP:bY P)(fS:fY<=U)(dI:U+3<=top)(dL:∀n o,n<top->h0.get n=some o->n∈ns)(eH:∀n∈ns,n<U)(jG:∀n o,(n,some o)∈kn->h0.get n=some o)(jJ:∀p∈kn,p.1<top){val:VS->List AV->Option (AV×VS)}(h:eF X U P<|dE U ns h0 L)(h':eF X U P<|dE U ns h0 L')(cv:P.funcs[g]? =some fn)(cF:fn.body=some body)(dF:(fn.name == "runtime.NumGoroutine")=false)(eX:∀st rest y br,val st rest=some (y,br)->max fn.ntmps (rest.length+1)<=top/\∀B:aE,ry X P U ns h0 L' B->
 av P B (U+3) (iE U k P fn.results.toList y br) ⟨g,dZ<|.ptr (some (U,0))::rest,max fn.ntmps<|rest.length+1,[.code body],[],none⟩ ⟨gm<|kn++bf (dW U k st),U+3,0,[],[]⟩):eF X U P<|dE U ns h0<|(g,.raw<|nN kp k val)::L:=by
 refine(show eF X U P (pA (dE U ns h0 L) g<|nN kp k val U ns h0) from h.cX (fun Tu _ args=>Tt.nN _ _ _ _ _ _ Tu args) fun B hB hT Tu hc hl args x s s1 ρ w vs fi r hg hf hm hv=>?_);refine adv hP cv cF dF fS dI dL eH jG jJ (fun st rest y br e=>?_) r hg hm hv;let⟨q1,q2⟩:=eX st rest y br e;exact⟨q1,fun B' l6 l7=>q2 B'<|sK hP h' (l6.trans hB)<|l7.trans hT⟩
end
theorem HB(n:Nat)(o:Option ah)(s:AS):(fN n o s).nx=s.nx/\(fN n o s).h=s.h.put n o:=by unfold fN;cases Tv n s.mark<;>exact⟨rfl,rfl⟩
theorem adw{P:Program}{g U kp k:Nat}{h0:Tr ah}{ns:List Nat}{val:VS->List AV->Option (AV×VS)}(h:sp g=some (nN kp k val U ns h0)){a:Nat}{st br:VS}(hk:nu U h0 ns s=true)(hr:rest.all AV.hi=true)(hd:(!Nat.beq a r1&&(!Nat.beq a r2&& !Nat.beq r1 r2))=true)(hn:(Tv a (de U h0 ns s).nx&&(Tv r1 (de U h0 ns s).nx&&Tv r2 (de U h0 ns s).nx))=true)(ht:(Tv a top&&(Tv r1 top&&Tv r2 top))=true)(g1:(de U h0 ns s).h.get a=some (bt<|eB st.R r1 r2))(g2:(de U h0 ns s).h.get r1=some (.tok k st.u))(g3:(de U h0 ns s).h.get r2=some (bt st.row))(DB:st.R.pre.length=kp)(ho:bT kp st=true)(hv:val st rest=some (y,br))(hy:y.hi=true)(ll:bT kp br=true):
 ba P sp F (n+1) (.fn g) (.ptr (some (a,0))::rest) s= .ok y (fN r2 (some<|bt br.row)<|fN r1 (some<|.tok k br.u)<|fN a (some<|bt<|eB br.R r1 r2)<|aU r2<|aU r1<|aU a<|de U h0 ns s):=by
 let⟨R,u,row⟩:=st;show jv P sp g (ba P sp F n) (.ptr (some (a,0))::rest) s=_;rw[p6 h];have C5:=ho;let⟨o1,ho⟩:=and_true.1 ho;let⟨o2,ho⟩:=and_true.1 ho;let⟨o3,o4⟩:=and_true.1 ho;let⟨n1,hn⟩:=and_true.1 hn;let⟨n2,n3⟩:=and_true.1 hn;let⟨t1,ht⟩:=and_true.1 ht;let⟨t2,t3⟩:=and_true.1 ht;have cz:a≠r1/\a≠r2/\r1≠r2:=by
  let⟨c1,c2⟩:=and_true.1 hd;let⟨c2,c3⟩:=and_true.1 c2;refine⟨fun e=>?_,fun e=>?_,fun e=>?_⟩<;>subst e
  ·rw[eP.2 rfl] at c1;cases c1
  ·rw[eP.2 rfl] at c2;cases c2
  ·rw[show Tx r1 r1=true from eP.2 rfl] at c3;cases c3
 let⟨d1,d2,d3⟩:=cz;have ta:=(blt_eq _ _).mp t1;have tb:=(blt_eq _ _).mp t2;have tc:=(blt_eq _ _).mp t3;show(aG (rest.all AV.hi) <| (gj U h0 ns).bind fun _=>(bA a).bind fun o=>aB (rowOf o) fun cs=>aB (rootOf kp cs) fun q=>(bA q.2.1).bind fun o1=>aB (yL k o1) fun u=>(bA q.2.2).bind fun o2=>aB (rowOf o2) fun row=>
  aG (tK q.1&&row.all AV.cN) <| aG (!Nat.beq a q.2.1&&(!Nat.beq a q.2.2&& !Nat.beq q.2.1 q.2.2)) <| aB (val ⟨q.1,u,row⟩ rest) fun p=>aG (p.1.hi&&bT kp p.2) <|
  (bS a<|some<|bt<|eB p.2.R q.2.1 q.2.2).bind fun _=>(lG q.2.1<|some<|.tok k p.2.u).bind fun _=>(bS q.2.2<|some<|bt p.2.row).bind fun _=>M.pure p.1) s=_
 rw[hr,dR,M.bO<|yr hk,M.bO<|mo n1 g1];generalize de U h0 ns s=z at*;rw[JC (by rw[BG (r3:=0) (r4:=0)];exact aI.1 o3),bW,aaK DB,bW];have SN:Tv r1 (aU a z).nx=true:=by rw[(gd a z).2.1];exact n2
 have A0:(aU a z).h.get r1=some (.tok k u):=by rw[(gd a z).1];exact g2
 rw[M.bO<|mo SN A0,OF,bW];have SO:Tv r2 (aU r1<|aU a z).nx=true:=by rw[(gd r1 _).2.1,(gd a z).2.1];exact n3
 have SP:(aU r1<|aU a z).h.get r2=some (bt row):=by rw[(gd r1 _).1,(gd a z).1];exact g3
 rw[M.bO<|mo SO SP,JC<|aI.1 o4,bW];show(aG (tK R&&row.all AV.cN) <| aG (!Nat.beq a r1&&(!Nat.beq a r2&& !Nat.beq r1 r2)) <| aB (val ⟨R,u,row⟩ rest) fun p=>aG (p.1.hi&&bT kp p.2) <| (bS a<|some<|bt<|eB p.2.R r1 r2).bind fun _=>(lG r1<|some<|.tok k p.2.u).bind fun _=>(bS r2<|some<|bt p.2.row).bind fun _=>M.pure p.1) (aU r2<|aU r1<|aU a z)=_;rw[show tK R=true from o1,show row.all AV.cN=true from o2,hd,hv];show(aG true <| aG true <| aB (some (y,br)) fun p=>aG (p.1.hi&&bT kp p.2) <| (bS a<|some<|bt<|eB p.2.R r1 r2).bind fun _=>(lG r1<|some<|.tok k p.2.u).bind fun _=>(bS r2<|some<|bt p.2.row).bind fun _=>M.pure p.1) (aU r2<|aU r1<|aU a z)=_;rw[dR,dR,bW];show(aG (y.hi&&bT kp br) <| (bS a<|some<|bt<|eB br.R r1 r2).bind fun _=>(lG r1<|some<|.tok k br.u).bind fun _=>(bS r2<|some<|bt br.row).bind fun _=>M.pure y) (aU r2<|aU r1<|aU a z)=_;rw[hy,ll];show(aG true <| (bS a<|some<|bt<|eB br.R r1 r2).bind fun _=>(lG r1<|some<|.tok k br.u).bind fun _=>(bS r2<|some<|bt br.row).bind fun _=>M.pure y) (aU r2<|aU r1<|aU a z)=_;rw[dR];have zz:(aU r2<|aU r1<|aU a z).nx=z.nx/\(aU r2<|aU r1<|aU a z).h=z.h:=⟨by rw[(gd r2 _).2.1,(gd r1 _).2.1,(gd a z).2.1],by rw[(gd r2 _).1,(gd r1 _).1,(gd a z).1]⟩;generalize aU r2 (aU r1<|aU a z)=v at*;rw[M.bO<|yf (by rw[zz.1];exact n1) (by rw[zz.2];exact g1) rfl t1];have v1:(fN a (some<|bt<|eB br.R r1 r2) v).h.get r1=some (.tok k u):=by rw[(HB _ _ _).2,Tr.dy _ _ _ _ ta tb,if_neg<|Ne.symm d1,zz.2];exact g2
 have v2:(fN a (some<|bt<|eB br.R r1 r2) v).h.get r2=some (bt row):=by rw[(HB _ _ _).2,Tr.dy _ _ _ _ ta tc,if_neg<|Ne.symm d2,zz.2];exact g3
 have v3:(fN a (some<|bt<|eB br.R r1 r2) v).nx=z.nx:=by rw[(HB _ _ _).1,zz.1]
 generalize fN a (some<|bt<|eB br.R r1 r2) v=v' at*;rw[M.bO<|PD (by rw[v3];exact n2) v1 rfl t2];rw[M.bO<|yf (by rw[(HB _ _ _).1,v3];exact n3) (by rw[(HB _ _ _).2,Tr.dy _ _ _ _ tb tc,if_neg<|Ne.symm d3];exact v2) rfl t3];rfl
section
def HC(U:Nat)(h0:Tr ah)(ns:List Nat)(k a r1 r2:Nat)(st:VS)(s:AS):Prop:=nu U h0 ns s=true/\(Tv a (de U h0 ns s).nx&&(Tv r1 (de U h0 ns s).nx&&Tv r2 (de U h0 ns s).nx))=true/\(de U h0 ns s).h.get a=some (bt<|eB st.R r1 r2)/\(de U h0 ns s).h.get r1=some (.tok k st.u)/\(de U h0 ns s).h.get r2=some (bt st.row)
def LL(U:Nat)(h0:Tr ah)(ns:List Nat)(k a r1 r2:Nat)(br:VS)(s:AS):AS:=fN r2 (some<|bt br.row)<|fN r1 (some<|.tok k br.u)<|fN a (some<|bt<|eB br.R r1 r2)<|aU r2<|aU r1<|aU a<|de U h0 ns s
def YA(U:Nat)(h0:Tr ah)(ns:List Nat)(a r1 r2:Nat)(s:AS):AS:=aU r2<|aU r1<|aU a<|de U h0 ns s
end
theorem ahR{a b c:ah}{T:Prop}(t:T):(true=true/\true=true/\some a=some a/\some b=some b/\some c=some c)/\T:=⟨⟨rfl,rfl,rfl,rfl,rfl⟩,t⟩
theorem PQ{P:Program}{g U kp k:Nat}{h0:Tr ah}{ns:List Nat}{val:VS->List AV->Option (AV×VS)}(h:sp g=some (nN kp k val U ns h0)){a:Nat}{st br:VS}(hr:rest.all AV.hi=true)(hd:(!Nat.beq a r1&&(!Nat.beq a r2&& !Nat.beq r1 r2))=true)(ht:(Tv a top&&(Tv r1 top&&Tv r2 top))=true)(DB:st.R.pre.length=kp)(ho:bT kp st=true)(hv:val st rest=some (y,br))(hy:y.hi=true)(ll:bT kp br=true):
 ∀s,HC U h0 ns k a r1 r2 st s->ba P sp F (n+1) (.fn g) (.ptr (some (a,0))::rest) s= .ok y (LL U h0 ns k a r1 r2 br s):=
 fun _ q=>adw h q.1 hr hd q.2.1 ht q.2.2.1 q.2.2.2.1 q.2.2.2.2 DB ho hv hy ll
end
section
variable {y:AV} {st:VS} {sp:Sp} {s:AS} {rest:List AV} {r2 r1 n a:Nat} {F:Nat->Option (List AV)}
section
def nP(kp k:Nat)(val:VS->List AV->Option AV)(U:Nat)(ns:List Nat)(h0:Tr ah):aJ->List AV->M AV:=fun _ args=>match args with
 | .ptr (some (n,0))::rest=>aG (rest.all AV.hi) <| (gj U h0 ns).bind fun _=>(bA n).bind fun o=>aB (rowOf o) fun cs=>aB (rootOf kp cs) fun q=>(bA q.2.1).bind fun o1=>aB (yL k o1) fun u=>(bA q.2.2).bind fun o2=>aB (rowOf o2) fun row=>aG (tK q.1&&row.all AV.cN) <| aG (!Nat.beq n q.2.1&&(!Nat.beq n q.2.2&& !Nat.beq q.2.1 q.2.2)) <| aB (val ⟨q.1,u,row⟩ rest) fun y=>aG (y.hi&&(Tv n top&&(Tv q.2.1 top&&Tv q.2.2 top))) <| M.pure y
 |_=>fail
end
theorem Tt.nP(kp k:Nat)(val:VS->List AV->Option AV)(U:Nat)(ns:List Nat)(h0:Tr ah)(Tu:aJ)(args:List AV):Tt<|nP kp k val U ns h0 Tu args:=by
 unfold Rn.nP;split
 ·exact Tt.aG fun _=>Tt.bind (Tt.gj U h0 ns) fun _=>Tt.bind (Tt.bA _) fun _=>Tt.aB fun _ _=>Tt.aB fun _ _=>Tt.bind (Tt.bA _) fun _=>Tt.aB fun _ _=>Tt.bind (Tt.bA _) fun _=>Tt.aB fun _ _=>Tt.aG fun _=>Tt.aG fun _=>Tt.aB fun _ _=>Tt.aG fun _=>Tt.pure _
 ·exact Tt.fail
theorem adx{P:Program}{B:aE}{f U kp k:Nat}{ns:List Nat}{h0:Tr ah}{kn:List<|Nat×Option ah}{val:VS->List AV->Option AV}{fn:Func}{body:Code}{ρ:Ren}{w:World}{s1:AS}(hP:bY P)(cv:P.funcs[f]? =some fn)(cF:fn.body=some body)(dF:(fn.name == "runtime.NumGoroutine")=false)(fS:fY<=U)(dI:U+3<=top)(dL:∀n o,n<top->h0.get n=some o->n∈ns)(eH:∀n∈ns,n<U)(jG:∀n o,(n,some o)∈kn->h0.get n=some o)(jJ:∀p∈kn,p.1<top)(eX:∀st rest y,val st rest=some y->bT kp st=true->max fn.ntmps (rest.length+1)<=top/\∀B':aE,B'.F=B.F->B'.inv=B.inv->
 av P B' (U+3) (iE U k P fn.results.toList y st) ⟨f,dZ<|.ptr (some (U,0))::rest,max fn.ntmps<|rest.length+1,[.code body],[],none⟩ ⟨gm<|kn++bf (dW U k st),U+3,0,[],[]⟩){Tu:aJ}{args:List AV}{x:AV}{vs:Array Value}(r:Rel B ρ s.h w)(hg:gG ρ)(h:nP kp k val U ns h0 Tu args s= .ok x s1)(hv:ax ρ args vs.toList):jj P ((callFunc f vs).run P w)<|ky B ρ s s1 w x:=by
 unfold nP at h;split at h
 case h_2=>cases h
 rename_i n rest;let⟨gV,h⟩:=dv h;let⟨u,s2,h2,h⟩:=M.aQ h;let⟨a1,a2,a3⟩:=vU h2;let⟨o,s3,k1,h⟩:=M.aQ h;let⟨cs,m1,h⟩:=bz h;let⟨q,m2,h⟩:=bz h;let⟨o1,s4,k2,h⟩:=M.aQ h;let⟨tv,m3,h⟩:=bz h;let⟨o2,s5,k3,h⟩:=M.aQ h;let⟨row,m4,h⟩:=bz h;let⟨fH,h⟩:=dv h;let⟨Ib,fx⟩:=and_true.1 fH;let⟨cz,h⟩:=dv h;let⟨y,hp,h⟩:=bz h;let⟨lT,h⟩:=dv h;let⟨SJ,lT⟩:=and_true.1 lT;let⟨x2,lT⟩:=and_true.1 lT;let⟨y2,z2⟩:=and_true.1 lT;have x2:=(blt_eq _ _).mp x2;have y2:=(blt_eq _ _).mp y2;have z2:=(blt_eq _ _).mp z2;obtain⟨rfl,rfl⟩:=bG h;let⟨R,n1,n2⟩:=q;have Ft:n≠n1/\n≠n2/\n1≠n2:=by
  let⟨c1,c2⟩:=and_true.1 cz;let⟨c2,c3⟩:=and_true.1 c2;refine⟨fun e=>?_,fun e=>?_,fun e=>?_⟩<;>subst e
  ·rw[eP.2 rfl] at c1;cases c1
  ·rw[eP.2 rfl] at c2;cases c2
  ·rw[show Tx n1 n1=true from eP.2 rfl] at c3;cases c3
 let⟨d1,d2,d3⟩:=Ft;obtain⟨rfl,pI⟩:=JB m1;have rG:=ajt m2;subst rG;have IV:=OE m3;subst IV;obtain⟨rfl,DA⟩:=JB m4;let⟨b1,b2,b3,b4⟩:=gr k1;let⟨b5,b6,b7,b8⟩:=gr k2;let⟨b9,SK,SL,SM⟩:=gr k3;have g1:s.h.get n=some (bt<|eB R n1 n2):=by rw[←a1];exact b2
 have g2:s.h.get n1=some (.tok k tv):=by rw[←a1, ←b3];exact b6
 have g3:s.h.get n2=some (bt row):=by rw[←a1, ←b3, ←b7];exact SK
 let V:Vw:=[(U,n,bt<|eB R (U+1)<|U+2),(U+1,n1,.tok k tv),(U+2,n2,bt row)];have mem:∀q∈V,q=(U,n,bt<|eB R (U+1)<|U+2)\/q=(U+1,n1,.tok k tv)\/q=(U+2,n2,bt row):=fun q hq=>by simpa[V] using hq
 have V0:(U,n,bt<|eB R (U+1)<|U+2)∈V:=by simp[V]
 have V1:(U+1,n1,ah.tok k tv)∈V:=by simp[V]
 have V2:(U+2,n2,bt row)∈V:=by simp[V]
 have e0:fA U ρ V U=ρ n:=by
  unfold fA;rw[if_neg ak,if_neg ak];have:gY V U=some n:=by simp[gY,V]
  rw[this]
 have e1:fA U ρ V (U+1)=ρ n1:=by
  unfold fA;rw[if_neg ak,if_neg ak];have:gY V (U+1)=some n1:=by simp[gY,V]
  rw[this]
 have e2:fA U ρ V (U+2)=ρ n2:=by
  unfold fA;rw[if_neg ak,if_neg ak];have:gY V (U+2)=some n2:=by simp[gY,V]
  rw[this]
 have hi:jo ρ<|fA U ρ V:=fun m x hm e=>by rw[zX ak hm];exact e
 have hV:Be U ρ s.h V:=by
  refine⟨fun q hq=>?_,fun q hq q' eN e=>?_,fun q hq q' eN e=>?_,fun q hq=>?_⟩
  ·rcases mem q hq with rfl|rfl|rfl
   ·exact⟨Tz _,by show U<top;omega,x2⟩
   ·exact⟨by show U<=U+1;omega,by show U+1<top;omega,y2⟩
   ·exact⟨by show U<=U+2;omega,by show U+2<top;omega,z2⟩
  ·rcases mem q hq with rfl|rfl|rfl<;>rcases mem q' eN with rfl|rfl|rfl<;>first|rfl|(simp only at e;omega)
  ·rcases mem q hq with rfl|rfl|rfl<;>rcases mem q' eN with rfl|rfl|rfl<;>first|rfl|(exact absurd e<|by assumption)|(exact absurd e.symm<|by assumption)
  ·rcases mem q hq with rfl|rfl|rfl
   ·exact⟨_,g1,.inl ⟨rfl,rfl,fun N o' hO=>Kg hi pI Ib (fun x e=>e1.trans e) (fun x e=>e2.trans e) hO⟩⟩
   ·exact⟨_,g2,.inr ⟨k,tv,rfl,rfl⟩⟩
   ·exact⟨_,g3,.inl ⟨rfl,rfl,fun N o' hO=>Hz hi DA fx hO⟩⟩
 let⟨_,dm,T⟩:=r.tk;have T:Fs B ρ s.h w dm:=T;have oy:=Lx ak r T dL eH jG jJ (fun n hn=>by let⟨_,o,p,h⟩:=a3 n hn;exact⟨o,p,h⟩) hV;have hS:bT kp ⟨R,tv,row⟩=true:=and_true.2 ⟨Ib,and_true.2 ⟨fx,and_true.2 ⟨aI.2 (by rw[BG (r3:=n1) (r4:=n2)];exact pI),aI.2 DA⟩⟩⟩;let⟨q1,q2⟩:=eX _ _ _ hp hS;have fi:bH (⟨gm<|kn++bf (dW U k ⟨R,tv,row⟩),U+3,0,[],[]⟩:AS):=⟨TN _,dI⟩;have kO:ax (fA U ρ V) (.ptr (some (U,0))::rest) vs.toList:=by simp only[ax,VR] at hv ⊢;let⟨v0,vr,q1,⟨b',N',q2,q3⟩,q4⟩:=hv;exact⟨v0,vr,q1,⟨b',N',e0.trans q2,q3⟩,AV.Ce hi gV q4⟩
 have bQ:=av.G7 (B:=uI B ρ w<|wH ρ dm V) (s:=⟨gm<|kn++bf (dW U k ⟨R,tv,row⟩),U+3,0,[],[]⟩) (args:=.ptr (some (U,0))::rest) (vs:=vs) hP cv cF q1 (q2 _ rfl rfl) fi oy (fun g iV=>by
  let⟨N,e⟩:=hg g iV;exact⟨N,by rw[Ej<|TJ iV fS];exact e⟩) (fun m hm kJ=>by
  have hm:U+3<=m:=hm;exact Jx ak kJ fun q hq=>by rcases mem q hq with rfl|rfl|rfl<;>(show _≠m;simp only;omega)) kO
 rw[tT cv cF dF];show Calls P f vs w _;refine bQ.mono fun e w'=>?_;rintro ⟨Dq,x',s7,rfl,⟨rfl,hL⟩,_,σ,i0,Dr,i1,i2,i3⟩;have sV:∀q∈V,σ q.1=ρ q.2.1:=fun q hq=>by
  rcases mem q hq with rfl|rfl|rfl
  ·exact(i0 U ak ak).trans e0
  ·exact(i0 (U+1) ak ak).trans e1
  ·exact(i0 (U+2) ak ak).trans e2
 have j1:=hL U (bt<|eB R (U+1)<|U+2) (by simp[dW]);have j2:=hL (U+1) (.tok k tv) (by simp[dW]);have j3:=hL (U+2) (bt row) (by simp[dW]);have j9:(eB R (U+1)<|U+2).length<=top:=by rw[BG (r3:=n1) (r4:=n2)];exact pI
 have HA:∀k,k<top->cS ρ σ k=ρ k:=fun k hk=>by unfold cS;rw[if_neg ak]
 have rM:jo σ<|cS ρ σ:=fun k x hk e=>by unfold cS;rw[if_pos hk];exact e
 have hh1:s1.h=s.h:=by rw[SL,b7,b3,a1]
 let⟨f1,f2,f3,f4⟩:=KG (a:=s.nx) (L2:=[(n,bt<|eB R n1 n2),(n1,.tok k tv),(n2,bt row)]) (h':=s1.h) r T hV i2 i3 sV (fun m z hm q=>Dr m z hm<|hi m z hm q) (fun m q hm=>by
  rcases Ty.1 hm with hm|hm
  ·cases hm;exact⟨_,V0,rfl,_,j1,.inl ⟨rfl,rfl,fun N o' hO=>Kg rM j9 Ib (fun x e=>by rw[HA _ y2, ←sV _ V1];exact e) (fun x e=>by rw[HA _ z2, ←sV _ V2];exact e) hO⟩⟩
  rcases Ty.1 hm with hm|hm
  ·cases hm;exact⟨_,V1,rfl,_,j2,.inr ⟨k,_,tv,rfl,rfl,rfl⟩⟩
  rcases Ty.1 hm with hm|hm
  ·cases hm;exact⟨_,V2,rfl,_,j3,.inl ⟨rfl,rfl,fun N o' hO=>Hz rM DA fx hO⟩⟩
  cases hm) (fun q hq cL=>by
  rcases mem q hq with rfl|rfl|rfl
  ·exact⟨_,j1,rfl⟩
  ·cases cL
  ·exact⟨_,j3,rfl⟩) (fun m hm=>by
  rw[hh1];by_cases c3:m=n2
  ·subst c3;exact .inl ⟨_,by simp,g3⟩
  by_cases c2:m=n1
  ·subst c2;exact .inl ⟨_,by simp,g2⟩
  by_cases c1:m=n
  ·subst c1;exact .inl ⟨_,by simp,g1⟩
  exact .inr ⟨fun q hq=>by rcases mem q hq with rfl|rfl|rfl<;>(intro e;exact absurd e.symm<|by assumption),rfl⟩)
 refine⟨Dq,rfl,cS ρ σ,?_,AV.ou rM SJ i1,f3,f4⟩;have cM:s1.nx=s.nx:=by rw[SM,b8,b4,a2]
 rw[cM];exact f1
section
variable {X:TX} {P:Program} {U kp k:Nat} {ns:List Nat} {h0:Tr ah} {kn:List<|Nat×Option ah} {L L':bV} {g:Nat} {fn:Func} {body:Code}
theorem GA(hP:bY P)(fS:fY<=U)(dI:U+3<=top)(dL:∀n o,n<top->h0.get n=some o->n∈ns)(eH:∀n∈ns,n<U)(jG:∀n o,(n,some o)∈kn->h0.get n=some o)(jJ:∀p∈kn,p.1<top){val:VS->List AV->Option AV}(h:eF X U P<|dE U ns h0 L)(h':eF X U P<|dE U ns h0 L')(cv:P.funcs[g]? =some fn)(cF:fn.body=some body)(dF:(fn.name == "runtime.NumGoroutine")=false)(eX:∀st rest y,val st rest=some y->bT kp st=true->max fn.ntmps (rest.length+1)<=top/\∀B:aE,ry X P U ns h0 L' B->
 av P B (U+3) (iE U k P fn.results.toList y st) ⟨g,dZ<|.ptr (some (U,0))::rest,max fn.ntmps<|rest.length+1,[.code body],[],none⟩ ⟨gm<|kn++bf (dW U k st),U+3,0,[],[]⟩):eF X U P<|dE U ns h0<|(g,.raw<|nP kp k val)::L:=by
 refine(show eF X U P (pA (dE U ns h0 L) g<|nP kp k val U ns h0) from h.cX (fun Tu _ args=>Tt.nP _ _ _ _ _ _ Tu args) fun B hB hT Tu hc hl args x s s1 ρ w vs fi r hg hf hm hv=>?_);refine adx hP cv cF dF fS dI dL eH jG jJ (fun st rest y e eo=>?_) r hg hm hv;let⟨q1,q2⟩:=eX st rest y e eo;exact⟨q1,fun B' l6 l7=>q2 B'<|sK hP h' (l6.trans hB)<|l7.trans hT⟩
end
theorem acE{P:Program}{g U kp k:Nat}{h0:Tr ah}{ns:List Nat}{val:VS->List AV->Option AV}(h:sp g=some (nP kp k val U ns h0))(hk:nu U h0 ns s=true)(hr:rest.all AV.hi=true)(hd:(!Nat.beq a r1&&(!Nat.beq a r2&& !Nat.beq r1 r2))=true)(hn:(Tv a (de U h0 ns s).nx&&(Tv r1 (de U h0 ns s).nx&&Tv r2 (de U h0 ns s).nx))=true)(ht:(Tv a top&&(Tv r1 top&&Tv r2 top))=true)(g1:(de U h0 ns s).h.get a=some (bt<|eB st.R r1 r2))(g2:(de U h0 ns s).h.get r1=some (.tok k st.u))(g3:(de U h0 ns s).h.get r2=some (bt st.row))(DB:st.R.pre.length=kp)(ho:bT kp st=true)(hv:val st rest=some y)(hy:y.hi=true):
 ba P sp F (n+1) (.fn g) (.ptr (some (a,0))::rest) s= .ok y (aU r2<|aU r1<|aU a<|de U h0 ns s):=by
 let⟨R,u,row⟩:=st;show jv P sp g (ba P sp F n) (.ptr (some (a,0))::rest) s=_;rw[p6 h];have C5:=ho;let⟨o1,ho⟩:=and_true.1 ho;let⟨o2,ho⟩:=and_true.1 ho;let⟨o3,o4⟩:=and_true.1 ho;let⟨n1,hn⟩:=and_true.1 hn;let⟨n2,n3⟩:=and_true.1 hn;let⟨t1,ht⟩:=and_true.1 ht;let⟨t2,t3⟩:=and_true.1 ht;have cz:a≠r1/\a≠r2/\r1≠r2:=by
  let⟨c1,c2⟩:=and_true.1 hd;let⟨c2,c3⟩:=and_true.1 c2;refine⟨fun e=>?_,fun e=>?_,fun e=>?_⟩<;>subst e
  ·rw[eP.2 rfl] at c1;cases c1
  ·rw[eP.2 rfl] at c2;cases c2
  ·rw[show Tx r1 r1=true from eP.2 rfl] at c3;cases c3
 let⟨d1,d2,d3⟩:=cz;have ta:=(blt_eq _ _).mp t1;have tb:=(blt_eq _ _).mp t2;have tc:=(blt_eq _ _).mp t3;show(aG (rest.all AV.hi) <| (gj U h0 ns).bind fun _=>(bA a).bind fun o=>aB (rowOf o) fun cs=>aB (rootOf kp cs) fun q=>(bA q.2.1).bind fun o1=>aB (yL k o1) fun u=>(bA q.2.2).bind fun o2=>aB (rowOf o2) fun row=>aG (tK q.1&&row.all AV.cN) <| aG (!Nat.beq a q.2.1&&(!Nat.beq a q.2.2&& !Nat.beq q.2.1 q.2.2)) <| aB (val ⟨q.1,u,row⟩ rest) fun y=>aG (y.hi&&(Tv a top&&(Tv q.2.1 top&&Tv q.2.2 top))) <| M.pure y) s=_;rw[hr,dR,M.bO<|yr hk,M.bO<|mo n1 g1];generalize de U h0 ns s=z at*;rw[JC (by rw[BG (r3:=0) (r4:=0)];exact aI.1 o3),bW,aaK DB,bW];have SN:Tv r1 (aU a z).nx=true:=by rw[(gd a z).2.1];exact n2
 have A0:(aU a z).h.get r1=some (.tok k u):=by rw[(gd a z).1];exact g2
 rw[M.bO<|mo SN A0,OF,bW];have SO:Tv r2 (aU r1<|aU a z).nx=true:=by rw[(gd r1 _).2.1,(gd a z).2.1];exact n3
 have SP:(aU r1<|aU a z).h.get r2=some (bt row):=by rw[(gd r1 _).1,(gd a z).1];exact g3
 rw[M.bO<|mo SO SP,JC<|aI.1 o4,bW];show(aG (tK R&&row.all AV.cN) <| aG (!Nat.beq a r1&&(!Nat.beq a r2&& !Nat.beq r1 r2)) <| aB (val ⟨R,u,row⟩ rest) fun y=>aG (y.hi&&(Tv a top&&(Tv r1 top&&Tv r2 top))) <| M.pure y) (aU r2<|aU r1<|aU a z)=_;rw[show tK R=true from o1,show row.all AV.cN=true from o2,hd,hv];show(aG true <| aG true <| aB (some y) fun y=>aG (y.hi&&(Tv a top&&(Tv r1 top&&Tv r2 top))) <| M.pure y) (aU r2<|aU r1<|aU a z)=_;rw[dR,dR,bW,hy,t1,t2,t3];rfl
theorem aeK{P:Program}{g U kp k:Nat}{h0:Tr ah}{ns:List Nat}{val:VS->List AV->Option AV}(h:sp g=some (nP kp k val U ns h0))(hr:rest.all AV.hi=true)(hd:(!Nat.beq a r1&&(!Nat.beq a r2&& !Nat.beq r1 r2))=true)(ht:(Tv a top&&(Tv r1 top&&Tv r2 top))=true)(DB:st.R.pre.length=kp)(ho:bT kp st=true)(hv:val st rest=some y)(hy:y.hi=true):
 ∀s,HC U h0 ns k a r1 r2 st s->ba P sp F (n+1) (.fn g) (.ptr (some (a,0))::rest) s= .ok y (YA U h0 ns a r1 r2 s):=
 fun _ q=>acE h q.1 hr hd q.2.1 ht q.2.2.1 q.2.2.2.1 q.2.2.2.2 DB ho hv hy
end
section
variable {ρ σ:Ren} {s s1:AS} {off n f:Nat} {x v b a:AV} {cs:List AV} {cap:cx} {w:World} {B:aE} {vs:Array Value} {sp:Sp} {F:Nat->Option (List AV)}
def SQ(j:Nat):Prop:=∃ds:List AV,j=nm ds/\ds.all AV.eR=true/\ds.all AV.flat=true
def IW(x:AV):Prop:=x.flat=true\/∃n o l,x= .ab n o l/\SQ n
def HN(x:AV):Prop:=∃l,x= .tuple l/\∀y∈l,IW y\/∃m,y= .agg m/\∀z∈m,IW z
theorem ax.imp{τ:Ren}:∀{l:List AV} {vs:List Value},(∀x∈l,∀v,VR σ x v->VR τ x v)->ax σ l vs->ax τ l vs
 |[],_,_,k=>by simpa only[ax] using k
 |x::l,_,h,k=>by simp only[ax] at k ⊢;let⟨a,as,e,h1,h2⟩:=k;exact⟨a,as,e,h x TA a h1,ax.imp (fun y hy=>h y<|TB _ hy) h2⟩
open Classical in
def ss(ρ σ:Ren):Ren:=fun k=>if top<=k then(if ρ k≠none\/∃j x sh,k=hn j x sh/\SQ j then σ k else none) else ρ k
theorem IW.vr{v:Value}(h:IW x)(k:VR σ x v):VR (ss ρ σ) x v:=by
 rcases h with h|⟨n,o,l,rfl,fC⟩
 ·exact VR.flat h k
 ·have ht:top<=n:=by obtain⟨ds,rfl,_⟩:=fC;exact cR _
  simp only[VR] at k ⊢;rcases k with k|⟨b,sh,c,k1,k2,k3⟩
  ·exact .inl k
  ·refine .inr ⟨b,sh,c,.inr ⟨ht,?_⟩,k2,k3⟩;unfold ss;rw[if_pos<|gb _ _ _,if_pos<|.inr ⟨n,b,sh,rfl,fC⟩];exact k1.high ht
theorem HN.vr{v:Value}(h:HN x)(k:VR σ x v):VR (ss ρ σ) x v:=by
 obtain⟨l,rfl,h⟩:=h;simp only[VR] at k ⊢;let⟨a,e,k⟩:=k;refine⟨a,e,ax.imp (fun y hy w q=>?_) k⟩;rcases h y hy with h|⟨m,rfl,h⟩
 ·exact h.vr q
 ·simp only[VR] at q ⊢;let⟨a,e,q⟩:=q;exact⟨a,e,ax.imp (fun z hz u p=>(h z hz).vr p) q⟩
theorem agc{fp:Ren}{h h4:Tr ah}{w':World}{a b:Nat}(Bp:B.F=FU)(r:Rel B ρ h w)(q3:Rel (qh B (eW fp (hn (am cs) b off) (b,0)) w) σ h4 w')(q4:cI (qh B (eW fp (hn (am cs) b off) (b,0)) w) w w')(h1:∀k,top<=k->fp k=ρ k)(hold:∀k x,top<=k->ρ k=some x->σ k=some x):Ext a a ρ (ss ρ σ)/\Rel B (ss ρ σ) h w'/\cI B w w':=by
 have hl:ρ.le<|ss ρ σ:=by
  intro k x e;unfold ss;by_cases hk:top<=k
  ·rw[if_pos hk,if_pos<|.inl (by rw[e];exact fun q=>by cases q)];exact hold k x hk e
  ·rw[if_neg hk];exact e
 have cH:∀k,k<top->ss ρ σ k=ρ k:=fun k hk=>by unfold ss;rw[if_neg ak]
 have yQ:cI B w w':=⟨q4.os,q4.tape,q4.output,q4.size,fun k hk _=>q4.block k hk (by show ¬(w.heap.size<=k);omega)⟩;have wM:∀b,b<w.heap.size->w'.heap[b]? =w.heap[b]? :=fun b hb=>q4.block b hb (by show ¬(w.heap.size<=b);omega);have new:∀n x sh,ss ρ σ (hn n x sh)≠none->ρ (hn n x sh)=none->σ (hn n x sh)≠none/\SQ n/\w.heap.size<=x:=fun n x sh e q=>by
  unfold ss at e;rw[if_pos<|gb _ _ _] at e;split at e
  ·rename_i p;let⟨j,x',MD,e1,hj⟩:=p.resolve_left fun z=>z q;obtain⟨rfl,rfl,rfl⟩:=Es e1;refine⟨e,hj,(q3.fz n x sh e).1.resolve_left fun z=>?_⟩;have z:eW fp (hn (am cs) b off) (b,0) (hn n x sh)≠none:=z;by_cases y:hn n x sh=hn (am cs) b off
   ·obtain⟨ds,rfl,hc,_⟩:=hj;exact Sw hc (Es y).1
   ·rw[gO _ _ y,h1 _<|gb _ _ _] at z;exact z q
  ·exact absurd rfl e
 refine⟨⟨hl,fun k hk _=>cH k hk⟩,⟨fun n o hn ho=>?_,fun n m o p b N M hn hm h1 h2 cV e1 e2=>?_,fun n m es ex left cur hn ho=>?_,fun k hk=>r.size k<|TO q4.size hk,r.lone,fun n x sh e=>?_,r.tk.of hl (fun _ _ _ e _=>e) q4.size (fun b hb _=>wM b hb) (fun b1 _ hn m o N hm ho hr hb=>hn m o N hm ho hr (by rw[cH m hm] at hb;exact hb)) (fun j x sh hx _ e=>Ut fun q=>by have:=(new j x sh q e).2.2;omega)⟩,yQ⟩
 ·let⟨b,N,o',h1,h2,h3,h5⟩:=r.is n o hn ho;exact⟨b,N,o',(cH n hn).trans h1,(wM b<|gC h2).trans h2,h3.mono hl,h5⟩
 ·rw[cH n hn] at e1;rw[cH m hm] at e2;exact r.one n m o p b N M hn hm h1 h2 cV e1 e2
 ·let⟨hm,fE,b,N,bm,M,l,bu,seen,h1,h2,h3,h5,h6⟩:=r.iter n m es ex left cur hn ho;have u:ni ρ w' n m es ex left cur:=⟨b,N,bm,M,l,bu,seen,h1,h2,(wM b<|gC h3).trans h3,(wM bm<|gC h5).trans h5,h6⟩;exact⟨hm,fE,u.mono hl⟩
 ·by_cases q:ρ (hn n x sh)=none
  ·let⟨e1,hj,hx⟩:=new n x sh e q;let⟨_,l,c,e',fr,g1,g2,_,g4⟩:=q3.fz n x sh e1;obtain⟨ds,rfl,hc,hf⟩:=hj;have g1:B.F (nm ds)=some l:=g1;rw[Bp,Al hc] at g1;cases g1;refine⟨.inr<|r.size x hx,_,c,e',fr,by rw[Bp];exact Al hc,g2,fun m o N hm ho hr hb=>?_,fun i y hy=>?_⟩
   ·rw[cH m hm] at hb;let⟨b1,N1,o1,h1,h2,_⟩:=r.is m o hm ho;rw[hb] at h1;cases h1;have:=gC h2;omega
   ·let⟨v,k1,k2,k3⟩:=g4 i y hy;exact⟨v,k1,VR.flat (TG.1 hf y<|TY hy) k2,k3⟩
  ·let⟨z0,l,c,e',fr,z1,z2,z3,z4⟩:=r.fz n x sh q;refine⟨z0,l,c,e',fr,z1,(wM x<|gC z2).trans z2,fun m o N hm ho hr hb=>z3 m o N hm ho hr (by rw[cH m hm] at hb;exact hb),fun i y hy=>?_⟩;let⟨v,k1,k2,k3⟩:=z4 i y hy;exact⟨v,k1,VR.mono (D1 hl) _ _ k2,k3⟩
section
def Cz(U:Nat)(ns:List Nat)(h0:Tr ah)(val:List AV->Option AV)(hi:Bool)(n off len:Nat)(cap:cx)(f:AV->List AV):M AV:=aG (hi&&E4 len cap) <| (gj U h0 ns).bind fun _=>(bA n).bind fun o=>aB (cellsOf (some o) off len) fun cs=>aG (cs.all AV.eR&&Tv n top) <| aB (val<|f<|.ab (am cs) 0 len) fun v=>M.pure v
def qi(k:Bool)(U:Nat)(ns:List Nat)(h0:Tr ah)(val:List AV->Option AV):aJ->List AV->M AV:=fun Tu args=>match k,args with
 |true,[a,.slice (some (n,off)) len cap,b]=>Cz U ns h0 val (a.hi&&b.hi) n off len cap fun x=>[a,x,b]
 |false,[a,b,.slice (some (n,off)) len cap]=>Cz U ns h0 val (a.hi&&b.hi) n off len cap fun x=>[a,b,x]
 |_,args=>nH U ns h0 val Tu args
end
theorem Tt.qi(k:Bool)(U:Nat)(ns:List Nat)(h0:Tr ah)(val:List AV->Option AV)(Tu:aJ)(args:List AV):Tt<|qi k U ns h0 val Tu args:=by
 have c:∀hi n off len cap f,Tt<|Cz U ns h0 val hi n off len cap f:=fun _ _ _ _ _ _=>Tt.aG fun _=>Tt.bind (Tt.gj U h0 ns) fun _=>Tt.bind (Tt.bA _) fun _=>Tt.aB fun _ _=>Tt.aG fun _=>Tt.aB fun _ _=>Tt.pure _;unfold Rn.qi;split
 ·exact c _ _ _ _ _ _
 ·exact c _ _ _ _ _ _
 ·exact Tt.nH _ _ _ _ _ _
theorem XX(cs:List AV):top<=am cs:=TO (Ve top 2)<|Ve _ _
theorem YB(cs:List AV):am cs≠top:=by unfold am;omega
theorem amu{P:Program}{U:Nat}{ns:List Nat}{h0:Tr ah}{val:List AV->Option AV}{fn:Func}{body:Code}(hP:bY P)(cv:P.funcs[f]? =some fn)(cF:fn.body=some body)(dF:(fn.name == "runtime.NumGoroutine")=false)(Bp:B.F=FU)(fS:fY<=U)(dI:U<=top)(dL:∀n o,n<top->h0.get n=some o->n∈ns)(eH:∀n∈ns,n<U)(eX:∀args v,val args=some v->HN v/\max fn.ntmps args.length<=top/\∀B':aE,B'.F=B.F->B'.inv=B.inv->av P B' U (Fin P fn.results.toList fun y _=>y=v) ⟨f,dZ args,max fn.ntmps args.length,[.code body],[],none⟩ ⟨h0,U,0,[],[]⟩){hi:Bool}{len:Nat}{fa:AV->List AV}(r:Rel B ρ s.h w)(hg:gG ρ)(h:Cz U ns h0 val hi n off len cap fa s= .ok x s1)(hv:ax ρ (fa<|.slice (some (n,off)) len cap) vs.toList)(hf:hi=true->∀(σ:Ren) y,jo ρ σ->(∀u,VR ρ (.slice (some (n,off)) len cap) u->VR σ y u)->ax σ (fa y) vs.toList):jj P ((callFunc f vs).run P w)<|ky B ρ s s1 w x:=by
 unfold Cz at h;let⟨gV,h1⟩:=dv h;let⟨hb,LV⟩:=and_true.1 gV;let⟨u,s2,h2,h3⟩:=M.aQ h1;let⟨o,s3,h4,h5⟩:=M.aQ h3;let⟨cs,h6,h7⟩:=bz h5;let⟨hcd,h8⟩:=dv h7;let⟨hco,jt⟩:=and_true.1 hcd;have jt:n<top:=(blt_eq _ _).mp jt;let⟨v,h9,gT⟩:=bz h8;obtain⟨rfl,rfl⟩:=bG gT;let⟨a1,a2',a3⟩:=vU h2;let⟨b1,b2,b3,b4⟩:=gr h4;obtain⟨m,t,z,rfl,c1,c2⟩:=abR h6;have jk:s.h.get n=some (.cells m t z):=by rw[←a1];exact b2
 let⟨bb,N,o',d1,d2,d3,_⟩:=r.is n _ jt jk;have d3':=d3;simp only[OR] at d3';obtain⟨c,e,rfl,_,d4,d5⟩:=d3';let⟨g1,g2⟩:=I9 c2;have a3':∀n∈ns,∃o p,s.h.get n=some o/\h0.get n=some p/\pe U o p=true:=fun n hn=>by let⟨_,o,p,h⟩:=a3 n hn;exact⟨o,p,h⟩
 have R0:=EW dI r dL eH a3';have Ia:∀n o,n<top->h0.get n=some o->o.nq=true:=fun n o hn ho=>by let⟨p1,p2,_,c3,c4⟩:=a3' n<|dL n o hn ho;rw[ho] at c3;cases c3;unfold pe at c4;split at c4<;>first|rfl|cases c4
 have ahS:ρ (hn (am cs) bb off)=none:=Ut fun q=>by let⟨_,_,_,_,_,_,_,z3,_⟩:=r.fz _ _ _ q;exact z3 n _ N jt jk rfl d1
 have ji:gH U ρ (hn (am cs) bb off)=none:=by rw[qP dI<|gb _ _ _];exact ahS
 have R1:=aeI (B:=B) (ρ:=gH U ρ) (fp:=gH U ρ) (j:=am cs) (b:=bb) (off:=off) (cs:=cs) (c:=c) (e:=e) (fr:=(0,0)) (h:=s.h) (h0:=h0) (w:=w) ⟨R0.is,R0.one,R0.iter,R0.size,R0.lone,fun n x sh q=>by
  let⟨_,g⟩:=R0.fz n x sh q;exact⟨.inl q,g⟩,R0.tk⟩ Ia ji (by rw[Bp];exact Yp hco) d2 (fun i x hx=>by
  have hi:i<len:=by rw[←g1];exact(TZ.1 hx).1
  let⟨x',v',k1,k2,k3,k4⟩:=d5 (off+i) ak;rw[g2 i hi,hx] at k1;injection k1 with k1;subst k1
  have hxc:x.eR=true:=TG.1 hco x<|TY hx;refine⟨v',k3,AV.wx (fun k y hk q=>?_) (Ea hxc) k4,k2⟩;unfold gK;rw[if_pos hk,qP dI hk];exact q) (fun k q=>by
  unfold eW;split
  ·exact fun q=>by cases q
  ·exact q)
 let⟨zl,q1,q2⟩:=eX _ _ h9;have fi:bH (⟨h0,U,0,[],[]⟩:AS):=⟨TN _,dI⟩;have Bc:gG<|eW (gH U ρ) (hn (am cs) bb off) (bb,0):=fun g iV=>by let⟨N,e⟩:=hg g iV;exact⟨N,oh ji _ _ (by unfold gH;rw[if_pos<|TJ iV fS];exact e)⟩
 have hi:jo ρ<|eW (gH U ρ) (hn (am cs) bb off) (bb,0):=fun k y hk e=>oh ji _ _ (by rw[qP dI hk];exact e);have kO:ax (eW (gH U ρ) (hn (am cs) bb off) (bb,0)) (fa<|.ab (am cs) 0 len) vs.toList:=hf hb _ _ hi fun u k2=>by
  have ay:qZ (eW (gH U ρ) (hn (am cs) bb off) (bb,0)) (am cs) bb off:=.inr ⟨XX _,by rw[jg];exact fun q=>by cases q⟩;cases cap with
  |known cc=>simp only[VR] at k2 ⊢;let⟨b',N',e4,e5⟩:=k2;rw[d1] at e4;cases e4;exact .inr ⟨bb,off,cc,ay,e5,fun _=>⟨aI.1 LV,YB cs⟩⟩
  |au lo ee=>simp only[VR] at k2 ⊢;let⟨b',N',cc,e4,e5,e6,e7,_⟩:=k2;rw[d1] at e4;cases e4;exact .inr ⟨bb,off,cc,ay,e5,fun _=>⟨e7,YB cs⟩⟩
  |lost=>cases LV
 have bQ:=av.calls (B:=qh B (eW (gH U ρ) (hn (am cs) bb off) (bb,0)) w) (s:=⟨h0,U,0,[],[]⟩) (args:=fa<|.ab (am cs) 0 len) (vs:=vs) hP cv cF q1 (q2 _ rfl rfl) fi R1 Bc (fun k k1 k2=>by have k1:U<=k:=k1;rw[gO _ _ (by have:=gb (am cs) bb off;omega)];unfold gH gK;rw[if_neg ak,if_neg ak]) kO;rw[tT cv cF dF];show Calls P f vs w _;refine bQ.mono fun e w'=>?_;rintro ⟨y,x',s4,rfl,rfl,_,_,σ,e1,e2,e3,e4⟩;let⟨MY,b2',b3'⟩:=agc (a:=s.nx) Bp r e3 e4 (fun k hk=>qP dI hk) fun k x hk e=>e1.le _ _<|oh ji _ _ (by rw[qP dI hk];exact e);exact⟨y,rfl,ss ρ σ,by rw[b4,a2'];exact MY,zl.vr e2,by rw[b3,a1];exact b2',b3'⟩
theorem ady{k:Bool}{P:Program}{U:Nat}{ns:List Nat}{h0:Tr ah}{val:List AV->Option AV}{fn:Func}{body:Code}(hP:bY P)(cv:P.funcs[f]? =some fn)(cF:fn.body=some body)(dF:(fn.name == "runtime.NumGoroutine")=false)(Bp:B.F=FU)(fS:fY<=U)(dI:U<=top)(dL:∀n o,n<top->h0.get n=some o->n∈ns)(eH:∀n∈ns,n<U)(eX:∀args v,val args=some v->HN v/\max fn.ntmps args.length<=top/\∀B':aE,B'.F=B.F->B'.inv=B.inv->av P B' U (Fin P fn.results.toList fun y _=>y=v) ⟨f,dZ args,max fn.ntmps args.length,[.code body],[],none⟩ ⟨h0,U,0,[],[]⟩){Tu:aJ}{args:List AV}(r:Rel B ρ s.h w)(hg:gG ρ)(h:qi k U ns h0 val Tu args s= .ok x s1)(hv:ax ρ args vs.toList):jj P ((callFunc f vs).run P w)<|ky B ρ s s1 w x:=by
 unfold qi at h;split at h
 ·refine amu hP cv cF dF Bp fS dI dL eH eX r hg h hv fun hb σ y hi hy=>?_;let⟨ha,hb⟩:=and_true.1 hb;simp only[ax] at hv ⊢;let⟨v0,vr,e1,k1,v1,SR,e2,k2,v2,SS,e3,k3,k4⟩:=hv;exact⟨v0,vr,e1,AV.ou hi ha k1,v1,SR,e2,hy _ k2,v2,SS,e3,AV.ou hi hb k3,k4⟩
 ·refine amu hP cv cF dF Bp fS dI dL eH eX r hg h hv fun hb σ y hi hy=>?_;let⟨ha,hb⟩:=and_true.1 hb;simp only[ax] at hv ⊢;let⟨v0,vr,e1,k1,v1,SR,e2,k2,v2,SS,e3,k3,k4⟩:=hv;exact⟨v0,vr,e1,AV.ou hi ha k1,v1,SR,e2,AV.ou hi hb k2,v2,SS,e3,hy _ k3,k4⟩
 ·exact NN hP cv cF dF fS dI dL eH (fun args v e=>(eX args v e).2) r hg h hv
section
variable {X:TX} {P:Program} {U:Nat} {ns:List Nat} {h0:Tr ah} {kn:List<|Nat×Option ah} {L L':bV} {g k:Nat} {fn:Func} {body:Code}
theorem amv(hP:bY P)(fS:fY<=U)(dI:U<=top)(dL:∀n o,n<top->h0.get n=some o->n∈ns)(eH:∀n∈ns,n<U){b:Bool}{val:List AV->Option AV}(h:eF X U P<|dE U ns h0 L)(h':eF X U P<|dE U ns h0 L')(cv:P.funcs[g]? =some fn)(cF:fn.body=some body)(dF:(fn.name == "runtime.NumGoroutine")=false)(eX:∀args v,val args=some v->HN v/\max fn.ntmps args.length<=top/\∀B:aE,ry X P U ns h0 L' B->
 av P B U (Fin P fn.results.toList fun y _=>y=v) ⟨g,dZ args,max fn.ntmps args.length,[.code body],[],none⟩ ⟨h0,U,0,[],[]⟩):eF X U P<|dE U ns h0<|(g,.raw fun x y z=>qi b x y z val)::L:=by
 refine(show eF X U P (pA (dE U ns h0 L) g<|qi b U ns h0 val) from h.cX (fun Tu _ args=>Tt.qi _ _ _ _ _ Tu args) fun B hB hT Tu hc hl args x s s1 ρ w vs fi r hg hf hm hv=>?_);refine ady hP cv cF dF hB fS dI dL eH (fun args v e=>?_) r hg hm hv;let⟨q0,q1,q2⟩:=eX args v e;exact⟨q0,q1,fun B' l6 l7=>q2 B'<|sK hP h' (l6.trans hB)<|l7.trans hT⟩
end
theorem anc{U:Nat}{h0:Tr ah}{ns:List Nat}{val:List AV->Option AV}{hi:Bool}{f:AV->List AV}{m len:Nat}(h1:(hi&&E4 len cap)=true)(hk:nu U h0 ns s=true)(hm:Tv m (de U h0 ns s).nx=true)(ht:Tv m top=true)(h2:cellsOf ((de U h0 ns s).h.get m) off len=some cs)(h3:cs.all AV.eR=true)(h4:val (f<|.ab (am cs) 0 len)=some v):
 Cz U ns h0 val hi m off len cap f s= .ok v (aU m<|de U h0 ns s):=by
 unfold Cz;cases q:(de U h0 ns s).h.get m with
 |none=>rw[q] at h2;cases h2
 |some o=>rw[q] at h2;rw[h1,dR,M.bO<|yr hk,M.bO<|mo hm q,h2,bW,h3,ht];show(aG true <| aB (val<|f<|.ab (am cs) 0 len) fun v=>M.pure v) _=_;rw[dR,h4,bW];rfl
theorem acF{P:Program}{g U:Nat}{h0:Tr ah}{ns:List Nat}{val:List AV->Option AV}(h:sp g=some (qi false U ns h0 val)){m len:Nat}(h1:(a.hi&&(b.hi&&E4 len cap))=true)(hk:nu U h0 ns s=true)(hm:Tv m (de U h0 ns s).nx=true)(ht:Tv m top=true)(h2:cellsOf ((de U h0 ns s).h.get m) off len=some cs)(h3:cs.all AV.eR=true)(h4:val [a,b,.ab (am cs) 0 len]=some v):
 ba P sp F (n+1) (.fn g) [a,b,.slice (some (m,off)) len cap] s= .ok v (aU m<|de U h0 ns s):=by
 show jv P sp g (ba P sp F n) [a,b,.slice (some (m,off)) len cap] s=_;rw[p6 h];exact anc (f:=fun x=>[a,b,x]) (by rw[Bool.and_assoc];exact h1) hk hm ht h2 h3 h4
theorem aeL{P:Program}{g U:Nat}{h0:Tr ah}{ns:List Nat}{val:List AV->Option AV}(h:sp g=some (qi true U ns h0 val)){m len:Nat}(h1:(a.hi&&(b.hi&&E4 len cap))=true)(hk:nu U h0 ns s=true)(hm:Tv m (de U h0 ns s).nx=true)(ht:Tv m top=true)(h2:cellsOf ((de U h0 ns s).h.get m) off len=some cs)(h3:cs.all AV.eR=true)(h4:val [a,.ab (am cs) 0 len,b]=some v):
 ba P sp F (n+1) (.fn g) [a,.slice (some (m,off)) len cap,b] s= .ok v (aU m<|de U h0 ns s):=by
 show jv P sp g (ba P sp F n) [a,.slice (some (m,off)) len cap,b] s=_;rw[p6 h];exact anc (f:=fun x=>[a,x,b]) (by rw[Bool.and_assoc];exact h1) hk hm ht h2 h3 h4
end
section
variable {rest:List AV} {n:Nat}
section
def pG(k:Nat)(val:AV->List AV->Option AV)(U:Nat)(ns:List Nat)(h0:Tr ah):aJ->List AV->M AV:=fun _ args=>match args with
 | .ptr (some (n,0))::rest=>aG (rest.all AV.hi&&Tw U n) <| (gj U h0 ns).bind fun _=>(bA n).bind fun o=>aB (yL k o) fun v=>aB (val v rest) fun y=>aG (y.hi&&Tv n top) <| M.pure y
 |_=>fail
end
theorem Tt.pG(k:Nat)(val:AV->List AV->Option AV)(U:Nat)(ns:List Nat)(h0:Tr ah)(Tu:aJ)(args:List AV):Tt<|pG k val U ns h0 Tu args:=by
 unfold Rn.pG;split
 ·exact Tt.aG fun _=>Tt.bind (Tt.gj U h0 ns) fun _=>Tt.bind (Tt.bA _) fun _=>Tt.aB fun _ _=>Tt.aB fun _ _=>Tt.aG fun _=>Tt.pure _
 ·exact Tt.fail
def Fb(val:AV->List AV->Option AV)(v:AV)(rest:List AV):Option<|AV×AV:=(val v rest).map fun y=>(y,v)
theorem adE{U k:Nat}{ns:List Nat}{h0:Tr ah}{val:AV->List AV->Option AV}{Tu:aJ}{x:AV}{s s1:AS}(h:pG k val U ns h0 Tu (.ptr (some (n,0))::rest) s= .ok x s1):
 ∃F0,yZ U ns h0 k (Fb val) Tu (.ptr (some (n,0))::rest) s= .ok x F0/\F0.nx=s1.nx/\∀m,m<top->s1.h.get m=F0.h.get m:=by
 unfold pG at h;let⟨hh,h1⟩:=dv h;let⟨u,s2,h2,h3⟩:=M.aQ h1;let⟨o,s3,h4,h5⟩:=M.aQ h3;let⟨v,h6,h7⟩:=bz h5;let⟨y,h8,h9⟩:=bz h7;let⟨gT,zh⟩:=dv h9;let⟨hy,ht⟩:=and_true.1 gT;obtain⟨rfl,rfl⟩:=bG zh;have ho:=OE h6;subst ho;let⟨b1,b2,b3,b4⟩:=gr h4;have hg:s1.h.get n=some (.tok k v):=by rw[b3];exact b2
 have hn:Tv n s1.nx=true:=(blt_eq _ _).mpr (by rw[b4];exact b1);have hw:=PD (p:=.tok k v) (o:=some<|.tok k v) hn hg rfl ht;refine⟨fN n (some<|.tok k v) s1,?_,?_,fun m hm=>?_⟩
 ·show(aG (rest.all AV.hi&&Tw U n) <| (gj U h0 ns).bind fun _=>(bA n).bind fun o=>match o with
   | .tok k' v=>aG (Tx k k') <| aB (Fb val v rest) fun p=>aG p.1.hi <| (lG n<|some<|.tok k p.2).bind fun _=>M.pure p.1
   |_=>fail) s=_
  rw[hh,dR,M.bO h2,M.bO h4];show(aG (Tx k k) <| aB (Fb val v rest) fun p=>aG p.1.hi <| (lG n<|some<|.tok k p.2).bind fun _=>M.pure p.1) s1=_;rw[eP.2 rfl,dR];unfold Fb;rw[h8];show(aG x.hi <| (lG n<|some<|.tok k v).bind fun _=>M.pure x) s1=_;rw[hy,dR,M.bO hw];rfl
 ·unfold fN;cases Tv n s1.mark<;>rfl
 ·have e:(fN n (some<|.tok k v) s1).h=s1.h.put n (some<|.tok k v):=by unfold fN;cases Tv n s1.mark<;>rfl
  rw[e,Tr.mh _ _ _ _<|(blt_eq _ _).mp ht];by_cases q:m=n
  ·rw[if_pos q,q,hg]
  ·rw[if_neg q]
section
variable {X:TX} {P:Program} {U k:Nat} {ns:List Nat} {h0:Tr ah} {kn:List<|Nat×Option ah} {L L':bV} {g:Nat} {fn:Func} {body:Code}
theorem J0(hX:zo X U)(hP:bY P)(fS:fY<=U)(dI:U<=top)(dL:∀n o,n<top->h0.get n=some o->n∈ns)(eH:∀n∈ns,n<U)(jG:∀n o,(n,some o)∈kn->h0.get n=some o)(jJ:∀p∈kn,p.1<top){val:AV->List AV->Option AV}(h:eF X U P<|dE U ns h0 L)(h':eF X U P<|dE U ns h0 L')(cv:P.funcs[g]? =some fn)(cF:fn.body=some body)(dF:(fn.name == "runtime.NumGoroutine")=false)(eX:∀v rest y,val v rest=some y->max fn.ntmps (rest.length+1)<=top/\∀L,X k v L->∃nx,U<nx/\nx<=top/\(∀p∈L,p.1<nx)/\∀B:aE,ry X P U ns h0 L' B->
 av P B (U+1) (kB X P fn.results.toList k y v) ⟨g,dZ<|.ptr (some (U,0))::rest,max fn.ntmps<|rest.length+1,[.code body],[],none⟩ ⟨gm<|kn++bf L,nx,0,[],[]⟩):eF X U P<|dE U ns h0<|(g,.raw<|pG k val)::L:=by
 refine(show eF X U P (pA (dE U ns h0 L) g<|pG k val U ns h0) from h.cX (fun Tu _ args=>Tt.pG _ _ _ _ _ Tu args) fun B hB hT Tu hc hl args x s s1 ρ w vs fi r hg hf hm hv=>?_);have ha:∃n rest,args= .ptr (some (n,0))::rest:=by
  unfold pG at hm;split at hm
  ·exact⟨_,_,rfl⟩
  ·cases hm
 obtain⟨n,rest,rfl⟩:=ha;let⟨F0,e1,e2,e3⟩:=adE hm;have key:=amY (val:=Fb val) hX hT hP cv cF dF fS dI dL eH jG jJ (fun v rest y v' e=>by
  unfold Fb at e;cases q:val v rest with
  |none=>rw[q] at e;cases e
  |some y1=>
   rw[q] at e;injection e with e;injection e with e1 e2
   subst e1;subst e2;let⟨q1,q2⟩:=eX v rest y1 q;refine⟨q1,fun L1 hL=>?_⟩;let⟨nx,n1,n2,n3,q3⟩:=q2 L1 hL;exact⟨nx,n1,n2,n3,fun B' l6 l7=>q3 B'<|sK hP h' (l6.trans hB)<|l7.trans hT⟩) r hg e1 hv
 rw[tT cv cF dF] at key ⊢;refine Calls.mono key fun e w'=>?_;rintro ⟨y,rfl,σ,c1,c2,c3,c4⟩;exact⟨y,rfl,σ,by rw[←e2];exact c1,c2,c3.congr e3,c4⟩
end
section
def Zo(U:Nat)(h0:Tr ah)(ns:List Nat)(k n:Nat)(v:AV)(s:AS):Prop:=nu U h0 ns s=true/\Tv n (de U h0 ns s).nx=true/\(de U h0 ns s).h.get n=some (.tok k v)
def Zp(U:Nat)(h0:Tr ah)(ns:List Nat)(n:Nat)(s:AS):AS:=aU n<|de U h0 ns s
end
theorem agt{P:Program}{F:Nat->Option (List AV)}{sp:Sp}{g m U k:Nat}{h0:Tr ah}{ns:List Nat}{val:AV->List AV->Option AV}(h:sp g=some (pG k val U ns h0)){v y:AV}(hr:(rest.all AV.hi&&Tw U n)=true)(ht:Tv n top=true)(hv:val v rest=some y)(hy:y.hi=true):
 ∀s,Zo U h0 ns k n v s->ba P sp F (m+1) (.fn g) (.ptr (some (n,0))::rest) s= .ok y (Zp U h0 ns n s):=fun s q=>by
 let⟨q1,q2,q3⟩:=q;show jv P sp g (ba P sp F m) (.ptr (some (n,0))::rest) s=_;rw[p6 h];show(aG (rest.all AV.hi&&Tw U n) <| (gj U h0 ns).bind fun _=>(bA n).bind fun o=>aB (yL k o) fun v=>aB (val v rest) fun y=>aG (y.hi&&Tv n top) <| M.pure y) s=_;rw[hr,dR,M.bO<|yr q1,M.bO<|mo q2 q3,OF,bW,hv,bW,hy,ht];rfl
end
def Fix(U:Nat)(os:List<|Nat×Option ah)(o:ah):Prop:=(o.iA=true/\∀r:Nat->Nat,(∀k,k<U->r k=k)->(∀k,top<=k->r k=k)->dT [] r o o)\/o= .iT\/∃m es ex left cur,o= .iter m es ex left cur/\m<U/\(m,some .iT)∈os/\rr es/\rr left/\∀x,cur=some x->rr [x]
theorem x8:∀l:List<|Nat×ah,bf l=l.map fun p=>(p.1,some p.2)
 |[]=>rfl
 |p::l=>congrArg _<|x8 l
theorem Xc{m:Nat}{o:ah}:∀{l:List<|Nat×Option ah},(∀p∈l,p.1<top)->(∀p∈l,∀q∈l,p.1=q.1->p=q)->(m,some o)∈l->(gm l).get m=some o
 |[],_,_,h=>by cases h
 |p::l,h1,h2,h3=>by
  show((gm l).put p.1 p.2).get m=_;have hm:m<top:=h1 _ h3;rw[Tr.dy _ _ _ _ (h1 p TA) hm];by_cases e:m=p.1
  ·rw[if_pos e];have:=h2 _ h3 p TA e;rw[←this]
  ·rw[if_neg e];rcases Ty.1 h3 with rfl|h3
   ·exact absurd rfl e
   ·exact Xc (fun q hq=>h1 q<|TB _ hq) (fun q hq q' eN=>h2 q (TB _ hq) q'<|TB _ eN) h3
theorem av.mv{P:Program}{B:aE}{U:Nat}{Q:Tr AV->List Nat->Option Code->AS->Prop}{s:AS}{t:Tr AV}{nt f:Nat}{K:List Item}{os:List<|Nat×Option ah}{l0 l:List<|Nat×AV}{a:Nat}{x:ah}(hg:fY<=U)(hn:U+1<top)(ha:U<=a/\a<top)(hs:s.nx<top)(h1:∀p∈l0,t.get p.1=some p.2)(h2:∀p∈os,s.h.get p.1=p.2)(h3:s.h.get a=some x)(eY:∀p∈os,p.1<U)(hl:∀p∈l,p.1<top)(ht:∀r:Nat->Nat,(∀k,k<U->r k=k)->(∀k,top<=k->r k=k)->r U=a->∀p∈l,∃y,(p.1,y)∈l0/\gE [] r y p.2)(ho:∀p∈os,∀y,p.2=some y->Fix U os y)(hx:x.iA=true/\∀r:Nat->Nat,(∀k,top<=k->r k=k)->dT [] r x x)(H:av P B U Q ⟨f,aA l,nt,K,[],none⟩<|aj (os++[(U,some x)])<|U+1):av P B U Q ⟨f,t,nt,K,[],none⟩ s:=by
 have A9:∀p∈os,∀q∈os,p.1=q.1->p=q:=fun p hp q hq e=>by have a1:=h2 p hp;rw[e,h2 q hq] at a1;exact Prod.ext e a1.symm
 let r:Nat->Nat:=fun k=>if k<U\/top<=k then k else if k=U then a else max k s.nx
 have r1:∀k,k<U->r k=k:=fun k hk=>if_pos<|.inl hk;have r2:∀k,top<=k->r k=k:=fun k hk=>if_pos<|.inr hk;have r3:r U=a:=by show(if _ then _ else _)=_;rw[if_neg ak,if_pos rfl]
 have cH:∀p∈os++[(U,some x)],p.1<top:=fun p hp=>by
  rcases TP.1 hp with hp|hp
  ·have:=eY p hp;omega
  ·rw[TC] at hp;subst hp;show U<top;omega
 have alg:∀p∈os++[(U,some x)],∀q∈os++[(U,some x)],p.1=q.1->p=q:=fun p hp q hq e=>by
  rcases TP.1 hp with hp|hp<;>rcases TP.1 hq with hq|hq
  ·exact A9 p hp q hq e
  ·rw[TC] at hq;have:=eY p hp;rw[hq] at e;have e:p.1=U:=e;omega
  ·rw[TC] at hp;have:=eY q hq;rw[hp] at e;have e:U=q.1:=e;omega
  ·rw[TC] at hp hq;rw[hp,hq]
 have jk:∀n y,n<top->(gm<|os++[(U,some x)]).get n=some y->(n,some y)∈os\/(n=U/\y=x):=fun n y hn hg=>by
  rcases TP.1 (wc cH hg) with h|h
  ·exact .inl h
  ·rw[TC] at h;injection h with e1 e2;injection e2 with e2;exact .inr ⟨e1,e2⟩
 refine av.weaken (s2:=aj (os++[(U,some x)])<|U+1) (t2:=aA l) [] r r1 (fun k hk ht=>?_) r2 hg ⟨TN _,by show U+1<=top;omega⟩ rfl rfl (fun _ h=>by cases h) (fun i y hy=>?_) (fun n y hn hg=>?_) (fun _ h=>by cases h) (fun n m y z hn hm e1 e2 e=>?_) H
 ·have FF:U+1<=k:=hk;show s.nx<=(if _ then _ else _)/\(if _ then _ else _)<top;rw[if_neg ak,if_neg ak];omega
 ·let⟨y0,a1,a2⟩:=ht r r1 r2 r3 _<|D5 hl hy;exact⟨y0,h1 _ a1,a2⟩
 ·rcases jk n y hn hg with h|⟨rfl,rfl⟩
  ·have ct:n<U:=eY _ h;rw[r1 n ct];have hh:s.h.get n=some y:=h2 _ h;rcases ho _ h y rfl with⟨q1,q2⟩|q|⟨m,es,ex,left,cur,q,q1,q2,q3,q4,q5⟩
   ·exact⟨hn,.inl q1,y,hh,fc.refl _,q2 r r1 r2⟩
   ·have q:y= .iT:=q;subst q;exact⟨hn,.inr ⟨r1 n ct,hh,trivial⟩,_,hh,fc.refl _,fun _ _ _ _ _ k=>k⟩
   ·have q:y= .iter m es ex left cur:=q;subst q;refine⟨hn,.inr ⟨r1 n ct,hh,r1 m q1,Xc cH alg<|T7 _ q2,q3,q4,q5⟩,_,hh,fc.refl _,fun ρ fp N o hm k=>?_⟩;simp only[OR] at k ⊢;let⟨b,M,c,s',k1,k2⟩:=k;exact⟨b,M,c,s',by rw[r1 m q1];exact hm.1 _ _ k1,k2⟩
  ·rw[r3];exact⟨ha.2,.inl hx.1,y,h3,fc.refl _,hx.2 r r2⟩
 ·rcases jk n y hn e1 with h|⟨c1,_⟩<;>rcases jk m z hm e2 with h'|⟨c2,_⟩
  ·have a1:n<U:=eY _ h;have a2:m<U:=eY _ h';rw[r1 n a1,r1 m a2] at e;exact e
  ·have a1:n<U:=eY _ h;rw[r1 n a1,c2,r3] at e;omega
  ·have a1:m<U:=eY _ h';rw[r1 m a1,c1,r3] at e;omega
  ·rw[c1,c2]
section
variable {l:List<|Int×Int} {x:AV} {sp:Sp} {n:Nat} {F:Nat->Option (List AV)}
def aO(p:Int×Int):List AV:=[.int .i64 p.1,.int .i64 p.2]
def lS(p:Int×Int):List Value:=[.int .i64 p.1,.int .i64 p.2]
theorem adG(x y:Int×Int)(h:aO x=aO y):x=y:=by let⟨a,b⟩:=x;let⟨c,d⟩:=y;simp only[aO,TQ,AV.int.injEq,true_and,_root_.and_true] at h;rw[h.1,h.2]
theorem J2{L:List AV}(hl:L.length<=top){i:Nat}(hx:L[i]? =some x):cellAt (Tr.fill L 0 .nil) [] i=some x:=by have hi:=(TZ.1 hx).1;unfold cellAt;rw[Tr.rR _ _ _ _ ak,if_pos ak,Uk,hx]
def mu(l:List<|Int×Int):List Int:=(l.map fun p=>[p.1,p.2]).flatten
theorem wm:∀l,(l.map aO).flatten=(mu l).map (AV.int .i64)
 |[]=>rfl
 |p::l=>by show aO p++(l.map aO).flatten=_;rw[wm l];rfl
theorem GZ:∀l,(l.map lS).flatten=(mu l).map (Value.int .i64)
 |[]=>rfl
 |p::l=>by show lS p++(l.map lS).flatten=_;rw[GZ l];rfl
theorem DZ:∀l,(mu l).length=l.length*2
 |[]=>rfl
 |p::l=>by show([p.1,p.2]++mu l).length=_;rw[TM,DZ l];show 2+_=(l.length+1)*2;omega
def eC(l:List<|Int×Int):List<|Int×Int:=l.mergeSort fun a b=>decide<|a.1<=b.1
theorem DW(l:List<|Int×Int):(eC l).Perm l:=List.mergeSort_perm l _
theorem BH(l:List<|Int×Int):(eC l).length=l.length:=(DW l).length_eq
theorem Pd(l:List<|Int×Int):(eC l).Pairwise fun a b=>a.1<=b.1:=by
 have:=List.pairwise_mergeSort (le:=fun a b:Int×Int=>decide<|a.1<=b.1) (fun a b c h1 h2=>decide_eq_true<|VY (of_decide_eq_true h1)<|of_decide_eq_true h2) (fun a b=>by
  cases e:decide (a.1<=b.1)
  ·have:=of_decide_eq_false e;rw[decide_eq_true (show b.1<=a.1 by omega)];rfl
  ·rfl) l
 exact this.imp fun h=>of_decide_eq_true h
theorem agu(nd:(l.map (·.1)).Nodup){a b:Int×Int}(ha:a∈l)(hb:b∈l)(h:a.1=b.1):a=b:=by
 induction l with
 |nil=>cases ha
 |cons c l ih=>
  rw[T0,UF] at nd;rcases Ty.1 ha with ea|rD<;>rcases Ty.1 hb with eb|gS
  ·rw[ea,eb]
  ·exact absurd (show c.1∈l.map (·.1) by rw[←ea,h];exact UZ gS) nd.1
  ·exact absurd (show c.1∈l.map (·.1) by rw[←eb, ←h];exact UZ rD) nd.1
  ·exact ih nd.2 rD gS
theorem ang{m:List<|Int×Int}(nd:(l.map (·.1)).Nodup)(hp:m.Perm l)(hs:m.Pairwise fun a b=>a.1<=b.1):m=eC l:=by refine List.Perm.eq_of_pairwise (le:=fun a b=>a.1<=b.1) (fun a b ha hb h1 h2=>?_) hs (Pd l)<|hp.trans (DW l).symm;exact agu nd (hp.subset ha) ((DW l).subset hb)<|Int.le_antisymm h1 h2
structure Cl (P:Program) (f g:FuncId):Prop where
 is:∃fn body,P.funcs[f]? =some fn/\fn.body=some body/\(fn.name == "runtime.NumGoroutine")=false
 Zq:∀(a:Option Addr) (c:Nat) (w:World),Calls P f #[.slice a 0 c,.func (.func g) #[] #[]] w fun e w'=>e= .returned (.tuple #[])/\w'=w
 rows:∀(b c:Nat) (l:List<|Int×Int) (cs:Array Value) (e:TypeId) (w:World),w.heap[b]? =some (.cells cs e (0,0))->(∀(i:Nat) (v:Value),(l.map lS).flatten[i]? =some v->cs[i]? =some v)->l.length<=1000000->(l.map (·.1)).Nodup->
  Calls P f #[.slice (some ⟨b,0,none⟩) l.length c,.func (.func g) #[] #[]] w fun e' w'=>e'= .returned (.tuple #[])/\(w'.os=w.os/\w'.tape=w.tape/\w'.output=w.output/\w.heap.size<=w'.heap.size)/\(∀k,k<w.heap.size->k≠b->w'.heap[k]? =w.heap[k]?)/\
   ∃xK,w'.heap[b]? =some (.cells xK e (0,0))/\xK.size=cs.size/\∀(i:Nat) (v:Value),((eC l).map lS).flatten[i]? =some v->xK[i]? =some v
open Classical in
def Fc(o:ah):Option<|List<|Int×Int:=if h:∃l:List<|Int×Int,o=az aO l/\l.length<=1000000 then some h.choose else none
theorem adH{o:ah}(h:Fc o=some l):o=az aO l/\l.length<=1000000:=by
 unfold Fc at h;split at h
 ·rename_i q;injection h with h;rw[←h];exact q.choose_spec
 ·cases h
theorem GP(h:l.length<=1000000):(l.map aO).flatten.length<=top:=by rw[wm,T3,DZ];unfold top;omega
theorem aeT{m:List<|Int×Int}(hl:l.length<=1000000)(hm:m.length<=1000000)(h:az aO l=az aO m):l=m:=by
 have ht:=GP hl;have hu:=GP hm;unfold az at h;injection h with h1 h2 _
 have key:∀{l m:List<|Int×Int},mu l=mu m->l=m:=by
  intro l;induction l with
  |nil=>intro m e;cases m with
   |nil=>rfl
   |cons=>cases e
  |cons x l ih=>intro m e;cases m with
   |nil=>cases e
   |cons y m=>
    have e:x.1::x.2::mu l=y.1::y.2::mu m:=e;injection e with e1 e;injection e with e2 e
    rw[ih e,show x=y from Prod.ext e1 e2]
 refine key<|U2 fun i=>?_;have e0:(mu l).length=(mu m).length:=by rw[wm,wm,T3,T3] at h1;exact h1
 by_cases q:i<(mu l).length
 ·have e1:=J2 ht (show(l.map aO).flatten[i]? =some (.int .i64 (mu l)[i]) by rw[wm,Uc,TE q];rfl);have e2:=J2 hu (show(m.map aO).flatten[i]? =some (.int .i64<|(mu m)[i]'ak) by rw[wm,Uc,TE ak];rfl);rw[h2,e2] at e1;injection e1 with e1;injection e1 with _ e1
  rw[TE q,TE ak,e1]
 ·rw[Uf ak,Uf ak]
theorem adI(h:l.length<=1000000):Fc (az aO l)=some l:=by unfold Fc;have q:∃l':List<|Int×Int,az aO l=az aO l'/\l'.length<=1000000:=⟨l,rfl,h⟩;rw[dif_pos q];exact congrArg some (aeT h q.choose_spec.2 q.choose_spec.1).symm
def uO(g:FuncId):aJ->List AV->M AV:=fun _ args=>match args with
 |[.slice none _ _,.func (.func g') [] []]=>iX (g'=g) <| M.pure<|.tuple []
 |[.slice (some (n,0)) len (.au _ _),.func (.func g') [] []]=>iX (g'=g) <| (bA n).bind fun o=>aB (Fc o) fun l=>iX (len=l.length/\(l.map (·.1)).Nodup) <| (bS n<|some<|az aO<|eC l).bind fun _=>M.pure<|.tuple []
 |_=>fail
theorem Tt.uO(g:FuncId)(Tu:aJ)(args:List AV):Tt<|uO g Tu args:=by
 unfold Rn.uO;split
 ·exact Tt.iX<|Tt.pure _
 ·exact Tt.iX <| Tt.bind (Tt.bA _) fun _=>Tt.aB fun _ _=>Tt.iX <| Tt.bind (Tt.bS _ _) fun _=>Tt.pure _
 ·exact Tt.fail
theorem X2{ρ:Ren}{N:Nat}{o:Obj}(hl:l.length<=1000000):OR ρ N (az aO l) o↔∃c e,o= .cells c e (0,0)/\c.size=N/\l.length*2<=N/\∀(i:Nat) (v:Value),(l.map lS).flatten[i]? =some v->c[i]? =some v:=by
 have ht:=GP hl;have hn:(l.map aO).flatten.length=l.length*2:=by rw[wm,T3,DZ]
 unfold az;simp only[OR];constructor
 ·rintro ⟨c,e,rfl,h1,h2,h3⟩;refine⟨c,e,rfl,h1,by omega,fun i v hv=>?_⟩;rw[GZ,Uc] at hv;cases hz:(mu l)[i]? with
  |none=>rw[hz] at hv;cases hv
  |some z=>
   rw[hz] at hv;injection hv with hv
   have hi:i<(mu l).length:=(TZ.1 hz).1;let⟨x,v',a1,_,a3,a4⟩:=h3 i (by rw[wm,T3];exact hi);have a0:cellAt (Tr.fill (l.map aO).flatten 0 .nil) [] i=some (.int .i64 z):=J2 ht (by rw[wm,Uc,hz];rfl);rw[a0] at a1;injection a1 with a1;subst a1
   simp only[VR] at a4;rw[a3,a4, ←hv]
 ·rintro ⟨c,e,rfl,h1,h2,h3⟩;refine⟨c,e,rfl,h1,by omega,fun i hi=>?_⟩;have iO:i<(mu l).length:=by rw[DZ];omega
  have hz:(mu l)[i]? =some (mu l)[i]:=TE iO;refine⟨.int .i64 (mu l)[i],.int .i64 (mu l)[i],J2 ht (by rw[wm,Uc,hz];rfl),rfl,h3 i _ (by rw[GZ,Uc,hz];rfl),by simp only[VR]⟩
section
variable {P:Program} {B:aE} {ρ:Ren} {w:World} {s s1:AS} {f g:FuncId}
theorem adJ(hj:Cl P f g){Tu:aJ}{args:List AV}{vs:Array Value}(r:Rel B ρ s.h w)(hv:ax ρ args vs.toList)(h:uO g Tu args s= .ok x s1):jj P ((callFunc f vs).run P w)<|ky B ρ s s1 w x:=by
 let⟨fn,body,cv,cF,dF⟩:=hj.is;rw[tT cv cF dF];show Calls P f vs w _;let⟨vs⟩:=vs;unfold uO at h;split at h
 ·rename_i len c g';let⟨hg,h3⟩:=xX h;subst hg;obtain⟨rfl,rfl⟩:=bG h3;simp only[ax] at hv;obtain⟨v1,l1,rfl,h1,v2,l2,rfl,h2,rfl⟩:=hv;obtain⟨rfl,_,rfl⟩:=mf h1;simp only[VR] at h2;obtain⟨_,⟨f1⟩,⟨c1⟩,rfl,e1,e2⟩:=h2;simp only[ax] at e1 e2;subst e1;subst e2;refine(hj.Zq none _ w).mono fun e w'=>?_;rintro ⟨rfl,rfl⟩;exact⟨_,rfl,ρ,Ext.refl _ _ _,by simp only[VR,ax];exact⟨_,rfl,rfl⟩,r,cI.refl _ _⟩
 ·rename_i n len lo ke g';let⟨hg,h3⟩:=xX h;subst hg;let⟨o,s2,k1,h4⟩:=M.aQ h3;let⟨l,k2,h5⟩:=bz h4;obtain⟨⟨rfl,nd⟩,h6⟩:=xX h5;let⟨u,s3,k3,h7⟩:=M.aQ h6;obtain⟨rfl,rfl⟩:=bG h7;obtain⟨rfl,hl⟩:=adH k2;let⟨a1,a2,a3,a4⟩:=gr k1;let⟨b1,b2,_,b4,b5⟩:=jP k3;simp only[ax] at hv;obtain⟨v1,l1,rfl,h1,v2,l2,rfl,h2,rfl⟩:=hv;simp only[VR] at h1;obtain⟨b,N,cc,jI,rfl,c1,c2,c3⟩:=h1;simp only[VR] at h2;obtain⟨_,⟨f1⟩,⟨c1⟩,rfl,e1,e2⟩:=h2;simp only[ax] at e1 e2;subst e1;subst e2;let⟨o',hb,hO,hB⟩:=r.block b2 a2 jI;obtain⟨cs,e,rfl,q1,q2,q3⟩:=(X2 hl).1 hO;refine(hj.rows b cc l cs e w hb q3 hl nd).mono fun e' w'=>?_;rintro ⟨rfl,⟨w1,w2,w3,w4⟩,w5,xK,w6,w7,w8⟩;have Nn:=gC hb;let W:World:={w with heap:=w.heap.setIfInBounds b<|.cells xK e (0,0)};have o1:wu b w W:=⟨rfl,rfl,rfl,Wc,fun k hk=>Vh<|Ne.symm hk⟩;have o2:W.heap[b]? =some (.cells xK e (0,0)):=Vg Nn;have hs:W.heap.size=w.heap.size:=Wc;have o3:iq W w':=⟨w1,w2,w3,by rw[hs];exact w4,fun k hk=>by
   by_cases q:k=b
   ·subst q;rw[o2,w6]
   ·rw[w5 k (by rw[←hs];exact hk) q,o1.block k q]⟩
  have r1:Rel B ρ (s.h.put n<|some<|az aO<|eC l) W:=r.put b2 a2 rfl rfl jI rfl o1 o2<|(X2 (by rw[BH];exact hl)).2 ⟨xK,e,rfl,by rw[w7];exact q1,by rw[BH];exact q2,w8⟩;refine⟨_,rfl,ρ,by rw[b5,a4];exact Ext.refl _ _ _,by simp only[VR,ax];exact⟨_,rfl,rfl⟩,by rw[b4,a3];exact r1.Fi o3,(o1.below<|hB rfl).trans<|o3.below fun k hk=>r.size k (by rw[←hs];exact hk)⟩
 ·cases h
end
theorem aeU{X:TX}{P:Program}{U:Nat}{ns:List Nat}{h0:Tr ah}{L:bV}{f g:FuncId}(h:eF X U P<|dE U ns h0 L)(hj:Cl P f g):eF X U P<|dE U ns h0<|(f,.raw fun _ _ _=>uO g)::L:=(show eF X U P (pA (dE U ns h0 L) f<|uO g) from h.cX (fun Tu _ args=>Tt.uO _ Tu args) fun B hB hT Tu hc hl args x s s1 ρ w vs fi r hg hf hm hv=>adJ hj r hv hm)
theorem adK{P:Program}{f g:Nat}(h:sp f=some (uO g)){a lo ke:Nat}{s:AS}(ha:Tv a s.nx=true)(ay:Tv a top=true)(hg:s.h.get a=some (az aO l))(hl:l.length<=1000000)(nd:(l.map (·.1)).Nodup):
 ba P sp F (n+1) (.fn f) [.slice (some (a,0)) l.length<|.au lo ke,.func (.func g) [] []] s= .ok (.tuple []) (fN a (some<|az aO<|eC l)<|aU a s):=by
 show jv P sp f (ba P sp F n) [.slice (some (a,0)) l.length<|.au lo ke,.func (.func g) [] []] s=_;rw[p6 h];show(iX (g=g) <| (bA a).bind fun o=>aB (Fc o) fun l'=>iX (l.length=l'.length/\(l'.map (·.1)).Nodup) <| (bS a<|some<|az aO<|eC l').bind fun _=>M.pure<|AV.tuple []) s=_;rw[xZ rfl,M.bO<|mo ha hg,adI hl,bW,xZ ⟨rfl,nd⟩];have h1:Tv a (aU a s).nx=true:=by rw[(gd a s).2.1];exact ha
 have h2:(aU a s).h.get a=some (az aO l):=by rw[(gd a s).1];exact hg
 rw[M.bO<|yf h1 h2 rfl ay];rfl
theorem aeV{P:Program}{f g:Nat}(h:sp f=some (uO g)){s:AS}{len:Nat}{c:cx}:ba P sp F (n+1) (.fn f) [.slice none len c,.func (.func g) [] []] s= .ok (.tuple []) s:=by show jv P sp f (ba P sp F n) [.slice none len c,.func (.func g) [] []] s=_;rw[p6 h];show(iX (g=g) <| M.pure<|AV.tuple []) s=_;rw[xZ rfl];rfl
end
section
open Go
section
variable {X:TX} {P:Program} {U:Nat} {ns:List Nat} {h0:Tr ah} {L:bV} {g:Nat} {fn:Func} {body:Code}
theorem acK{kH:FuncId->Nat}(hw:∀B,XI P B kH)(hP:bY P)(fS:fY<=U)(dI:U<=top)(dL:∀n o,n<top->h0.get n=some o->n∈ns)(eH:∀n∈ns,n<U){val:List AV->Option AV}(h:eF X U P<|dE U ns h0 L)(cv:P.funcs[g]? =some fn)(cF:fn.body=some body)(dF:(fn.name == "runtime.NumGoroutine")=false)(eX:∀args v,val args=some v->∃n s1,AG P kH n (.fn g) args ⟨h0,U,0,[],[]⟩= .ok v s1):eF X U P<|dE U ns h0<|(g,.val val)::L:=by
 refine(show eF X U P (pA (dE U ns h0 L) g<|nH U ns h0 val) from h.cX (fun Tu _ args=>Tt.nH _ _ _ _ Tu args) fun B hB hT Tu hc hl args x s s1 ρ w vs fi r hg hf hm hv=>?_);unfold nH at hm;let⟨gV,h1⟩:=dv hm;let⟨u,s2,h2,h3⟩:=M.aQ h1;let⟨v,h4,h5⟩:=bz h3;let⟨h6,h7⟩:=dv h5;obtain⟨rfl,rfl⟩:=bG h7;let⟨a1,a2,a3⟩:=vU h2;let⟨n,s4,q⟩:=eX _ _ h4;have oy:=EW dI r dL eH (fun n hn=>by let⟨_,o,p,h⟩:=a3 n hn;exact⟨o,p,h⟩);have fi:bH (⟨h0,U,0,[],[]⟩:AS):=⟨TN _,dI⟩;have Bc:gG<|gH U ρ:=fun g iV=>by let⟨N,e⟩:=hg g iV;exact⟨N,by unfold gH;rw[if_pos<|TJ iV fS];exact e⟩
 have bQ:=(amH (B:=qh B ρ w) hP (hw _) n).fn g args x ⟨h0,U,0,[],[]⟩ s4 (gH U ρ) w vs fi oy Bc (fun k k1 _ k2=>by
  have k1:U<=k:=k1;unfold gH gK;rw[if_neg ak,if_neg ak])
  q (AV.Ce (fun k y hk e=>by rw[qP dI hk];exact e) gV hv)
 rw[tT cv cF dF] at bQ ⊢;have bQ:Calls P g vs w _:=bQ;show Calls P g vs w _;refine bQ.mono fun e w'=>?_;rintro ⟨y,rfl,σ,e1,e2,e3,e4⟩;let⟨b1,b2,b3,b4⟩:=KD (a:=s.nx) dI r e3 e4 e1.le;exact⟨y,rfl,cS ρ σ,by rw[a2];exact b1,AV.ou b2 h6 e2,by rw[a1];exact b3,b4⟩
end
end
section
open Go.RowKit Go.ChangeShapes
variable {ρ:Ren} {v:Value} {α:Type} {t e:TypeId} {fuel K:Nat}
abbrev mI:=List<|Nat×Nat×List AV
def Has(σ:Ren)(ms:mI):Prop:=∀p∈ms,σ (hn (nm p.2.2) p.1 p.2.1)≠none
def Good(w:World)(ms:mI):Prop:=∀p∈ms,p.2.2.all AV.eR=true/\∃c e fr,w.heap[p.1]? =some (.cells c e fr)/\∀(i:Nat) (x:AV),p.2.2[i]? =some x->∃v,c[p.2.1+i]? =some v/\∀σ,Has σ ms->VR (gK σ) x v
def Is(ms:mI)(x:AV)(v:Value):Prop:=∀σ,Has σ ms->VR (gK σ) x v
theorem Has.sub{σ:Ren}{a b:mI}(h:Has σ b)(hs:∀p∈a,p∈b):Has σ a:=fun p hp=>h p<|hs p hp
theorem Is.sub{a b:mI}{x:AV}(h:Is a x v)(hs:∀p∈a,p∈b):Is b x v:=fun σ hh=>h σ<|hh.sub hs
theorem Good.nil{w:World}:Good w []:=fun p hp=>by cases hp
theorem Good.app{w:World}{a b:mI}(h:Good w a)(k:Good w b):Good w<|a++b:=fun p hp=>by
 rcases TP.1 hp with hp|hp
 ·let⟨h1,c,e,fr,h2,h3⟩:=h p hp;exact⟨h1,c,e,fr,h2,fun i x hx=>by let⟨v,k1,k2⟩:=h3 i x hx;exact⟨v,k1,fun σ hh=>k2 σ<|hh.sub fun p hp=>T7 _ hp⟩⟩
 ·let⟨h1,c,e,fr,h2,h3⟩:=k p hp;exact⟨h1,c,e,fr,h2,fun i x hx=>by let⟨v,k1,k2⟩:=h3 i x hx;exact⟨v,k1,fun σ hh=>k2 σ<|hh.sub fun p hp=>TU _ hp⟩⟩
section
variable {H:Type} {enc:TypeId×Value->H} {P:Program} {w:World} {base:Nat} {spare:Nat->Bool} {held:Bool}
theorem amB{a:Addr}{n:Nat}{cs:List Value}(h:w.cells? base a n=some cs):cs.length=n/\∀(j:Nat) (x:Value),cs[j]? =some x->w.cell? (a.add j)=some x:=by
 unfold World.cells? at h;split at h
 ·have hlen:cs.length=n:=by simpa using mapM_some_length h
  refine⟨hlen,fun j x hx=>?_⟩;have hj:j<n:=by have:=(TZ.1 hx).1;omega
  have:=mapM_some_get h j j (by simp[hj]);exact this.trans hx
 ·cases h
theorem anp(b o m:Nat):(⟨b,o,none⟩:Addr).add m=⟨b,o+m,none⟩:=by
 unfold Addr.add;split
 ·rename_i h;subst h;rfl
 ·rfl
theorem add_zero(a:Addr):a.add 0=a:=by unfold Addr.add;rw[if_pos rfl]
theorem adU{x:DataW H×List MemPlace}(Fm:0<K)(ht:P.underlying t=some (.slice e))(hK:P.cellsOf e=K)(h:DataW.trod enc P w base spare held fuel t [v]=some x):
 (∃a cap,v= .slice a 0 cap/\(a=none->cap=0))\/∃(b o len cap:Nat) (c:Array Value) (el:TypeId) (fr:Nat×Nat) (rows:List<|List Value),v= .slice (some ⟨b,o,none⟩) len cap/\len<=cap/\w.heap[b]? =some (.cells c el fr)/\rows.length=len/\∀(i:Nat) (row:List Value),rows[i]? =some row->row.length=K/\(∃n y,n<fuel/\DataW.trod enc P w base spare held n e row=some y)/\∀(j:Nat) (x:Value),row[j]? =some x->c[o+i*K+j]? =some x:=by
 rcases DataW.trod_slice ht h with⟨h0,_⟩|⟨a,len,cap,elems,rest,n,Ns,rG,_,_,hl,_,hlen,hel,_,_⟩
 ·left;injection h0 with h0 _
  exact⟨none,0,h0,fun _=>rfl⟩
 ·injection rG with hv _
  subst hv;rcases Vl len with rfl|hlp
  ·exact .inl ⟨some a,cap,rfl,fun e=>by cases e⟩
  right;have ZC:∀i,i<len->∃cs y,w.cells? base (a.add<|i*K) K=some cs/\DataW.trod enc P w base spare held n e cs=some y:=fun i hi=>by have he:=hel i hi;rw[hK,TE ak] at he;let⟨cs,h1,h2⟩:=Option.bind_eq_some_iff.1 he;exact⟨cs,_,h1,h2⟩
  let⟨cs0,_,h1,_⟩:=ZC 0 hlp;let⟨k1,k2⟩:=amB h1;have jF:=k2 0 _<|TE ak;rw[UE,add_zero,add_zero] at jF;have MJ:a.spot=none:=World.cell?_spot jF;let⟨b,o,sp⟩:=a;simp only at MJ;subst MJ;unfold World.cell? at jF;simp only at jF;cases hb:w.heap[b]? with
  |none=>rw[hb] at jF;cases jF
  |some ob=>
   rw[hb] at jF;cases ob with
   |cells c el fr=>
    refine⟨b,o,len,cap,c,el,fr,(Ui len).map fun i=>(w.cells? base ((⟨b,o,none⟩:Addr).add<|i*K) K).getD [],rfl,hl,hb,by simp,fun i row fx=>?_⟩;have hi:i<len:=by have:=(TZ.1 fx).1;simpa using this
    let⟨cs,y,h1,h2⟩:=ZC i hi;rw[Uc,Vt hi,Uj,h1] at fx;injection fx with fx
    have aj6:cs=row:=fx;subst aj6;let⟨k1,k2⟩:=amB h1;refine⟨k1,⟨n,_,by omega,h2⟩,fun j x hx=>?_⟩;have:=k2 j x hx;rw[anp,anp] at this;unfold World.cell? at this;simp only[hb] at this;simpa using this
   |_=>cases jF
theorem aaL{β:Type}{K:Nat}:∀{l:List<|List β} {i:Nat} {x:β},(∀c∈l,c.length=K)->l.flatten[i]? =some x->∃q j row,l[q]? =some row/\row[j]? =some x/\i=q*K+j
 |[],i,x,_,h=>by simp at h
 |c::l,i,x,hl,h=>by
  have hc:=hl c TA;rw[T5] at h;by_cases q:i<c.length
  ·rw[Ux q] at h;exact⟨0,i,c,rfl,h,by omega⟩
  ·rw[UJ ak] at h;let⟨a,j,row,h1,h2,h3⟩:=aaL (fun c' h'=>hl c'<|TB _ h') h;exact⟨a+1,j,row,by simpa using h1,h2,by rw[Uo,UN];omega⟩
def AB(w:World)(qx:α->List AV)(Q:α->Prop)(row:List Value)(a:α)(ms:mI):Prop:=Q a/\Good w ms/\∀(j:Nat) (x:AV),(qx a)[j]? =some x->∃u,row[j]? =some u/\Is ms x u
theorem Xw{α:Type}{qx:α->List AV}{Q:α->Prop}:∀{rows:List<|List Value},(∀row∈rows,∃a ms,AB w qx Q row a ms)->
 ∃(l:List α) (ms:mI),l.length=rows.length/\(∀a∈l,Q a)/\Good w ms/\∀(i:Nat) a row,l[i]? =some a->rows[i]? =some row->∀(j:Nat) (x:AV),(qx a)[j]? =some x->∃u,row[j]? =some u/\Is ms x u
 |[],_=>⟨[],[],rfl,(fun a ha=>by cases ha),Good.nil,(fun i a row h=>by simp at h)⟩
 |row::rows,h=>by
  let⟨a,ms,h1,h2,h3⟩:=h row TA;let⟨l,ns,k1,k2,k3,k4⟩:=Xw (rows:=rows) fun r hr=>h r<|TB _ hr;refine⟨a::l,ms++ns,(by simp[k1]),fun b hb=>?_,h2.app k3,fun i b r hb hr j x hx=>?_⟩
  ·rcases Ty.1 hb with rfl|hb
   ·exact h1
   ·exact k2 b hb
  ·cases i with
   |zero=>simp at hb hr;subst hb;subst hr;let⟨u,e1,e2⟩:=h3 j x hx;exact⟨u,e1,e2.sub fun p hp=>T7 _ hp⟩
   |succ i=>simp at hb hr;let⟨u,e1,e2⟩:=k4 i b r hb hr j x hx;exact⟨u,e1,e2.sub fun p hp=>TU _ hp⟩
theorem BR{qx:α->List AV}{Q:α->Prop}(he:kA K qx)(Fm:0<K){x:DataW H×List MemPlace}(ht:P.underlying t=some (.slice e))(hK:P.cellsOf e=K)(fx:∀row:List Value,row.length=K->(∃n y,n<fuel/\DataW.trod enc P w base spare held n e row=some y)->∃a ms,AB w qx Q row a ms)(h:DataW.trod enc P w base spare held fuel t [v]=some x):
 ∃(l:List α) (ms:mI),(∀a∈l,Q a)/\Good w ms/\Is ms (ar qx l) v:=by
 rcases adU Fm ht hK h with⟨a,cap,rfl,hz⟩|⟨b,o,len,cap,c,el,fr,rows,rfl,h2,h3,h4,h5⟩
 ·refine⟨[],[],(fun a ha=>by cases ha),Good.nil,fun σ _=>?_⟩;unfold ar;simp only[VR];exact .inl ⟨cR _,rfl,a,cap,rfl,hz,(fun e=>absurd e (EV _).1),fun e=>absurd e (EV _).2⟩
 ·let⟨l,ms,k1,k2,k3,k4⟩:=Xw (w:=w) (qx:=qx) (Q:=Q) (rows:=rows) fun row hr=>by let⟨i,hi⟩:=List.mem_iff_getElem?.1 hr;let⟨a1,a2,_⟩:=h5 i row hi;exact fx row a1 a2
  refine⟨l,(b,o,(l.map qx).flatten)::ms,k2,fun p hp=>?_,fun σ hh=>?_⟩
  ·rcases Ty.1 hp with rfl|hp
   ·refine⟨he.all l,c,el,fr,h3,fun i x hx=>?_⟩;let⟨q,j,row,e1,e2,e3⟩:=aaL (K:=K) (fun c' SE=>by obtain⟨a,_,rfl⟩:=TI.1 SE;exact he.len a) hx;rw[Uc] at e1;cases ha:l[q]? with
    |none=>rw[ha] at e1;cases e1
    |some a=>
     rw[ha] at e1;injection e1 with e1
     subst e1;have hq:q<rows.length:=by have:=(TZ.1 ha).1;omega
     let⟨u,g1,g2⟩:=k4 q a rows[q] ha (TE hq) j x e2;let⟨_,_,g4⟩:=h5 q rows[q]<|TE hq;exact⟨u,by rw[e3, ←UU];exact g4 j u g1,fun σ hh=>g2 σ<|hh.sub fun p hp=>TB _ hp⟩
   ·let⟨h1,c',e',qD,ti,RX⟩:=k3 p hp;exact⟨h1,c',e',qD,ti,fun i x hx=>by let⟨v,q1,q2⟩:=RX i x hx;exact⟨v,q1,fun σ hh=>q2 σ<|hh.sub fun p hp=>TB _ hp⟩⟩
  ·unfold ar;simp only[VR];refine .inr ⟨b,o,cap,.inr ⟨cR _,?_⟩,?_,fun _=>⟨by omega,(EV _).1⟩⟩
   ·have:=hh _ TA;unfold gK;rw[if_pos<|gb _ _ _];exact this
   ·rw[Ul,k1,h4]
end
open Classical in
def qk(ms:mI)(ρ:Ren):Ren:=fun k=>if ρ k=none/\∃p∈ms,k=hn (nm p.2.2) p.1 p.2.1 then some (0,0) else ρ k
theorem J4{ms:mI}:ρ.le<|qk ms ρ:=fun k x e=>by unfold qk;rw[if_neg (fun q=>by rw[e] at q;cases q.1)];exact e
theorem OI{ms:mI}{k:Nat}(hk:k<top):qk ms ρ k=ρ k:=by unfold qk;rw[if_neg (fun⟨_,p,_,q⟩=>by have:=gb (nm p.2.2) p.1 p.2.1;omega)]
theorem amC{ms:mI}:Has (qk ms ρ) ms:=fun p hp=>by
 unfold qk;by_cases q:ρ (hn (nm p.2.2) p.1 p.2.1)=none
 ·rw[if_pos ⟨q,p,hp,rfl⟩];exact fun h=>by cases h
 ·rw[if_neg fun z=>q z.1];exact q
theorem Start.aj7(B:aE){U:Nat}{h0:Tr ah}{w:World}{ms:mI}(S:Start U h0 ρ w)(ht:U<=top)(hg:Good w ms):Rel ⟨fun k=>w.heap.size<=k,FU,fun _=>True,B.inv,w.heap.size,B.mono⟩ (qk ms ρ) h0 w:=by
 have r:=S.rel ht;refine⟨fun n o hn h=>?_,fun n m o p b N M hn hm h1 h2 cV e1 e2=>?_,fun n m es ex left cur hn h=>?_,r.size,r.lone,fun n b sh e=>?_,vh.no (fun n k v hn hg=>by have:=(S.is n _ hn hg).1;cases this) ⟨Tz _,fun n o hn hg _=>by let⟨_,b,N,o',h1,h2,_⟩:=S.is n o hn hg;exact⟨b,N,J4 _ _ h1,gC h2⟩⟩⟩
 ·let⟨b,N,o',h1,h2,h3,h4⟩:=r.is n o hn h;exact⟨b,N,o',J4 _ _ h1,h2,h3.mono J4,h4⟩
 ·rw[OI hn] at e1;rw[OI hm] at e2;exact r.one n m o p b N M hn hm h1 h2 cV e1 e2
 ·have:=(S.is n _ hn h).1;cases this
 ·refine⟨.inl trivial,?_⟩;have mD:ρ (hn n b sh)=Option.none:=S.free _<|TO ht<|gb _ _ _;unfold qk at e;split at e
  ·rename_i q;let⟨_,p,hp,q⟩:=q;obtain⟨rfl,rfl,rfl⟩:=Es q;let⟨h1,c,el,fr,h2,h3⟩:=hg p hp;refine⟨p.2.2,c,el,fr,Al h1,h2,fun m o N hm ho cL=>?_,fun i x hx=>?_⟩
   ·rw[ah.kL (S.is m o hm ho).1] at cL;cases cL
   ·let⟨v,q1,q2⟩:=h3 i x hx;exact⟨v,q1,q2 _ amC,Jv<|TG.1 h1 x<|TY hx⟩
  ·exact absurd mD e
end
section
variable {ρ:Ren} {ty:TypeId} {U g:Nat} {h:Tr ah} {c:Array Value} {W:World}
theorem Start.aj9{m:Nat}{t:Tr AV}{fr:Nat×Nat}(S:Start U h ρ W)(RZ:g<top)(jI:ρ g=some (g,c.size))(hW:W.heap[g]? =some (.cells c ty fr))(hm:m=c.size)(row:∀i,i<m->∃x v,t.get i=some x/\x.bM=true/\c[i]? =some v/\VR ρ x v):Start U (h.put g<|some<|.ro m t) ρ W:=by
 refine⟨S.g,S.free,fun n o hn ho=>?_⟩;rw[Tr.dy _ _ _ _ RZ hn] at ho;by_cases q:n=g
 ·subst q;rw[if_pos rfl] at ho;injection ho with ho;subst ho
  exact⟨rfl,n,c.size,_,jI,hW,c,ty,fr,rfl,rfl,hm,row⟩
 ·rw[if_neg q] at ho;exact S.is n o hn ho
section
end
theorem Start.aof{fr:Nat×Nat}(S:Start U h ρ W)(low:∀k,k<fY->ρ k=VL W k)(hg:g<fY)(hW:W.heap[g]? =some (.cells c ty fr))(l:List AV)(hl:l.length<=top)(hs:l.length=c.size)(row:∀(i:Nat) x,l[i]? =some x->x.bM=true/\∃v,c[i]? =some v/\VR ρ x v):Start U (h.put g<|some<|.ro l.length<|Tr.fill l 0 .nil) ρ W:=by
 refine S.aj9 (TJ hg (by unfold fY top;decide)) ?_ hW hs fun i hi=>?_
 ·rw[low g hg];unfold VL;rw[if_pos hg,hW]
 ·obtain⟨x,hx⟩:∃x,l[i]? =some x:=⟨l[i],TE hi⟩;let⟨h1,v,h2,h3⟩:=row i x hx;exact⟨x,v,by rw[aee _ hl i hi];exact hx,h1,h2,h3⟩
end
end Go.Rn
