import Derived.Test.YthjiifomjmdjbaaGreatDoorAtGL
import Derived.Test.YthjiifomjmdjbaaGreatDoorAtGJ
import Derived.Test.YthjiifomjmdjbaaGreatDoorAtGK
import Derived.Test.YthjiifomjmdjbaaGreatDoorAtGI
import Derived.Test.YthjiifomjmdjbaaGreatDoorRnGH
set_option maxRecDepth 100000
set_option maxHeartbeats 8000000
set_option linter.unusedSimpArgs false
set_option linter.unusedVariables false
section
open Go Go.Rn Go.RowKit Go.Proofs
namespace WU
open cq gw eH gU fx gY eX cz dj cO cT fm eR fM fO fU gh fV gi gO gP gZ hU iH iX jI jJ lD lU kF my
noncomputable abbrev xf(a:MN)(to xx:Int)(n:Nat)(u:AV)(fs:List Fr):VS:=aQ ((a.pre:List AV).set (2+to.toNat)<|i6 xx) (0+n) (.ak (0+n) 13) (a.steps+1) u<|(fs.take n).set ((((0+n):Nat):Int) - 1).toNat ({(av (fs.take n)<|(((0+n):Nat):Int) - 1) with ah:=((av (fs.take n)<|(((0+n):Nat):Int) - 1).ah+1),turns:=(av (fs.take n)<|(((0+n):Nat):Int) - 1).turns}:Fr)
noncomputable abbrev Jy(to op nn:Int)(N L:Nat)(aE n2:Int)(N2 L2:Nat)(bd el:List St):AV:=.tuple [(.agg [(u8<|.ofNat 2),(i6 to),(u8<|op),(i6 nn),(.U N 0 L),(u8<|aE),(i6 n2),(.U N2 0 L2),(.U (nm (bd.map aM).flatten) 0 bd.length),(.U (nm (el.map aM).flatten) 0 el.length)]),(.bool true)]
theorem aht{B:aJ}{a:MN}{n c:Nat}{u:AV}{fs:List Fr}{A1:MN}{m1 c1:Nat}{u1:AV}{bq:List Fr}{A2:MN}{m2 c2:Nat}{u2:AV}{bj:List Fr}{N L N2 L2:Nat}{to op nn aE n2 z wi t:Int}{bd el ol fb:List St}{fa ft y0 y1 y2 y3 y4 y5 y6 y7:Int}{fo:Bool}{ub:AV}{xx:Int}(mc:Mt LM B)(h1:1<=n)(hn:n<=fs.length)(hc:n<=c)(hf:fs.length<=1000000)(hR:fs.length*13<=top)(aD:0<=(av (fs.take n)<|((0+n:Nat):Int) - 1).ah/\(av (fs.take n)<|((0+n:Nat):Int) - 1).ah<=1000000)(cF:0<=a.steps/\a.steps<=1000000000000)(hlen:bq.length<=1000000)(nO:(AV.U A1.G A1.q A1.lg).bZ=true)(h0:0<=to)(h8:to<8)(k0:bA 10 (aQ a.pre n (.ak c 13) a.steps u fs)=true)(k1:vR lk (aQ a.pre n (.ak c 13) a.steps u fs) []=some (.agg [(u8<|.ofNat 2),(i6 wi),i0]))(k2:((Jy to op nn N L aE n2 N2 L2 bd el):AV).hi=true)(k3:vR iU (aQ a.pre n (.ak c 13) a.steps u fs) []=some (Jy to op nn N L aE n2 N2 L2 bd el))(k4:bA 10 (xf a to xx n u fs)=true)(k5:dH eJ (xf a to xx n u fs) []=some (.tuple [],(aQ A1.pre m1 (.ak c1 13) A1.steps u1 bq)))(k6:bA 10 (aQ A1.pre m1 (.ak c1 13) A1.steps u1 bq)=true)(H:l9 B (az Tryz.f48) (aQ A1.pre m1 (.ak c1 13) A1.steps u1 bq) (sj 48 4 38<|dF 48 [1,1,1,1,1,1,1,1])<|pS A1 m1 (.ak c1 13) u1 bq):l9 B (az Tryz.f48) (aQ A1.pre m1 (.ak c1 13) A1.steps u1 bq) (sF 48 Tryz.f48 [(.ptr<|some (270,0)),(i6 xx)])<|aq (ar++bu (dC 270 3<|aQ a.pre n (.ak c 13) a.steps u fs)) 273:=by have ht:top=549755813888:=rfl;exact Af mc H (.st 8<|.rg<|.go 1<|.cg (.agg [(u8<|.ofNat 2),(i6 wi),i0]) (vG 272) (vQ 272<|aQ a.pre n (.ak c 13) a.steps u fs)<|.go 3<|.en<|.st 4<|.rg<|.go 1<|.cg (Jy to op nn N L aE n2 N2 L2 bd el) (vG 272) (vQ 272<|aQ a.pre n (.ak c 13) a.steps u fs)<|.go 6<|.en<|.st 1<|.rg<|.go 4<|.vl (i6<|a.steps+1)<|.go 3<|.en<|.st 1<|.rg<|.go 1<|.il<|.st 1<|.rg<|.go 4<|.il<|.st 8<|.rg<|.go 2<|.ao [] (((fs).map aH).flatten) ((((fs.take n)).map aH).flatten)<|.go 1<|.en<|.rt 1<|.go 1<|.en<|.st 1<|.rg<|.go 3<|.vl (i6<|(((0+n):Nat):Int) - 1)<|.ix<|.go 1<|.ld [(i6<|(av (fs.take n)<|(((0+n):Nat):Int) - 1).ah)]<|.vl (i6<|(av (fs.take n)<|(((0+n):Nat):Int) - 1).ah+1)<|.ix<|.go 1<|.l6 (aN aH<|(fs.take n).set ((((0+n):Nat):Int) - 1).toNat ({(av (fs.take n)<|(((0+n):Nat):Int) - 1) with ah:=((av (fs.take n)<|(((0+n):Nat):Int) - 1).ah+1),turns:=(av (fs.take n)<|(((0+n):Nat):Int) - 1).turns}:Fr))<|.en<|.rt 2<|.en<|.st 1<|.rg<|.go 6<|.GY<|.l6 (aN lS<|((a.row (.ptr<|some (271,0)) (.slice (some (275,0)) ((0+n))<|.ak (0+n) 13)<|i6<|(a.steps+1)):List AV).set (2+to.toNat)<|i6 xx)<|.en<|.st 1<|.rg<|.go 1<|.cg (.tuple []) (JW 270 dV eK 3 270 271 275<|aQ A1.pre m1 (.ak c1 13) A1.steps u1 bq) (F4 270 dV eK 3 270 271 275<|xf a to xx n u fs)<|.en<|.st 2<|(Ae 4 A1 m1 (.ak c1 13) u1 bq 275 276))<|yo LM 28 272 (vR lk) [] (aQ a.pre n (.ak c 13) a.steps u fs) (.agg [(u8<|.ofNat 2),(i6 wi),i0]) k0 k1<|jL LM 50 272 (vR iU) [] (aQ a.pre n (.ak c 13) a.steps u fs) (Jy to op nn N L aE n2 N2 L2 bd el) k0 k3 ct k2<|ai BG<|Ad (fs:=fs) (n:=n) ab dR dR<|ai BF<|dq ((((0+n):Nat):Int) - 1) (((0+n):Nat):Int)<|ai (ke fy dR (jj (l:=(fs.take n)) (z:=((((0+n):Nat):Int) - 1)) ab dR) 1 1 rfl)<|ai BE<|dq ((((0+n):Nat):Int) - 1) (((0+n):Nat):Int)<|ai (qc fy dR (jj (l:=(fs.take n)) (z:=((((0+n):Nat):Int) - 1)) ab dR) (c':=({(av (fs.take n)<|(((0+n):Nat):Int) - 1) with ah:=((av (fs.take n)<|(((0+n):Nat):Int) - 1).ah+1),turns:=(av (fs.take n)<|(((0+n):Nat):Int) - 1).turns}:Fr)) (r:=[(i6<|((av (fs.take n)<|(((0+n):Nat):Int) - 1).ah+1))]) 1 rfl rfl rfl)<|dq to (Int.ofNat 8)<|ai (MZ (c':=(i6 xx)) (show((a.row (.ptr<|some (271,0)) (.slice (some (275,0)) ((0+n))<|.ak (0+n) 13)<|i6<|(a.steps+1)):List AV).length<=top from aL.1 aW) (Uk (a.row (.ptr<|some (271,0)) (.slice (some (275,0)) ((0+n))<|.ak (0+n) 13)<|i6<|(a.steps+1)) (k:=2+to.toNat) ab) rfl)<|ai (NI (P:=pg) (F:=FU) (sp:=sp LM) (g:=62) (J:=270) (h0:=dV) (ns:=eK) (rest:=[]) (n:=5) (kp:=10) (k:=3) (val:=dH eJ) (a:=270) (r1:=271) (r2:=275) (st:=(xf a to xx n u fs)) (aZ:=(aQ A1.pre m1 (.ak c1 13) A1.steps u1 bq)) (y:=.tuple []) ct ct ct ct (by simp only[List.length_set];rfl) k4 k5 ct k6)<|ai (show true=true/\true=true/\(some (aN lS<|((a.row (.ptr<|some (271,0)) (.slice (some (275,0)) ((0+n))<|.ak (0+n) 13)<|i6<|(a.steps+1)):List AV).set (2+to.toNat)<|i6 xx):Option ae)=some (bO<|dQ ((xf a to xx n u fs)).R 271 275)/\(some (.tok 3 ((xf a to xx n u fs)).u):Option ae)=some (.tok 3 ((xf a to xx n u fs)).u)/\some (bO ((xf a to xx n u fs)).row)=some (bO ((xf a to xx n u fs)).row) from⟨rfl,rfl,congrArg some<|Ul (pre:=a.pre) (post:=[(i6<|(a.steps+1))]) (len:=(0+n)) (i:=(2+to.toNat)) (r1:=271) (r2:=275) (cap:=(.ak (0+n) 13)) (c:=(i6 xx)) (by show(2+to.toNat)<10;omega),rfl,rfl⟩)<|Em 48 4 38 (dF 48 [1,1,1,1,1,1,1,1]) A1 m1 (.ak c1 13) u1 bq 275 276 hlen nO
end WU
end
section
open Go Go.Rn Go.RowKit Go.Proofs
namespace lV
open cq gw eH gU eX cz dj cO cT fm eR fM fO fU gh fV gi gO gP gZ hU iH iX jI jJ fx gY
variable {fs:List Fr} {f:Fr}
def jP:Nat->List Fr->bz->Option (List Fr×bz)
 |0,_,_=>none
 |_+1,[],b=>some ([],b)
 |k+1,f::r,b=>
  if f.ah<(f.block.length:Int) then some (f::r,b)
  else if 0<f.turns then if 0<(f.block.length:Int) then some ({f with ah:=0,turns:=f.turns - 1}::r,b) else jP k ({f with ah:=0,turns:=f.turns - 1}::r) b
  else if f.ch=true then(if 2<=b.length then jP k r (gQ b) else none)
  else jP k r b
def below:List Fr->Option (Fr×List Fr)
 |[]=>none
 |f::r=>if f.ch=true then some (f,r) else below r
theorem Ng{n:Nat}{r:List Fr}(hn:n<=fs.length)(h:(fs.take n).reverse=f::r):∃m,n=m+1/\m<fs.length/\fs[m]? =some f/\(fs.take m).reverse=r:=by
 cases n with
 |zero=>simp at h
 |succ m=>
  have hm:m<fs.length:=by omega
  rw[List.take_add_one,List.getElem?_eq_getElem hm] at h;simp only[Option.toList,List.reverse_append,List.reverse_cons,List.reverse_nil,List.nil_append,List.cons_append,List.cons.injEq] at h;exact⟨m,rfl,hm,by rw[List.getElem?_eq_getElem hm,h.1],h.2⟩
theorem acj{m:Nat}(h:fs[m]? =some f):(fs.take<|m+1).reverse=f::(fs.take m).reverse:=by rw[List.take_add_one,h];simp only[Option.toList,List.reverse_append,List.reverse_cons,List.reverse_nil,List.nil_append,List.cons_append]
theorem Nh{m:Nat}(h:fs[m]? =some f):av fs (m:Int)=f:=by unfold av;rw[List.getD_eq_getElem?_getD,show((m:Int)).toNat=m by omega,h];rfl
theorem TJ{m:Nat}(h:fs[m]? =some f):av fs (((m+1:Nat):Int) - 1)=f:=by rw[show(((m+1:Nat):Int) - 1)=(m:Int) by omega];exact Nh h
theorem take_set{m:Nat}(g:Fr)(hm:m<fs.length):((fs.set m g).take<|m+1).reverse=g::(fs.take m).reverse:=by rw[acj (f:=g)<|by rw[List.getElem?_set_self hm]];congr 2;rw[List.take_set_of_le<|Nat.le_refl m]
theorem HR:∀(k n:Nat) (fs:List Fr) (b:bz) (st aZ:List Fr) (b':bz),jP k st b=some (aZ,b')->n<=fs.length->(fs.take n).reverse=st->∃n' cZ,om k n fs b=some (n',cZ,b')/\n'<=n/\cZ.length=fs.length/\(cZ.take n').reverse=aZ
 |0,_,_,_,_,_,_,h,_,_=>by cases h
 |k+1,n,fs,b,st,aZ,b',h,hn,e=>by
  cases st with
  |nil=>
   have n0:n=0:=by have:=congrArg List.length e;rw[List.length_reverse,List.length_take] at this;simp only[List.length_nil] at this;omega
   unfold jP at h;injection h with h;injection h with h1 h2
   subst h1;subst h2;exact⟨n,fs,by unfold om;rw[if_pos n0],Nat.le_refl _,rfl,e⟩
  |cons f r=>
   obtain⟨m,rfl,hm,hf,hr⟩:=Ng hn e;have ef:=TJ hf;have em:(((m+1:Nat):Int) - 1).toNat=m:=by omega
   unfold jP at h;unfold om;rw[if_neg ab];simp only[ef,em];by_cases c1:f.ah<(f.block.length:Int)
   ·rw[if_pos c1] at h ⊢;injection h with h;injection h with h1 h2
    subst h1;subst h2;exact⟨m+1,fs,rfl,Nat.le_refl _,rfl,e⟩
   ·rw[if_neg c1] at h ⊢;by_cases c2:0<f.turns
    ·rw[if_pos c2] at h ⊢;have e2:=take_set {f with ah:=0,turns:=f.turns - 1} hm;rw[hr] at e2;by_cases c3:0<(f.block.length:Int)
     ·rw[if_pos c3] at h ⊢;injection h with h;injection h with h1 h2
      subst h1;subst h2;exact⟨m+1,_,rfl,Nat.le_refl _,List.length_set,e2⟩
     ·rw[if_neg c3] at h ⊢;obtain⟨n',cZ,a1,a2,a3,a4⟩:=HR k (m+1) _ b _ _ _ h (by rw[List.length_set];exact hn) e2;exact⟨n',cZ,a1,a2,a3.trans List.length_set,a4⟩
    ·rw[if_neg c2] at h ⊢;by_cases c4:f.ch=true
     ·rw[if_pos c4] at h ⊢;by_cases c5:2<=b.length
      ·rw[if_pos c5] at h ⊢;obtain⟨n',cZ,a1,a2,a3,a4⟩:=HR k m fs _ _ _ _ h ab hr;exact⟨n',cZ,a1,by omega,a3,a4⟩
      ·rw[if_neg c5] at h;cases h
     ·rw[if_neg c4] at h ⊢;obtain⟨n',cZ,a1,a2,a3,a4⟩:=HR k m fs _ _ _ _ h ab hr;exact⟨n',cZ,a1,by omega,a3,a4⟩
theorem Ni:∀(n:Nat) (fs:List Fr) (st:List Fr),n<=fs.length->(fs.take n).reverse=st->(below st=none->iD fs n= -1)/\(∀g r,below st=some (g,r)->∃i:Nat,iD fs n=(i:Int)/\i<n/\fs[i]? =some g/\(fs.take i).reverse=r)
 |0,fs,st,hn,e=>by rw[List.take_zero] at e;subst e;exact⟨fun _=>rfl,fun g r h=>by cases h⟩
 |n+1,fs,st,hn,e=>by
  cases st with
  |nil=>have:=congrArg List.length e;rw[List.length_reverse,List.length_take] at this;simp only[List.length_nil] at this;omega
  |cons f r=>
   obtain⟨m,KU,hm,hf,hr⟩:=Ng hn e;have KU:n=m:=by omega
   subst KU;have ef:=Nh hf;obtain⟨h1,h2⟩:=Ni n fs r ab hr;unfold below iD;rw[ef];by_cases c:f.ch=true
   ·rw[if_pos c,if_pos c];refine⟨fun h=>(by cases h),fun g r' h=>?_⟩;injection h with h;injection h with e1 e2
    subst e1;subst e2;exact⟨n,rfl,by omega,hf,hr⟩
   ·rw[if_neg c,if_neg c];refine⟨h1,fun g r' h=>?_⟩;obtain⟨i,a1,a2,a3,a4⟩:=h2 g r' h;exact⟨i,a1,by omega,a3,a4⟩
theorem Cx:∀(k:Nat) (st:List Fr) (b:bz) (aZ:List Fr) (b':bz),jP k st b=some (aZ,b')->aZ=[]\/∃f r,aZ=f::r/\f.ah<(f.block.length:Int)
 |0,_,_,_,_,h=>by cases h
 |k+1,[],b,aZ,b',h=>by
  unfold jP at h;injection h with h;injection h with h1 h2
  exact .inl h1.symm
 |k+1,f::r,b,aZ,b',h=>by
  unfold jP at h;by_cases c1:f.ah<(f.block.length:Int)
  ·rw[if_pos c1] at h;injection h with h;injection h with h1 h2
   exact .inr ⟨f,r,h1.symm,c1⟩
  ·rw[if_neg c1] at h;by_cases c2:0<f.turns
   ·rw[if_pos c2] at h;by_cases c3:0<(f.block.length:Int)
    ·rw[if_pos c3] at h;injection h with h;injection h with h1 h2
     exact .inr ⟨_,r,h1.symm,c3⟩
    ·rw[if_neg c3] at h;exact Cx k _ b _ _ h
   ·rw[if_neg c2] at h;by_cases c4:f.ch=true
    ·rw[if_pos c4] at h;by_cases c5:2<=b.length
     ·rw[if_pos c5] at h;exact Cx k _ _ _ _ h
     ·rw[if_neg c5] at h;cases h
    ·rw[if_neg c4] at h;exact Cx k _ _ _ _ h
theorem YN{k:Nat}{st:List Fr}{b:bz}{aZ:List Fr}{b':bz}(h:jP k st b=some (aZ,b')):jP 1 aZ b'=some (aZ,b'):=by
 rcases Cx k st b aZ b' h with rfl|⟨f,r,rfl,hf⟩
 ·rfl
 ·unfold jP;rw[if_pos hf]
def dv(a:dO)(e:Ex):Int:=(zj e a.l a.aK).1
def Z8:List Int:=[0,0,0,0,0,0,0,0]
def kY(z:Int):Int:=dY (cK z 0) 8
def fin(a:dO)(st:List Fr)(b:bz):Option dO:=match jP 1000 st b with
 |some p=>some {a with fs:=p.1.reverse,b:=p.2}
 |none=>none
def zp(a:dO):Option dO:=match a.fs.reverse with
 |[]=>none
 |f::r=>match f.block[f.ah.toNat]? with
  |none=>none
  |some (.mk kind to ea eb bd el)=>
   if kind=1 then fin {a with l:=a.l.set to.toNat<|dv a ea,steps:=a.steps+1} ({f with ah:=f.ah+1}::r) a.b
   else if kind=2 then fin {a with l:=a.l.set to.toNat (kG a.b<|iI (dv a ea) a.vars).1,steps:=a.steps+1} ({f with ah:=f.ah+1}::r) a.b
   else if kind=3 then fin {a with steps:=a.steps+1} ({f with ah:=f.ah+1}::r) (ml a.b (iI (dv a ea) a.vars)<|dv a eb)
   else if kind=4 then fin {a with steps:=a.steps+1} (⟨if dv a ea≠0 then bd else el,0,0,false,Z8,none⟩::{f with ah:=f.ah+1}::r) a.b
   else if kind=5 then(if 0<kY (dv a ea) then fin {a with steps:=a.steps+1} (⟨bd,0,kY (dv a ea) - 1,false,Z8,none⟩::{f with ah:=f.ah+1}::r) a.b else fin {a with steps:=a.steps+1} ({f with ah:=f.ah+1}::r) a.b)
   else if kind=6 then(match below (f::r) with
    |some (⟨_,_,_,_,kept,some ol⟩,r')=>fin {a with l:=kept,steps:=a.steps+1} (⟨ol,0,0,false,Z8,none⟩::r') a.b.dropLast
    |_=>none)
   else if kind=7 then fin {a with steps:=a.steps+1} (⟨bd,0,0,true,a.l,some el⟩::{f with ah:=f.ah+1}::r) (a.b++[[]])
   else none
def wP(a:dO)(x:Int):Option dO:=match a.fs.reverse with
 |[]=>none
 |f::r=>match f.block[f.ah.toNat]? with
  |none=>none
  |some (.mk _ to _ _ _ _)=>fin {a with l:=a.l.set to.toNat x,steps:=a.steps+1} ({f with ah:=f.ah+1}::r) a.b
def fp(a:dO):Int×Int×Int:=match a.fs.reverse with
 |[]=>(3,0,0)
 |f::r=>match f.block[f.ah.toNat]? with
  |none=>(0,0,0)
  |some (.mk kind _ ea _ _ _)=>if kind=8 then(3,0,dv a ea) else if kind=6/\below (f::r)=none then(4,0,0) else if kind=2/\(kG a.b<|iI (dv a ea) a.vars).2=false then(2,iI (dv a ea) a.vars,0) else(1,0,0)
end lV
end
section
open Go Go.Rn Go.RowKit Go.Proofs
namespace pC
open cq gw eH gU eX cz dj cO cT fm eR fM fO fU gh fV gi gO gP gZ hU iH iX jI jJ fx gY lD lU kF my lV WR V5 V6 V7 V8 WS WT WU
variable {to aE nn n2 wi:Int} {n1 c1 c m2 c2:Nat} {lb la:List Ex} {bq fs bj:List Fr} {el bd:List St} {b1 b b2:bz} {a A1 A2:MN} {B:aJ}
noncomputable section
def gM(fs:List Fr)(n:Nat):List Fr:=(fs.take n).set ((((0+n):Nat):Int) - 1).toNat ({(av (fs.take n)<|(((0+n):Nat):Int) - 1) with ah:=((av (fs.take n)<|(((0+n):Nat):Int) - 1).ah+1),turns:=(av (fs.take n)<|(((0+n):Nat):Int) - 1).turns}:Fr)
abbrev qg(fs:List Fr)(k:Nat)(f:Fr):List Fr:=fs.take k++[f]
noncomputable abbrev Oq(ka to op nn:Int)(la:List Ex)(aE n2:Int)(lb:List Ex)(bd el:List St):List AV:=[.int .u8 ka,.int .i64 to,.int .u8 op,.int .i64 nn,.U (nm<|cI la) 0 la.length,.int .u8 aE,.int .i64 n2,.U (nm<|cI lb) 0 lb.length,.U (nm (bd.map aM).flatten) 0 bd.length,.U (nm (el.map aM).flatten) 0 el.length]
noncomputable abbrev y8(a:MN)(n c:Nat)(fs:List Fr)(b:bz):AS:=aq (ar++bu (dC 270 3<|da a n c fs b)) 273
theorem j1{ka:Int}{kb:VS->List AV->AV×VS->Prop}{kc:Nat}(hk:(ka=1/\kb=zG/\kc=64)\/(ka=2/\kb=zo/\kc=65)\/(ka=3/\kb=yX/\kc=66)){n:Nat}{op:Int}(mc:Mt LM B)(m0:dc a n c fs b)(h1:1<=n)(h6:n<=6)(b6:b.length<=6)(hs:mJ fs n<|some<|St.mk ka to (.mk op nn la) (.mk aE n2 lb) bd el)(kl:nS a (iD fs n) b (some<|St.mk ka to (.mk op nn la) (.mk aE n2 lb) bd el)=(1,0,0))(aD:0<=(av (fs.take n)<|((0+n:Nat):Int) - 1).ah/\(av (fs.take n)<|((0+n:Nat):Int) - 1).ah<=1000000)(cF:0<=a.steps/\a.steps<=1000000000000)(mp:dc {a with steps:=a.steps+1} (0+n) (0+n) (gM fs n) b)(m1:dc A1 n1 c1 bq b1)(lJ:dc A2 m2 c2 bj b2)(hX:dH kb (da {a with steps:=a.steps+1} (0+n) (0+n) (gM fs n) b) [.agg<|aM<|St.mk ka to (.mk op nn la) (.mk aE n2 lb) bd el]=some (.tuple [],(da A1 n1 c1 bq b1)))(pP:dH eJ (da A1 n1 c1 bq b1) []=some (.tuple [],(da A2 m2 c2 bj b2))):au pg B 271 (gV 270 3 pg (az Tryz.f41) (.int .i64 0)<|da A2 m2 c2 bj b2) (sF 41 Tryz.f41 [(.ptr<|some (270,0))])<|y8 a n c fs b:=by
 have hN:=wO m0 hs;have hK:=yY m0 h6 b6 hs;rw[kl] at hK;have hv:=s8 mp<|.mk op nn la;have hA:=qf<|.mk op nn la;have eS:aM (St.mk ka to (.mk op nn la) (.mk aE n2 lb) bd el)=(Oq ka to op nn la aE n2 lb bd el):=by rw[wz,aB,aB];rfl
 have hH:=xm<|St.mk ka to (.mk op nn la) (.mk aE n2 lb) bd el;unfold qu at hN;simp only[eS] at hN hH hX;simp only[aB] at hv hA;have hB:(AV.tuple [.agg<|Oq ka to op nn la aE n2 lb bd el,.bool true]:AV).hi=true:=by show([_,AV.bool true].all AV.kr)=true;rw[List.all_cons,show(AV.agg _).kr=true from hH];rfl
 have qK:([.agg<|Oq ka to op nn la aE n2 lb bd el]:List AV).all AV.hi=true:=by rw[List.all_cons,hH];rfl
 exact step1 hk (a:=a) (n:=n) (c:=c) (u:=bW b) (fs:=fs) (A1:=A1) (m1:=n1) (c1:=c1) (u1:=bW b1) (bq:=bq) (A2:=A2) (m2:=m2) (c2:=c2) (u2:=bW b2) (bj:=bj) (N:=nm<|cI la) (L:=la.length) (N2:=nm<|cI lb) (L2:=lb.length) (to:=to) (op:=op) (nn:=nn) (aE:=aE) (n2:=n2) (bd:=bd) (el:=el) (z:=(dD a<|.mk op nn la)) (wi:=0) (t:=0) (ol:=[]) (fb:=[]) (fa:=0) (ft:=0) (fo:=false) (ub:=.tuple []) (y0:=0) (y1:=0) (y2:=0) (y3:=0) (y4:=0) (y5:=0) (y6:=0) (y7:=0) mc h1 m0.mV m0.pR m0.len zC aD cF lJ.len lJ.aK.bZ
  vX
  vX
  vX
  vX
  vX
  vX
  vX
  vX
  vX
  vX
  (Bx mc)
noncomputable abbrev Dg(to op nn:Int)(la:List Ex)(aE n2:Int)(lb:List Ex)(bd el:List St):List AV:=[.int .u8 4,.int .i64 to,.int .u8 op,.int .i64 nn,.U (nm<|cI la) 0 la.length,.int .u8 aE,.int .i64 n2,.U (nm<|cI lb) 0 lb.length,.U (nm (bd.map aM).flatten) 0 bd.length,.U (nm (el.map aM).flatten) 0 el.length]
theorem j4y{n:Nat}{op:Int}(mc:Mt LM B)(m0:dc a n c fs b)(h1:1<=n)(h6:n<=6)(b6:b.length<=6)(hs:mJ fs n<|some<|St.mk 4 to (.mk op nn la) (.mk aE n2 lb) bd el)(kl:nS a (iD fs n) b (some<|St.mk 4 to (.mk op nn la) (.mk aE n2 lb) bd el)=(1,0,0))(aD:0<=(av (fs.take n)<|((0+n:Nat):Int) - 1).ah/\(av (fs.take n)<|((0+n:Nat):Int) - 1).ah<=1000000)(cF:0<=a.steps/\a.steps<=1000000000000)(mp:dc {a with steps:=a.steps+1} (0+n) (0+n) (gM fs n) b)(m1:dc A1 n1 c1 bq b1)(lJ:dc A2 m2 c2 bj b2)(mE:dc {a with steps:=a.steps+1} (0+n+1) (0+n+1) (qg (gM fs n) (0+n) ⟨bd,0,0,false,Z8,none⟩) b)(hE:dH eJ (da {a with steps:=a.steps+1} (0+n+1) (0+n+1) (qg (gM fs n) (0+n) ⟨bd,0,0,false,Z8,none⟩) b) []=some (.tuple [],(da A1 n1 c1 bq b1)))(pP:dH eJ (da A1 n1 c1 bq b1) []=some (.tuple [],(da A2 m2 c2 bj b2)))(hz:(dD a<|.mk op nn la)≠0):au pg B 271 (gV 270 3 pg (az Tryz.f41) (.int .i64 0)<|da A2 m2 c2 bj b2) (sF 41 Tryz.f41 [(.ptr<|some (270,0))])<|y8 a n c fs b:=by
 have hN:=wO m0 hs;have hK:=yY m0 h6 b6 hs;rw[kl] at hK;have hv:=s8 mp<|.mk op nn la;have hA:=qf<|.mk op nn la;have eS:aM (St.mk 4 to (.mk op nn la) (.mk aE n2 lb) bd el)=(Dg to op nn la aE n2 lb bd el):=by rw[wz,aB,aB];rfl
 have hH:=xm<|St.mk 4 to (.mk op nn la) (.mk aE n2 lb) bd el;unfold qu at hN;simp only[eS] at hN hH;simp only[aB] at hv hA;have hB:(AV.tuple [.agg<|Dg to op nn la aE n2 lb bd el,.bool true]:AV).hi=true:=by show([_,AV.bool true].all AV.kr)=true;rw[List.all_cons,show(AV.agg _).kr=true from hH];rfl
 have qK:([.agg<|Dg to op nn la aE n2 lb bd el]:List AV).all AV.hi=true:=by rw[List.all_cons,hH];rfl
 exact afG (a:=a) (n:=n) (c:=c) (u:=bW b) (fs:=fs) (A1:=A1) (m1:=n1) (c1:=c1) (u1:=bW b1) (bq:=bq) (A2:=A2) (m2:=m2) (c2:=c2) (u2:=bW b2) (bj:=bj) (N:=nm<|cI la) (L:=la.length) (N2:=nm<|cI lb) (L2:=lb.length) (to:=to) (op:=op) (nn:=nn) (aE:=aE) (n2:=n2) (bd:=bd) (el:=el) (z:=(dD a<|.mk op nn la)) (wi:=0) (t:=0) (ol:=[]) (fb:=[]) (fa:=0) (ft:=0) (fo:=false) (ub:=.tuple []) (y0:=0) (y1:=0) (y2:=0) (y3:=0) (y4:=0) (y5:=0) (y6:=0) (y7:=0) mc h1 m0.mV m0.pR m0.len zC aD cF lJ.len lJ.aK.bZ hz
  gq
  gq
  gq
  gq
  gq
  gq
  gq
  gq
  gq
  gq
  gq
  gq
  (Bx mc)
theorem j4n{n:Nat}{op:Int}(mc:Mt LM B)(m0:dc a n c fs b)(h1:1<=n)(h6:n<=6)(b6:b.length<=6)(hs:mJ fs n<|some<|St.mk 4 to (.mk op nn la) (.mk aE n2 lb) bd el)(kl:nS a (iD fs n) b (some<|St.mk 4 to (.mk op nn la) (.mk aE n2 lb) bd el)=(1,0,0))(aD:0<=(av (fs.take n)<|((0+n:Nat):Int) - 1).ah/\(av (fs.take n)<|((0+n:Nat):Int) - 1).ah<=1000000)(cF:0<=a.steps/\a.steps<=1000000000000)(mp:dc {a with steps:=a.steps+1} (0+n) (0+n) (gM fs n) b)(m1:dc A1 n1 c1 bq b1)(lJ:dc A2 m2 c2 bj b2)(mE:dc {a with steps:=a.steps+1} (0+n+1) (0+n+1) (qg (gM fs n) (0+n) ⟨el,0,0,false,Z8,none⟩) b)(hE:dH eJ (da {a with steps:=a.steps+1} (0+n+1) (0+n+1) (qg (gM fs n) (0+n) ⟨el,0,0,false,Z8,none⟩) b) []=some (.tuple [],(da A1 n1 c1 bq b1)))(pP:dH eJ (da A1 n1 c1 bq b1) []=some (.tuple [],(da A2 m2 c2 bj b2)))(hz:(dD a<|.mk op nn la)=0):au pg B 271 (gV 270 3 pg (az Tryz.f41) (.int .i64 0)<|da A2 m2 c2 bj b2) (sF 41 Tryz.f41 [(.ptr<|some (270,0))])<|y8 a n c fs b:=by
 have hN:=wO m0 hs;have hK:=yY m0 h6 b6 hs;rw[kl] at hK;have hv:=s8 mp<|.mk op nn la;have hA:=qf<|.mk op nn la;have eS:aM (St.mk 4 to (.mk op nn la) (.mk aE n2 lb) bd el)=(Dg to op nn la aE n2 lb bd el):=by rw[wz,aB,aB];rfl
 have hH:=xm<|St.mk 4 to (.mk op nn la) (.mk aE n2 lb) bd el;unfold qu at hN;simp only[eS] at hN hH;simp only[aB] at hv hA;have hB:(AV.tuple [.agg<|Dg to op nn la aE n2 lb bd el,.bool true]:AV).hi=true:=by show([_,AV.bool true].all AV.kr)=true;rw[List.all_cons,show(AV.agg _).kr=true from hH];rfl
 have qK:([.agg<|Dg to op nn la aE n2 lb bd el]:List AV).all AV.hi=true:=by rw[List.all_cons,hH];rfl
 exact afH (a:=a) (n:=n) (c:=c) (u:=bW b) (fs:=fs) (A1:=A1) (m1:=n1) (c1:=c1) (u1:=bW b1) (bq:=bq) (A2:=A2) (m2:=m2) (c2:=c2) (u2:=bW b2) (bj:=bj) (N:=nm<|cI la) (L:=la.length) (N2:=nm<|cI lb) (L2:=lb.length) (to:=to) (op:=op) (nn:=nn) (aE:=aE) (n2:=n2) (bd:=bd) (el:=el) (z:=(dD a<|.mk op nn la)) (wi:=0) (t:=0) (ol:=[]) (fb:=[]) (fa:=0) (ft:=0) (fo:=false) (ub:=.tuple []) (y0:=0) (y1:=0) (y2:=0) (y3:=0) (y4:=0) (y5:=0) (y6:=0) (y7:=0) mc h1 m0.mV m0.pR m0.len zC aD cF lJ.len lJ.aK.bZ hz
  gq
  gq
  gq
  gq
  gq
  gq
  gq
  gq
  gq
  gq
  gq
  gq
  (Bx mc)
noncomputable abbrev Dh(to op nn:Int)(la:List Ex)(aE n2:Int)(lb:List Ex)(bd el:List St):List AV:=[.int .u8 5,.int .i64 to,.int .u8 op,.int .i64 nn,.U (nm<|cI la) 0 la.length,.int .u8 aE,.int .i64 n2,.U (nm<|cI lb) 0 lb.length,.U (nm (bd.map aM).flatten) 0 bd.length,.U (nm (el.map aM).flatten) 0 el.length]
theorem j5t{n:Nat}{op:Int}(mc:Mt LM B)(m0:dc a n c fs b)(h1:1<=n)(h6:n<=6)(b6:b.length<=6)(hs:mJ fs n<|some<|St.mk 5 to (.mk op nn la) (.mk aE n2 lb) bd el)(kl:nS a (iD fs n) b (some<|St.mk 5 to (.mk op nn la) (.mk aE n2 lb) bd el)=(1,0,0))(aD:0<=(av (fs.take n)<|((0+n:Nat):Int) - 1).ah/\(av (fs.take n)<|((0+n:Nat):Int) - 1).ah<=1000000)(cF:0<=a.steps/\a.steps<=1000000000000)(mp:dc {a with steps:=a.steps+1} (0+n) (0+n) (gM fs n) b)(m1:dc A1 n1 c1 bq b1)(lJ:dc A2 m2 c2 bj b2)(mE:dc {a with steps:=a.steps+1} (0+n+1) (0+n+1) (qg (gM fs n) (0+n) ⟨bd,0,(kY<|dD a<|.mk op nn la) - 1,false,Z8,none⟩) b)(hE:dH eJ (da {a with steps:=a.steps+1} (0+n+1) (0+n+1) (qg (gM fs n) (0+n) ⟨bd,0,(kY<|dD a<|.mk op nn la) - 1,false,Z8,none⟩) b) []=some (.tuple [],(da A1 n1 c1 bq b1)))(pP:dH eJ (da A1 n1 c1 bq b1) []=some (.tuple [],(da A2 m2 c2 bj b2)))(hz:0<kY (dD a<|.mk op nn la)/\kY (dD a<|.mk op nn la)<=8):au pg B 271 (gV 270 3 pg (az Tryz.f41) (.int .i64 0)<|da A2 m2 c2 bj b2) (sF 41 Tryz.f41 [(.ptr<|some (270,0))])<|y8 a n c fs b:=by
 have hN:=wO m0 hs;have hK:=yY m0 h6 b6 hs;rw[kl] at hK;have hv:=s8 mp<|.mk op nn la;have hA:=qf<|.mk op nn la;have eS:aM (St.mk 5 to (.mk op nn la) (.mk aE n2 lb) bd el)=(Dh to op nn la aE n2 lb bd el):=by rw[wz,aB,aB];rfl
 have hH:=xm<|St.mk 5 to (.mk op nn la) (.mk aE n2 lb) bd el;unfold qu at hN;simp only[eS] at hN hH;simp only[aB] at hv hA;have hB:(AV.tuple [.agg<|Dh to op nn la aE n2 lb bd el,.bool true]:AV).hi=true:=by show([_,AV.bool true].all AV.kr)=true;rw[List.all_cons,show(AV.agg _).kr=true from hH];rfl
 have qK:([.agg<|Dh to op nn la aE n2 lb bd el]:List AV).all AV.hi=true:=by rw[List.all_cons,hH];rfl
 exact afI (a:=a) (n:=n) (c:=c) (u:=bW b) (fs:=fs) (A1:=A1) (m1:=n1) (c1:=c1) (u1:=bW b1) (bq:=bq) (A2:=A2) (m2:=m2) (c2:=c2) (u2:=bW b2) (bj:=bj) (N:=nm<|cI la) (L:=la.length) (N2:=nm<|cI lb) (L2:=lb.length) (to:=to) (op:=op) (nn:=nn) (aE:=aE) (n2:=n2) (bd:=bd) (el:=el) (z:=(dD a<|.mk op nn la)) (wi:=0) (t:=0) (ol:=[]) (fb:=[]) (fa:=0) (ft:=0) (fo:=false) (ub:=.tuple []) (y0:=0) (y1:=0) (y2:=0) (y3:=0) (y4:=0) (y5:=0) (y6:=0) (y7:=0) mc h1 m0.mV m0.pR m0.len zC aD cF lJ.len lJ.aK.bZ hz
  gq
  gq
  gq
  gq
  gq
  gq
  gq
  gq
  gq
  gq
  gq
  gq
  (Bx mc)
theorem j5o{n:Nat}{op:Int}(mc:Mt LM B)(m0:dc a n c fs b)(h1:1<=n)(h6:n<=6)(b6:b.length<=6)(hs:mJ fs n<|some<|St.mk 5 to (.mk op nn la) (.mk aE n2 lb) bd el)(kl:nS a (iD fs n) b (some<|St.mk 5 to (.mk op nn la) (.mk aE n2 lb) bd el)=(1,0,0))(aD:0<=(av (fs.take n)<|((0+n:Nat):Int) - 1).ah/\(av (fs.take n)<|((0+n:Nat):Int) - 1).ah<=1000000)(cF:0<=a.steps/\a.steps<=1000000000000)(mp:dc {a with steps:=a.steps+1} (0+n) (0+n) (gM fs n) b)(m1:dc A1 n1 c1 bq b1)(iM:kY (dD a<|.mk op nn la)<=0)(pP:dH eJ (da {a with steps:=a.steps+1} (0+n) (0+n) (gM fs n) b) []=some (.tuple [],(da A1 n1 c1 bq b1))):au pg B 271 (gV 270 3 pg (az Tryz.f41) (.int .i64 0)<|da A1 n1 c1 bq b1) (sF 41 Tryz.f41 [(.ptr<|some (270,0))])<|y8 a n c fs b:=by
 have hN:=wO m0 hs;have hK:=yY m0 h6 b6 hs;rw[kl] at hK;have hv:=s8 mp<|.mk op nn la;have hA:=qf<|.mk op nn la;have eS:aM (St.mk 5 to (.mk op nn la) (.mk aE n2 lb) bd el)=(Dh to op nn la aE n2 lb bd el):=by rw[wz,aB,aB];rfl
 have hH:=xm<|St.mk 5 to (.mk op nn la) (.mk aE n2 lb) bd el;unfold qu at hN;simp only[eS] at hN hH;simp only[aB] at hv hA;have hB:(AV.tuple [.agg<|Dh to op nn la aE n2 lb bd el,.bool true]:AV).hi=true:=by show([_,AV.bool true].all AV.kr)=true;rw[List.all_cons,show(AV.agg _).kr=true from hH];rfl
 have qK:([.agg<|Dh to op nn la aE n2 lb bd el]:List AV).all AV.hi=true:=by rw[List.all_cons,hH];rfl
 exact afJ (a:=a) (n:=n) (c:=c) (u:=bW b) (fs:=fs) (A1:=A1) (m1:=n1) (c1:=c1) (u1:=bW b1) (bq:=bq) (A2:=A1) (m2:=n1) (c2:=c1) (u2:=bW b1) (bj:=bq) (N:=nm<|cI la) (L:=la.length) (N2:=nm<|cI lb) (L2:=lb.length) (to:=to) (op:=op) (nn:=nn) (aE:=aE) (n2:=n2) (bd:=bd) (el:=el) (z:=(dD a<|.mk op nn la)) (wi:=0) (t:=0) (ol:=[]) (fb:=[]) (fa:=0) (ft:=0) (fo:=false) (ub:=.tuple []) (y0:=0) (y1:=0) (y2:=0) (y3:=0) (y4:=0) (y5:=0) (y6:=0) (y7:=0) mc h1 m0.mV m0.pR m0.len zC aD cF m1.len m1.aK.bZ iM
  yh
  yh
  yh
  yh
  yh
  yh
  yh
  yh
  yh
  (Bx mc)
noncomputable abbrev Ot(to op nn:Int)(la:List Ex)(aE n2:Int)(lb:List Ex)(bd el:List St):List AV:=[.int .u8 7,.int .i64 to,.int .u8 op,.int .i64 nn,.U (nm<|cI la) 0 la.length,.int .u8 aE,.int .i64 n2,.U (nm<|cI lb) 0 lb.length,.U (nm (bd.map aM).flatten) 0 bd.length,.U (nm (el.map aM).flatten) 0 el.length]
theorem j7{n:Nat}{op:Int}(mc:Mt LM B)(m0:dc a n c fs b)(h1:1<=n)(h6:n<=6)(b6:b.length<=6)(hs:mJ fs n<|some<|St.mk 7 to (.mk op nn la) (.mk aE n2 lb) bd el)(kl:nS a (iD fs n) b (some<|St.mk 7 to (.mk op nn la) (.mk aE n2 lb) bd el)=(1,0,0))(aD:0<=(av (fs.take n)<|((0+n:Nat):Int) - 1).ah/\(av (fs.take n)<|((0+n:Nat):Int) - 1).ah<=1000000)(cF:0<=a.steps/\a.steps<=1000000000000)(mp:dc {a with steps:=a.steps+1} (0+n) (0+n) (gM fs n) b)(m1:dc A1 n1 c1 bq b1)(lJ:dc A2 m2 c2 bj b2)(mE:dc {a with steps:=a.steps+1} (0+n+1) (0+n+1) (qg (gM fs n) (0+n) ⟨bd,0,0,true,a.l,some el⟩)<|b++[[]])(hE:dH eJ (da {a with steps:=a.steps+1} (0+n+1) (0+n+1) (qg (gM fs n) (0+n) ⟨bd,0,0,true,a.l,some el⟩)<|b++[[]]) []=some (.tuple [],(da A1 n1 c1 bq b1)))(pP:dH eJ (da A1 n1 c1 bq b1) []=some (.tuple [],(da A2 m2 c2 bj b2)))(X3:b.length<7):au pg B 271 (gV 270 3 pg (az Tryz.f41) (.int .i64 0)<|da A2 m2 c2 bj b2) (sF 41 Tryz.f41 [(.ptr<|some (270,0))])<|y8 a n c fs b:=by
 have hN:=wO m0 hs;have hK:=yY m0 h6 b6 hs;rw[kl] at hK;have hv:=s8 mp<|.mk op nn la;have hA:=qf<|.mk op nn la;have eS:aM (St.mk 7 to (.mk op nn la) (.mk aE n2 lb) bd el)=(Ot to op nn la aE n2 lb bd el):=by rw[wz,aB,aB];rfl
 have hH:=xm<|St.mk 7 to (.mk op nn la) (.mk aE n2 lb) bd el;unfold qu at hN;simp only[eS] at hN hH;simp only[aB] at hv hA;have hB:(AV.tuple [.agg<|Ot to op nn la aE n2 lb bd el,.bool true]:AV).hi=true:=by show([_,AV.bool true].all AV.kr)=true;rw[List.all_cons,show(AV.agg _).kr=true from hH];rfl
 have qK:([.agg<|Ot to op nn la aE n2 lb bd el]:List AV).all AV.hi=true:=by rw[List.all_cons,hH];rfl
 have hD:fj (dX bW Jn) (bW b) []=some ((.int .i64 0:AV),bW<|b++[[]]):=by
  unfold fj;rw[AN wB];show(match ([]:List AV).all AV.hi with
   |true=>((if List.length b<7 then some ((AV.int .i64 0:AV),b++[[]]) else none).map (fun p:AV×bz=>((p.1,bW p.2):AV×AV))).bind fun p:AV×AV=>match p.1.hi with
    |true=>some p
    |false=>none
   |false=>none)=_
  rw[if_pos X3];rfl
 exact ahr (a:=a) (n:=n) (c:=c) (u:=bW b) (fs:=fs) (A1:=A1) (m1:=n1) (c1:=c1) (u1:=bW b1) (bq:=bq) (A2:=A2) (m2:=m2) (c2:=c2) (u2:=bW b2) (bj:=bj) (N:=nm<|cI la) (L:=la.length) (N2:=nm<|cI lb) (L2:=lb.length) (to:=to) (op:=op) (nn:=nn) (aE:=aE) (n2:=n2) (bd:=bd) (el:=el) (z:=(dD a<|.mk op nn la)) (wi:=0) (t:=0) (ol:=[]) (fb:=[]) (fa:=0) (ft:=0) (fo:=false) (ub:=bW<|b++[[]]) (y0:=0) (y1:=0) (y2:=0) (y3:=0) (y4:=0) (y5:=0) (y6:=0) (y7:=0) mc h1 m0.mV m0.pR m0.len zC aD cF lJ.len lJ.aK.bZ
  vW
  vW
  vW
  vW
  vW
  vW
  vW
  vW
  vW
  vW
  (Bx mc)
noncomputable abbrev Ou(to op nn:Int)(la:List Ex)(aE n2:Int)(lb:List Ex)(bd el:List St):List AV:=[.int .u8 6,.int .i64 to,.int .u8 op,.int .i64 nn,.U (nm<|cI la) 0 la.length,.int .u8 aE,.int .i64 n2,.U (nm<|cI lb) 0 lb.length,.U (nm (bd.map aM).flatten) 0 bd.length,.U (nm (el.map aM).flatten) 0 el.length]
theorem j6{n:Nat}{op y0 y1 y2 y3 y4 y5 y6 y7 fa ft:Int}{ol fb:List St}{fo:Bool}(mc:Mt LM B)(m0:dc a n c fs b)(h1:1<=n)(h6:n<=6)(b6:b.length<=6)(hs:mJ fs n<|some<|St.mk 6 to (.mk op nn la) (.mk aE n2 lb) bd el)(kl:nS a (iD fs n) b (some<|St.mk 6 to (.mk op nn la) (.mk aE n2 lb) bd el)=(1,0,0))(aD:0<=(av (fs.take n)<|((0+n:Nat):Int) - 1).ah/\(av (fs.take n)<|((0+n:Nat):Int) - 1).ah<=1000000)(cF:0<=a.steps/\a.steps<=1000000000000)(mp:dc {a with steps:=a.steps+1} (0+n) (0+n) (gM fs n) b)(m1:dc A1 n1 c1 bq b1)(lJ:dc A2 m2 c2 bj b2)(mE:dc {a with steps:=a.steps+1,x0:=y0,x1:=y1,x2:=y2,x3:=y3,x4:=y4,x5:=y5,x6:=y6,x7:=y7} (wi.toNat+1) (wi.toNat+1) (qg (gM fs n) wi.toNat ⟨ol,0,0,false,Z8,none⟩) b.dropLast)(hE:dH eJ (da {a with steps:=a.steps+1,x0:=y0,x1:=y1,x2:=y2,x3:=y3,x4:=y4,x5:=y5,x6:=y6,x7:=y7} (wi.toNat+1) (wi.toNat+1) (qg (gM fs n) wi.toNat ⟨ol,0,0,false,Z8,none⟩) b.dropLast) []=some (.tuple [],(da A1 n1 c1 bq b1)))(pP:dH eJ (da A1 n1 c1 bq b1) []=some (.tuple [],(da A2 m2 c2 bj b2)))(hwi:iD (gM fs n) (0+n)=wi)(hz:1<=wi/\wi<(n:Int))(bM:(gM fs n)[wi.toNat]? =some (⟨fb,fa,ft,fo,[y0,y1,y2,y3,y4,y5,y6,y7],some ol⟩:Fr))(ya:2<=b.length):au pg B 271 (gV 270 3 pg (az Tryz.f41) (.int .i64 0)<|da A2 m2 c2 bj b2) (sF 41 Tryz.f41 [(.ptr<|some (270,0))])<|y8 a n c fs b:=by
 have hN:=wO m0 hs;have hK:=yY m0 h6 b6 hs;rw[kl] at hK;have hv:=s8 mp<|.mk op nn la;have hA:=qf<|.mk op nn la;have eS:aM (St.mk 6 to (.mk op nn la) (.mk aE n2 lb) bd el)=(Ou to op nn la aE n2 lb bd el):=by rw[wz,aB,aB];rfl
 have hH:=xm<|St.mk 6 to (.mk op nn la) (.mk aE n2 lb) bd el;unfold qu at hN;simp only[eS] at hN hH;simp only[aB] at hv hA;have hB:(AV.tuple [.agg<|Ou to op nn la aE n2 lb bd el,.bool true]:AV).hi=true:=by show([_,AV.bool true].all AV.kr)=true;rw[List.all_cons,show(AV.agg _).kr=true from hH];rfl
 have qK:([.agg<|Ou to op nn la aE n2 lb bd el]:List AV).all AV.hi=true:=by rw[List.all_cons,hH];rfl
 have hW:=SW mp ab;rw[hwi] at hW;have hD:fj (dX bW Jo) (bW b) []=some ((.int .i64 0:AV),bW b.dropLast):=by
  unfold fj;rw[AN wB];show(match ([]:List AV).all AV.hi with
   |true=>((if 2<=List.length b/\List.length b<=6 then some ((AV.int .i64 0:AV),b.dropLast) else none).map (fun p:AV×bz=>((p.1,bW p.2):AV×AV))).bind fun p:AV×AV=>match p.1.hi with
    |true=>some p
    |false=>none
   |false=>none)=_
  rw[if_pos ⟨ya,b6⟩];rfl
 exact ahs (a:=a) (n:=n) (c:=c) (u:=bW b) (fs:=fs) (A1:=A1) (m1:=n1) (c1:=c1) (u1:=bW b1) (bq:=bq) (A2:=A2) (m2:=m2) (c2:=c2) (u2:=bW b2) (bj:=bj) (N:=nm<|cI la) (L:=la.length) (N2:=nm<|cI lb) (L2:=lb.length) (to:=to) (op:=op) (nn:=nn) (aE:=aE) (n2:=n2) (bd:=bd) (el:=el) (z:=(dD a<|.mk op nn la)) (wi:=wi) (t:=0) (ol:=ol) (fb:=fb) (fa:=fa) (ft:=ft) (fo:=fo) (ub:=bW b.dropLast) (y0:=y0) (y1:=y1) (y2:=y2) (y3:=y3) (y4:=y4) (y5:=y5) (y6:=y6) (y7:=y7) mc h1 m0.mV m0.pR m0.len zC aD cF lJ.len lJ.aK.bZ hz
  qL
  qL
  qL
  qL
  qL
  qL
  qL
  qL
  qL
  qL
  qL
  qL
  qL
  (Bx mc)
noncomputable abbrev Ov(to op nn:Int)(la:List Ex)(aE n2:Int)(lb:List Ex)(bd el:List St):List AV:=[.int .u8 2,.int .i64 to,.int .u8 op,.int .i64 nn,.U (nm<|cI la) 0 la.length,.int .u8 aE,.int .i64 n2,.U (nm<|cI lb) 0 lb.length,.U (nm (bd.map aM).flatten) 0 bd.length,.U (nm (el.map aM).flatten) 0 el.length]
theorem jA{n:Nat}{op xx:Int}(mc:Mt LM B)(m0:dc a n c fs b)(h1:1<=n)(h6:n<=6)(b6:b.length<=6)(hs:mJ fs n<|some<|St.mk 2 to (.mk op nn la) (.mk aE n2 lb) bd el)(kl:nS a (iD fs n) b (some<|St.mk 2 to (.mk op nn la) (.mk aE n2 lb) bd el)=(2,wi,0))(aD:0<=(av (fs.take n)<|((0+n:Nat):Int) - 1).ah/\(av (fs.take n)<|((0+n:Nat):Int) - 1).ah<=1000000)(cF:0<=a.steps/\a.steps<=1000000000000)(mp:dc {a with steps:=a.steps+1} (0+n) (0+n) (gM fs n) b)(m1:dc A1 n1 c1 bq b1)(h0:0<=to)(h8:to<8)(mx:dc (MN.hZ {a with steps:=a.steps+1} to xx) (0+n) (0+n) (gM fs n) b)(pP:dH eJ (da (MN.hZ {a with steps:=a.steps+1} to xx) (0+n) (0+n) (gM fs n) b) []=some (.tuple [],(da A1 n1 c1 bq b1))):au pg B 271 (gV 270 3 pg (az Tryz.f48) (.int .i64 0)<|da A1 n1 c1 bq b1) (sF 48 Tryz.f48 [(.ptr<|some (270,0)),(i6 xx)])<|y8 a n c fs b:=by
 have hN:=wO m0 hs;have hK:=yY m0 h6 b6 hs;rw[kl] at hK;have hv:=s8 mp<|.mk op nn la;have hA:=qf<|.mk op nn la;have eS:aM (St.mk 2 to (.mk op nn la) (.mk aE n2 lb) bd el)=(Ov to op nn la aE n2 lb bd el):=by rw[wz,aB,aB];rfl
 have hH:=xm<|St.mk 2 to (.mk op nn la) (.mk aE n2 lb) bd el;unfold qu at hN;simp only[eS] at hN hH;simp only[aB] at hv hA;have hB:(AV.tuple [.agg<|Ov to op nn la aE n2 lb bd el,.bool true]:AV).hi=true:=by show([_,AV.bool true].all AV.kr)=true;rw[List.all_cons,show(AV.agg _).kr=true from hH];rfl
 have qK:([.agg<|Ov to op nn la aE n2 lb bd el]:List AV).all AV.hi=true:=by rw[List.all_cons,hH];rfl
 have hx:= @Ol {a with steps:=a.steps+1} (0+n) (0+n) (gM fs n) b to xx h0 h8;unfold gP.vw at hx;rw[←hx] at pP;have Xt:=mx.bA;rw[←hx] at Xt;exact aht (a:=a) (n:=n) (c:=c) (u:=bW b) (fs:=fs) (A1:=A1) (m1:=n1) (c1:=c1) (u1:=bW b1) (bq:=bq) (A2:=A1) (m2:=n1) (c2:=c1) (u2:=bW b1) (bj:=bq) (N:=nm<|cI la) (L:=la.length) (N2:=nm<|cI lb) (L2:=lb.length) (to:=to) (op:=op) (nn:=nn) (aE:=aE) (n2:=n2) (bd:=bd) (el:=el) (z:=(dD a<|.mk op nn la)) (wi:=wi) (t:=0) (ol:=[]) (fb:=[]) (fa:=0) (ft:=0) (fo:=false) (ub:=.tuple []) (y0:=0) (y1:=0) (y2:=0) (y3:=0) (y4:=0) (y5:=0) (y6:=0) (y7:=0) (xx:=xx) mc h1 m0.mV m0.pR m0.len zC aD cF m1.len m1.aK.bZ h0 h8
  Cc
  Cc
  Cc
  Cc
  Cc
  Cc
  Cc
  (ahq mc)
end
end pC
end
section
open Go Go.Rn Go.RowKit Go.Proofs
namespace pE
open cq gw eH gU eX cz dj cO cT fm eR fM fO fU gh fV gi gO gP gZ hU iH iX jI jJ fx gY lD lU kF my lV pC
variable {fs aZ st:List Fr} {b b':bz} {A:MN} {s:AS} {rs:List ResultVar} {k:Nat} {P:Program} {B:aJ}
theorem PI{n m:Nat}{Q Q':Tr AV->List Nat->Option Code->AS->Prop}{fr:AF}(hm:m<=n)(h:∀t d j s,Q t d j s->Q' t d j s)(H:au P B n Q fr s):au P B m Q' fr s:=by intro ρ w b a cs q1 q2 q3;obtain⟨aT,j,s1,σ,a',w',e1,e2,e3,e4⟩:=H ρ w b a cs q1 q2 q3;exact⟨aT,j,s1,σ,a',w',h _ _ _ _ e1,by omega,fun k hk ht=>e3 k ab ht,e4⟩
theorem WV{R R':AV->AS->Prop}(h:∀y s,R y s->R' y s):∀t d j s,Rn.Fin P rs R t d j s->Rn.Fin P rs R' t d j s:=by intro t d j s q;obtain⟨v,s2,a,b⟩:=q;exact⟨v,s2,a,h _ _ b⟩
noncomputable def mn(a:dO):MN:=⟨a.vars,nm (a.aK.map zh).flatten,0,a.aK.length,a.aK,a.l.getD 0 0,a.l.getD 1 0,a.l.getD 2 0,a.l.getD 3 0,a.l.getD 4 0,a.l.getD 5 0,a.l.getD 6 0,a.l.getD 7 0,a.steps⟩
theorem WW{a:dO}(h:a.l.length=8):(mn a).l=a.l:=(Jq a.l h).symm
theorem mr{a:dO}(h:a.l.length=8)(e:Ex):dD (mn a) e=dv a e:=by unfold dD dv;rw[WW h];rfl
theorem TK(a:dO)(bH:List Fr)(c:Nat):dC 270 3 (da (mn a) a.fs.length c (a.fs++bH) a.b)=kz a bH c:=rfl
structure Good (a:dO):Prop where
 ok:Bb a
 n9:ij a.fs
 gy:a.fs.length<=6
 b6:a.b.length<=6
 steps:0<=a.steps/\a.steps<=1000000000000
 ah:∀f∈a.fs,0<=f.ah/\f.ah<=1000000
theorem ij.app{l m:List Fr}(h:ij l)(k:ij m):ij<|l++m:=fun f hf=>by
 rcases List.mem_append.1 hf with q|q
 ·exact h f q
 ·exact k f q
theorem ij.take{l:List Fr}(h:ij l)(n:Nat):ij<|l.take n:=fun f hf=>h f<|List.mem_of_mem_take hf
section
variable {a:dO} {bH:List Fr} {c:Nat} {f:Fr} {r:List Fr} {m:Nat}
theorem Good.ep(h:Good a)(hj:ny a bH c):dc (mn a) a.fs.length c (a.fs++bH) a.b:=⟨eC.aX KV a.aK,h.ok.2.1,ij.app h.n9 hj.2.2,by rw[List.length_append];omega,hj.1,hj.2.1,h.ok.2.2.2.2⟩
theorem HD:∀{k n:Nat} {fs:List Fr} {b:bz} {n':Nat} {cZ:List Fr} {b':bz},om k n fs b=some (n',cZ,b')->n<=fs.length->ij fs->fe b->ij cZ/\fe b'
 |0,_,_,_,_,_,_,h,_,_,_=>by cases h
 |k+1,n,fs,b,n',cZ,b',h,hn,hf,hb=>by
  unfold om at h;by_cases n0:n=0
  ·rw[if_pos n0] at h;injection h with h;injection h with e1 h;injection h with e2 e3
   subst e2;subst e3;exact⟨hf,hb⟩
  ·rw[if_neg n0] at h;simp only at h;have aD:=hf.at<|(n:Int) - 1;have hk:=hf.kept (z:=(n:Int) - 1) ab ab;by_cases c1:(av fs<|(n:Int) - 1).ah<(((av fs<|(n:Int) - 1).block.length:Nat):Int)
   ·rw[if_pos c1] at h;injection h with h;injection h with e1 h;injection h with e2 e3
    subst e2;subst e3;exact⟨hf,hb⟩
   ·rw[if_neg c1] at h;by_cases c2:0<(av fs<|(n:Int) - 1).turns
    ·rw[if_pos c2] at h;have hs:ij<|fs.set ((n:Int) - 1).toNat {av fs ((n:Int) - 1) with ah:=0,turns:=(av fs<|(n:Int) - 1).turns - 1}:=hf.set ⟨⟨by show 0<=_ - 1;omega,by show _ - 1<=1000000;omega⟩,hk⟩;by_cases c3:0<(((av fs<|(n:Int) - 1).block.length:Nat):Int)
     ·rw[if_pos c3] at h;injection h with h;injection h with e1 h;injection h with e2 e3
      subst e2;subst e3;exact⟨hs,hb⟩
     ·rw[if_neg c3] at h;exact HD h (by rw[List.length_set];exact hn) hs hb
    ·rw[if_neg c2] at h;by_cases c4:(av fs<|(n:Int) - 1).ch=true
     ·rw[if_pos c4] at h;by_cases c5:2<=b.length
      ·rw[if_pos c5] at h;exact HD h ab hf<|Ih hb c5
      ·rw[if_neg c5] at h;cases h
     ·rw[if_neg c4] at h;exact HD h ab hf hb
structure jV (A:MN) (n c:Nat) (fs:List Fr) (b:bz) (aZ:List Fr) (b':bz) (n':Nat) (cZ:List Fr):Prop where
 ep:dc A n' c cZ b'
 run:dH eJ (da A n c fs b) []=some (.tuple [],da A n' c cZ b')
 eq:(cZ.take n').reverse=aZ
 len:cZ.length=fs.length
 le:n'<=n
theorem qZ{n c:Nat}(m:dc A n c fs b)(e:(fs.take n).reverse=st)(h:jP k st b=some (aZ,b')):∃n' cZ,jV A n c fs b aZ b' n' cZ:=by
 obtain⟨n',cZ,a1,a2,a3,a4⟩:=HR k n fs b st aZ b' h m.mV e;obtain⟨q1,q2⟩:=HD a1 m.mV m.n9 m.buf;have fu:n'<=cZ.length:=by rw[a3];have:=m.mV;omega
 exact⟨n',cZ,⟨m.aK,q2,q1,fu,by have:=m.pR;omega,by rw[a3];exact m.len,m.vars⟩,aa1 m a1,a4,a3,a2⟩
theorem jV.again{n c:Nat}{n':Nat}{cZ:List Fr}(h:jP k st b=some (aZ,b'))(d:jV A n c fs b aZ b' n' cZ):∃n2 bj,jV A n' c cZ b' aZ b' n2 bj:=qZ d.ep d.eq<|YN h
theorem s9{fr:AF}{n c:Nat}{y:AV}{a':dO}(hA:A=mn a')(hb:b=a'.b)(ok:Bb a')(m:dc A n c fs b)(e:(fs.take n).reverse=a'.fs.reverse)(H:au pg B 271 (gV 270 3 pg rs y<|da A n c fs b) fr s):au pg B 271 (iW XT pg rs 4 y<|bU a') fr s:=by
 subst hA;subst hb;have e:fs.take n=a'.fs:=List.reverse_inj.1 e;have hl:a'.fs.length=n:=by rw[←e,List.length_take];have:=m.mV;omega
 have e2:fs=a'.fs++fs.drop n:=by rw[←e,List.take_append_drop]
 refine PI (Nat.le_refl _) (WV fun y1 s' q=>⟨q.1,kz a' (fs.drop n) c,XT.BI a' ok _ c ⟨by rw[hl];exact m.pR,by rw[←e2];exact m.len,fun f hf=>m.n9 f<|List.mem_of_mem_drop hf⟩,?_⟩) H;have hx:=q.2;rw[←TK,hl, ←e2];exact hx
structure nF (a:dO) (bH:List Fr) (f:Fr) (r:List Fr) (m:Nat):Prop where
 n:a.fs.length=m+1
 get:(a.fs++bH)[m]? =some f
 rest:((a.fs++bH).take m).reverse=r
 all:((a.fs++bH).take<|m+1).reverse=f::r
 mem:f∈a.fs
theorem Ow(h:a.fs.reverse=f::r):∃m,nF a bH f r m:=by
 have e:(a.fs++bH).take a.fs.length=a.fs:=List.take_left;have e2:((a.fs++bH).take a.fs.length).reverse=f::r:=by rw[e];exact h
 obtain⟨m,h1,h2,h3,h4⟩:=Ng (by rw[List.length_append];omega) e2;refine⟨m,h1,h3,h4,by rw[←h1];exact e2,?_⟩;have:f∈a.fs.reverse:=by rw[h];exact List.mem_cons_self
 exact List.mem_reverse.1 this
theorem sI(t:nF a bH f r m)(h0:0<=f.ah){s:St}(hs:f.block[f.ah.toNat]? =some s):mJ (a.fs++bH) a.fs.length<|some s:=by
 have e:zH (a.fs++bH) a.fs.length=f:=by unfold zH;rw[t.n];exact TJ t.get
 exact .inr ⟨by rw[t.n];omega,by rw[e];exact h0,s,by rw[e];exact hs,rfl⟩
theorem IT(t:nF a bH f r m):av ((a.fs++bH).take a.fs.length) (((0+a.fs.length:Nat):Int) - 1)=f/\gM (a.fs++bH) a.fs.length=((a.fs++bH).take a.fs.length).set m {f with ah:=f.ah+1}:=by
 have e0:((((0+a.fs.length):Nat):Int) - 1)=(m:Int):=by rw[t.n];omega
 have hg:((a.fs++bH).take a.fs.length)[m]? =some f:=by rw[List.getElem?_take_of_lt qD];exact t.get
 have e:av ((a.fs++bH).take a.fs.length) (((0+a.fs.length:Nat):Int) - 1)=f:=by rw[e0];exact Nh hg
 refine⟨e,?_⟩;unfold gM;rw[e,e0];rfl
theorem sK(t:nF a bH f r m):(gM (a.fs++bH) a.fs.length).length=a.fs.length/\((gM (a.fs++bH) a.fs.length).take<|0+a.fs.length).reverse={f with ah:=f.ah+1}::r/\gM (a.fs++bH) a.fs.length=(gM (a.fs++bH) a.fs.length).take (0+a.fs.length):=by
 have e:(a.fs++bH).take a.fs.length=a.fs:=List.take_left;have el:(gM (a.fs++bH) a.fs.length).length=a.fs.length:=by rw[(IT t).2,e,List.length_set]
 refine⟨el,?_,by rw[List.take_of_length_le (by rw[el];omega)]⟩;rw[(IT t).2,e,Nat.zero_add,t.n,take_set _ qD];have:=t.rest;rw[List.take_append_of_le_length qD] at this;rw[this]
theorem Good.mp(h:Good a)(hj:ny a bH c)(t:nF a bH f r m):dc {mn a with steps:=a.steps+1} (0+a.fs.length) (0+a.fs.length) (gM (a.fs++bH) a.fs.length) a.b:=by obtain⟨p1,p2,p3⟩:=sK t;refine⟨(h.ep hj).aK,h.ok.2.1,?_,by rw[p1];omega,Nat.le_refl _,by rw[p1];have:=h.gy;omega,(h.ep hj).vars⟩;rw[(IT t).2];exact(ij.take (h.ep hj).n9 _).set<|h.n9 f t.mem
theorem Good.aD(h:Good a)(t:nF a bH f r m):0<=(av ((a.fs++bH).take a.fs.length)<|((0+a.fs.length:Nat):Int) - 1).ah/\(av ((a.fs++bH).take a.fs.length)<|((0+a.fs.length:Nat):Int) - 1).ah<=1000000:=by rw[(IT t).1];exact h.ah f t.mem
theorem td(h:Good a)(t:nF a bH f r m)(cF:a.fs.reverse=f::r)(s:St)(hs:f.block[f.ah.toNat]? =some s):nS (mn a) (iD (a.fs++bH) a.fs.length) a.b (some s)=fp a:=by
 obtain⟨kind,to,ea,eb,bd,el⟩:=s;have hw:=Ni a.fs.length (a.fs++bH) (f::r) (by rw[List.length_append];omega) (by rw[t.n];exact t.all);unfold fp;rw[EZ,cF];simp only[hs,mr h.ok.1];have ev:(mn a).vars=a.vars:=rfl;rw[ev];by_cases c8:kind=8
 ·rw[if_pos c8,if_pos c8]
 ·rw[if_neg c8,if_neg c8];cases hb:below (f::r) with
  |none=>
   have e:=hw.1 hb;rw[e];by_cases c6:kind=6
   ·rw[if_pos ⟨c6,by omega⟩,if_pos ⟨c6,rfl⟩]
   ·simp only[c6,false_and,if_false]
  |some p=>obtain⟨i,e,_⟩:=hw.2 p.1 p.2 hb;rw[e,if_neg (show ¬(kind=6/\(i:Int)<0) from fun q=>by have:=q.2;omega),if_neg (show ¬(kind=6/\some p=none) from fun q=>by cases q.2)]
end
end pE
end
section
open Go Go.Rn Go.RowKit Go.Proofs
namespace rL
open cq gw eH gU eX cz dj cO cT fm eR fM fO fU gh fV gi gO gP gZ hU iH iX jI jJ fx gY lD lU kF my lV pC pE
variable {b b':bz} {fs:List Fr} {s:Int} {A:MN}
theorem len8{l:List Int}(h:l.length=8):∃a b c d e f g i,l=[a,b,c,d,e,f,g,i]:=⟨_,_,_,_,_,_,_,_,Jq l h⟩
theorem NP{a:dO}(h:a.l.length=8){to z:Int}(h0:0<=to)(h8:to<8):MN.hZ {mn a with steps:=s} to z=mn ⟨a.vars,a.aK,a.l.set to.toNat z,b,fs,s⟩:=by obtain⟨vars,aK,l,b0,fs0,st⟩:=a;obtain⟨x0,x1,x2,x3,x4,x5,x6,x7,rfl⟩:=len8 h;rcases UJ h0 h8 with rfl|rfl|rfl|rfl|rfl|rfl|rfl|rfl<;>rfl
theorem Fj{A':MN}{n c k:Nat}{g:Fr}(m:dc A n c fs b)(hk:k<=fs.length)(hl:fs.length<=1000)(e1:A'.G=A.G/\A'.q=A.q/\A'.lg=A.lg/\A'.aK=A.aK/\A'.vars=A.vars)(hg:(0<=g.turns/\g.turns<=1000000)/\g.kept.length=8)(hb:fe b'):
 dc A' (k+1) (k+1) (qg fs k g) b'/\((qg fs k g).take<|k+1).reverse=g::(fs.take k).reverse:=by
 have hlen:(qg fs k g).length=k+1:=by rw[List.length_append,List.length_take];simp only[List.length_cons,List.length_nil];omega
 obtain⟨q1,q2,q3,q4,q5⟩:=e1;refine⟨⟨by rw[q1,q2,q3,q4];exact m.aK,hb,ij.app (ij.take m.n9 k) fun f hf=>?_,by rw[hlen];omega,Nat.le_refl _,by rw[hlen];omega,by rw[q5];exact m.vars⟩,?_⟩
 ·rw[List.mem_singleton] at hf;subst hf;exact hg
 ·rw[List.take_of_length_le (by rw[hlen];omega)];simp only[List.reverse_append,List.reverse_cons,List.reverse_nil,List.nil_append,List.cons_append]
structure uF (a:dO) (f:Fr) (r:List Fr) (kind to:Int):Prop where
 ah:0<=f.ah
 to:kind=1\/kind=2->0<=to/\to<8
 ahu:kind=6->∀g r',below (f::r)=some (g,r')->r'≠[]/\2<=a.b.length
theorem uG{a a':dO}{st:List Fr}(h:fin a st b=some a'):∃aZ b',jP 1000 st b=some (aZ,b')/\a'={a with fs:=aZ.reverse,b:=b'}:=by
 unfold fin at h;split at h
 ·rename_i p e;injection h with h;exact⟨p.1,p.2,e,h.symm⟩
 ·cases h
theorem uH{a:dO}(h:Bb a){l:List Int}{aZ:List Fr}{n c n':Nat}{cZ:List Fr}(d:jV A n c fs b aZ b' n' cZ)(hl:l.length=8)(hn:n<=1000):Bb ⟨a.vars,a.aK,l,b',aZ.reverse,s⟩:=by refine⟨hl,d.ep.buf,?_,h.2.2.2.1,h.2.2.2.2⟩;show aZ.reverse.length<=1000;rw[←d.eq,List.reverse_reverse,List.length_take];have:=d.le;omega
theorem SX{f f1:Fr}{r:List Fr}(ho:f1.ch=f.ch):below (f1::r)=if f.ch=true then some (f1,r) else below r:=by show(if f1.ch=true then some (f1,r) else below r)=_;rw[ho]
theorem Nj(z:Int):kY z<=8:=by
 unfold kY dY;split<;>rename_i q
 ·omega
 ·have:=of_decide_eq_false q;omega
noncomputable abbrev LS:bY:=[PH,mm,iG,jG,lf,mf,yL,PF,O1,Oh,Od,Oe]
section
variable {B:aJ} {a a':dO} {bH:List Fr} {c m:Nat} {f:Fr} {r:List Fr} {kind to:Int} {ea eb:Ex} {bd el:List St}
theorem ad1(mc:Mt LS B)(h:Good a)(hj:ny a bH c)(t:nF a bH f r m)(cF:a.fs.reverse=f::r)(hs:f.block[f.ah.toNat]? =some (.mk 1 to ea eb bd el))(hd:uF a f r 1 to)(hk:fp a=(1,0,0))(hf:fin {a with l:=a.l.set to.toNat<|dv a ea,steps:=a.steps+1} ({f with ah:=f.ah+1}::r) a.b=some a'):
 au pg B 271 (iW XT pg (az Tryz.f41) 4 (.int .i64 0)<|bU a') (sF 41 Tryz.f41 [.ptr<|some (270,0)]) (aq (ar++bu (kz a bH c)) 273):=by
 obtain⟨aZ,b',e1,rfl⟩:=uG hf;have h0:=(hd.to<|.inl rfl);have mp:=h.mp hj t;obtain⟨p1,p2,p3⟩:=sK t;obtain⟨op,nn,la⟩:=ea;obtain⟨aE,n2,lb⟩:=eb;obtain⟨n',cZ,d⟩:=qZ (mp.hZ (i:=to) (z:=dv a<|.mk op nn la)) p2 e1;have ev:dD {mn a with steps:=a.steps+1} (.mk op nn la)=dv a (.mk op nn la):=mr h.ok.1 _;have hX:=afF mp (kind:=1) (ea:=.mk op nn la) (eb:=.mk aE n2 lb) (bd:=bd) (el:=el) h0.1 h0.2;rw[ev] at hX;have key:=j1 (.inl ⟨rfl,rfl,rfl⟩) mc (h.ep hj) qD h.gy h.b6 (sI t hd.ah hs) ((td h t cF _ hs).trans hk) (h.aD t) h.steps mp mp.hZ d.ep hX d.run;exact s9 (a':=⟨a.vars,a.aK,a.l.set to.toNat<|dv a<|.mk op nn la,b',aZ.reverse,a.steps+1⟩) (NP h.ok.1 h0.1 h0.2) rfl (uH h.ok d (by rw[List.length_set];exact h.ok.1) (by have:=h.gy;omega)) d.ep Gq key
theorem ad2(mc:Mt LS B)(h:Good a)(hj:ny a bH c)(t:nF a bH f r m)(cF:a.fs.reverse=f::r)(hs:f.block[f.ah.toNat]? =some (.mk 2 to ea eb bd el))(hd:uF a f r 2 to)(hk:fp a=(1,0,0))(hf:fin {a with l:=a.l.set to.toNat (kG a.b<|iI (dv a ea) a.vars).1,steps:=a.steps+1} ({f with ah:=f.ah+1}::r) a.b=some a'):
 au pg B 271 (iW XT pg (az Tryz.f41) 4 (.int .i64 0)<|bU a') (sF 41 Tryz.f41 [.ptr<|some (270,0)]) (aq (ar++bu (kz a bH c)) 273):=by
 obtain⟨aZ,b',e1,rfl⟩:=uG hf;have mp:=h.mp hj t;obtain⟨p1,p2,p3⟩:=sK t;have n6:=h.gy;obtain⟨op,nn,la⟩:=ea;obtain⟨aE,n2,lb⟩:=eb;have ev:dD {mn a with steps:=a.steps+1} (.mk op nn la)=dv a (.mk op nn la):=mr h.ok.1 _;have uu:dD (mn a) (.mk op nn la)=dv a (.mk op nn la):=mr h.ok.1 _;have h0:=(hd.to<|.inr rfl);obtain⟨n',cZ,d⟩:=qZ (mp.hZ (i:=to) (z:=(kG a.b<|iI (dv a<|.mk op nn la) a.vars).1)) p2 e1;have hX:=adZ mp h.b6 (kind:=2) (ea:=.mk op nn la) (eb:=.mk aE n2 lb) (bd:=bd) (el:=el) h0.1 h0.2;rw[ev] at hX;have key:=j1 (.inr<|.inl ⟨rfl,rfl,rfl⟩) mc (h.ep hj) qD h.gy h.b6 (sI t hd.ah hs) ((td h t cF _ hs).trans hk) (h.aD t) h.steps mp mp.hZ d.ep hX d.run;exact s9 (a':=⟨a.vars,a.aK,a.l.set to.toNat (kG a.b<|iI (dv a<|.mk op nn la) a.vars).1,b',aZ.reverse,a.steps+1⟩) (NP h.ok.1 h0.1 h0.2) rfl (uH h.ok d (by rw[List.length_set];exact h.ok.1) ab) d.ep Gq key
theorem ad3(mc:Mt LS B)(h:Good a)(hj:ny a bH c)(t:nF a bH f r m)(cF:a.fs.reverse=f::r)(hs:f.block[f.ah.toNat]? =some (.mk 3 to ea eb bd el))(hd:uF a f r 3 to)(hk:fp a=(1,0,0))(hf:fin {a with steps:=a.steps+1} ({f with ah:=f.ah+1}::r) (ml a.b (iI (dv a ea) a.vars)<|dv a eb)=some a'):
 au pg B 271 (iW XT pg (az Tryz.f41) 4 (.int .i64 0)<|bU a') (sF 41 Tryz.f41 [.ptr<|some (270,0)]) (aq (ar++bu (kz a bH c)) 273):=by
 obtain⟨aZ,b',e1,rfl⟩:=uG hf;have mp:=h.mp hj t;obtain⟨p1,p2,p3⟩:=sK t;have n6:=h.gy;obtain⟨op,nn,la⟩:=ea;obtain⟨aE,n2,lb⟩:=eb;have ev:dD {mn a with steps:=a.steps+1} (.mk op nn la)=dv a (.mk op nn la):=mr h.ok.1 _;have uu:dD (mn a) (.mk op nn la)=dv a (.mk op nn la):=mr h.ok.1 _;have ev2:dD {mn a with steps:=a.steps+1} (.mk aE n2 lb)=dv a (.mk aE n2 lb):=mr h.ok.1 _;have mb:dc {mn a with steps:=a.steps+1} (0+a.fs.length) (0+a.fs.length) (gM (a.fs++bH) a.fs.length)<|ml a.b (iI (dv a<|.mk op nn la) a.vars)<|dv a<|.mk aE n2 lb:=⟨mp.aK,MB mp.buf _ _,mp.n9,mp.mV,mp.pR,mp.len,mp.vars⟩;obtain⟨n',cZ,d⟩:=qZ mb p2 e1;have hX:=aci mp h.b6 (kind:=3) (to:=to) (ea:=.mk op nn la) (eb:=.mk aE n2 lb) (bd:=bd) (el:=el);rw[ev,ev2] at hX;have key:=j1 (.inr<|.inr ⟨rfl,rfl,rfl⟩) mc (h.ep hj) qD h.gy h.b6 (sI t hd.ah hs) ((td h t cF _ hs).trans hk) (h.aD t) h.steps mp mb d.ep hX d.run;exact s9 (a':=⟨a.vars,a.aK,a.l,b',aZ.reverse,a.steps+1⟩) rfl rfl (uH h.ok d h.ok.1 ab) d.ep Gq key
theorem ack(mc:Mt LS B)(h:Good a)(hj:ny a bH c)(t:nF a bH f r m)(cF:a.fs.reverse=f::r)(hs:f.block[f.ah.toNat]? =some (.mk 4 to ea eb bd el))(hd:uF a f r 4 to)(hk:fp a=(1,0,0))(hz:dv a ea≠0)(hf:fin {a with steps:=a.steps+1} (⟨bd,0,0,false,Z8,none⟩::{f with ah:=f.ah+1}::r) a.b=some a'):
 au pg B 271 (iW XT pg (az Tryz.f41) 4 (.int .i64 0)<|bU a') (sF 41 Tryz.f41 [.ptr<|some (270,0)]) (aq (ar++bu (kz a bH c)) 273):=by
 obtain⟨aZ,b',e1,rfl⟩:=uG hf;have mp:=h.mp hj t;obtain⟨p1,p2,p3⟩:=sK t;have n6:=h.gy;obtain⟨op,nn,la⟩:=ea;obtain⟨aE,n2,lb⟩:=eb;have ev:dD {mn a with steps:=a.steps+1} (.mk op nn la)=dv a (.mk op nn la):=mr h.ok.1 _;have uu:dD (mn a) (.mk op nn la)=dv a (.mk op nn la):=mr h.ok.1 _;obtain⟨mE,eE⟩:=Fj (A':={mn a with steps:=a.steps+1}) (k:=0+a.fs.length) (b':=a.b) (g:=⟨bd,0,0,false,Z8,none⟩) mp tL tL ⟨rfl,rfl,rfl,rfl,rfl⟩ ⟨⟨by show(0:Int)<=0;omega,by show(0:Int)<=1000000;omega⟩,rfl⟩ mp.buf;rw[p2] at eE;obtain⟨n1,bq,d⟩:=qZ mE eE e1;obtain⟨n',cZ,d2⟩:=d.again e1;have key:=j4y mc (h.ep hj) qD h.gy h.b6 (sI t hd.ah hs) ((td h t cF _ hs).trans hk) (h.aD t) h.steps mp d.ep d2.ep mE d.run d2.run (by rw[uu];exact hz);exact s9 (a':=⟨a.vars,a.aK,a.l,b',aZ.reverse,a.steps+1⟩) rfl rfl (uH h.ok d h.ok.1 ab) d2.ep Gp key
theorem acm(mc:Mt LS B)(h:Good a)(hj:ny a bH c)(t:nF a bH f r m)(cF:a.fs.reverse=f::r)(hs:f.block[f.ah.toNat]? =some (.mk 4 to ea eb bd el))(hd:uF a f r 4 to)(hk:fp a=(1,0,0))(hz:dv a ea=0)(hf:fin {a with steps:=a.steps+1} (⟨el,0,0,false,Z8,none⟩::{f with ah:=f.ah+1}::r) a.b=some a'):
 au pg B 271 (iW XT pg (az Tryz.f41) 4 (.int .i64 0)<|bU a') (sF 41 Tryz.f41 [.ptr<|some (270,0)]) (aq (ar++bu (kz a bH c)) 273):=by
 obtain⟨aZ,b',e1,rfl⟩:=uG hf;have mp:=h.mp hj t;obtain⟨p1,p2,p3⟩:=sK t;have n6:=h.gy;obtain⟨op,nn,la⟩:=ea;obtain⟨aE,n2,lb⟩:=eb;have ev:dD {mn a with steps:=a.steps+1} (.mk op nn la)=dv a (.mk op nn la):=mr h.ok.1 _;have uu:dD (mn a) (.mk op nn la)=dv a (.mk op nn la):=mr h.ok.1 _;obtain⟨mE,eE⟩:=Fj (A':={mn a with steps:=a.steps+1}) (k:=0+a.fs.length) (b':=a.b) (g:=⟨el,0,0,false,Z8,none⟩) mp tL tL ⟨rfl,rfl,rfl,rfl,rfl⟩ ⟨⟨by show(0:Int)<=0;omega,by show(0:Int)<=1000000;omega⟩,rfl⟩ mp.buf;rw[p2] at eE;obtain⟨n1,bq,d⟩:=qZ mE eE e1;obtain⟨n',cZ,d2⟩:=d.again e1;have key:=j4n mc (h.ep hj) qD h.gy h.b6 (sI t hd.ah hs) ((td h t cF _ hs).trans hk) (h.aD t) h.steps mp d.ep d2.ep mE d.run d2.run (by rw[uu];exact hz);exact s9 (a':=⟨a.vars,a.aK,a.l,b',aZ.reverse,a.steps+1⟩) rfl rfl (uH h.ok d h.ok.1 ab) d2.ep Gp key
theorem acn(mc:Mt LS B)(h:Good a)(hj:ny a bH c)(t:nF a bH f r m)(cF:a.fs.reverse=f::r)(hs:f.block[f.ah.toNat]? =some (.mk 5 to ea eb bd el))(hd:uF a f r 5 to)(hk:fp a=(1,0,0))(hz:0<kY (dv a ea))(hf:fin {a with steps:=a.steps+1} (⟨bd,0,kY (dv a ea) - 1,false,Z8,none⟩::{f with ah:=f.ah+1}::r) a.b=some a'):
 au pg B 271 (iW XT pg (az Tryz.f41) 4 (.int .i64 0)<|bU a') (sF 41 Tryz.f41 [.ptr<|some (270,0)]) (aq (ar++bu (kz a bH c)) 273):=by
 obtain⟨aZ,b',e1,rfl⟩:=uG hf;have mp:=h.mp hj t;obtain⟨p1,p2,p3⟩:=sK t;have n6:=h.gy;obtain⟨op,nn,la⟩:=ea;obtain⟨aE,n2,lb⟩:=eb;have ev:dD {mn a with steps:=a.steps+1} (.mk op nn la)=dv a (.mk op nn la):=mr h.ok.1 _;have uu:dD (mn a) (.mk op nn la)=dv a (.mk op nn la):=mr h.ok.1 _;have h8:=Nj<|dv a<|.mk op nn la;obtain⟨mE,eE⟩:=Fj (A':={mn a with steps:=a.steps+1}) (k:=0+a.fs.length) (b':=a.b) (g:=⟨bd,0,kY (dv a<|.mk op nn la) - 1,false,Z8,none⟩) mp tL tL ⟨rfl,rfl,rfl,rfl,rfl⟩ ⟨⟨by show 0<=kY _ - 1;omega,by show kY _ - 1<=1000000;omega⟩,rfl⟩ mp.buf;rw[p2] at eE;obtain⟨n1,bq,d⟩:=qZ mE eE e1;obtain⟨n',cZ,d2⟩:=d.again e1;rw[←uu] at mE d hz h8;have key:=j5t mc (h.ep hj) qD h.gy h.b6 (sI t hd.ah hs) ((td h t cF _ hs).trans hk) (h.aD t) h.steps mp d.ep d2.ep mE d.run d2.run ⟨hz,h8⟩;exact s9 (a':=⟨a.vars,a.aK,a.l,b',aZ.reverse,a.steps+1⟩) rfl rfl (uH h.ok d h.ok.1 ab) d2.ep Gp key
theorem aco(mc:Mt LS B)(h:Good a)(hj:ny a bH c)(t:nF a bH f r m)(cF:a.fs.reverse=f::r)(hs:f.block[f.ah.toNat]? =some (.mk 5 to ea eb bd el))(hd:uF a f r 5 to)(hk:fp a=(1,0,0))(hz:¬(0<kY (dv a ea)))(hf:fin {a with steps:=a.steps+1} ({f with ah:=f.ah+1}::r) a.b=some a'):
 au pg B 271 (iW XT pg (az Tryz.f41) 4 (.int .i64 0)<|bU a') (sF 41 Tryz.f41 [.ptr<|some (270,0)]) (aq (ar++bu (kz a bH c)) 273):=by
 obtain⟨aZ,b',e1,rfl⟩:=uG hf;have mp:=h.mp hj t;obtain⟨p1,p2,p3⟩:=sK t;have n6:=h.gy;obtain⟨op,nn,la⟩:=ea;obtain⟨aE,n2,lb⟩:=eb;have ev:dD {mn a with steps:=a.steps+1} (.mk op nn la)=dv a (.mk op nn la):=mr h.ok.1 _;have uu:dD (mn a) (.mk op nn la)=dv a (.mk op nn la):=mr h.ok.1 _;obtain⟨n',cZ,d⟩:=qZ mp p2 e1;have key:=j5o mc (h.ep hj) qD h.gy h.b6 (sI t hd.ah hs) ((td h t cF _ hs).trans hk) (h.aD t) h.steps mp d.ep (by rw[uu];omega) d.run;exact s9 (a':=⟨a.vars,a.aK,a.l,b',aZ.reverse,a.steps+1⟩) rfl rfl (uH h.ok d h.ok.1 ab) d.ep Gq key
theorem ad4(mc:Mt LS B)(h:Good a)(hj:ny a bH c)(t:nF a bH f r m)(cF:a.fs.reverse=f::r)(hs:f.block[f.ah.toNat]? =some (.mk 7 to ea eb bd el))(hd:uF a f r 7 to)(hk:fp a=(1,0,0))(hf:fin {a with steps:=a.steps+1} (⟨bd,0,0,true,a.l,some el⟩::{f with ah:=f.ah+1}::r) (a.b++[[]])=some a'):
 au pg B 271 (iW XT pg (az Tryz.f41) 4 (.int .i64 0)<|bU a') (sF 41 Tryz.f41 [.ptr<|some (270,0)]) (aq (ar++bu (kz a bH c)) 273):=by
 obtain⟨aZ,b',e1,rfl⟩:=uG hf;have mp:=h.mp hj t;obtain⟨p1,p2,p3⟩:=sK t;have n6:=h.gy;obtain⟨op,nn,la⟩:=ea;obtain⟨aE,n2,lb⟩:=eb;have ev:dD {mn a with steps:=a.steps+1} (.mk op nn la)=dv a (.mk op nn la):=mr h.ok.1 _;have uu:dD (mn a) (.mk op nn la)=dv a (.mk op nn la):=mr h.ok.1 _;have h6:a.b.length<7:=by have:=h.b6;omega
 obtain⟨mE,eE⟩:=Fj (A':={mn a with steps:=a.steps+1}) (k:=0+a.fs.length) (b':=a.b++[[]]) (g:=⟨bd,0,0,true,a.l,some el⟩) mp tL tL ⟨rfl,rfl,rfl,rfl,rfl⟩ ⟨⟨by show(0:Int)<=0;omega,by show(0:Int)<=1000000;omega⟩,h.ok.1⟩<|NJ mp.buf h6;rw[p2] at eE;obtain⟨n1,bq,d⟩:=qZ mE eE e1;obtain⟨n',cZ,d2⟩:=d.again e1;rw[←WW h.ok.1] at mE d;have key:=j7 mc (h.ep hj) qD h.gy h.b6 (sI t hd.ah hs) ((td h t cF _ hs).trans hk) (h.aD t) h.steps mp d.ep d2.ep mE d.run d2.run h6;exact s9 (a':=⟨a.vars,a.aK,a.l,b',aZ.reverse,a.steps+1⟩) rfl rfl (uH h.ok d h.ok.1 ab) d2.ep Gp key
theorem ad5(mc:Mt LS B)(h:Good a)(hj:ny a bH c)(t:nF a bH f r m)(cF:a.fs.reverse=f::r)(hs:f.block[f.ah.toNat]? =some (.mk 6 to ea eb bd el))(hd:uF a f r 6 to)(hk:fp a=(1,0,0)){fb ol:List St}{fa ft:Int}{fo:Bool}{kept:List Int}{r':List Fr}(Ag:below (f::r)=some (⟨fb,fa,ft,fo,kept,some ol⟩,r'))(hf:fin {a with l:=kept,steps:=a.steps+1} (⟨ol,0,0,false,Z8,none⟩::r') a.b.dropLast=some a'):
 au pg B 271 (iW XT pg (az Tryz.f41) 4 (.int .i64 0)<|bU a') (sF 41 Tryz.f41 [.ptr<|some (270,0)]) (aq (ar++bu (kz a bH c)) 273):=by
 obtain⟨aZ,b',e1,rfl⟩:=uG hf;have mp:=h.mp hj t;obtain⟨p1,p2,p3⟩:=sK t;have n6:=h.gy;obtain⟨op,nn,la⟩:=ea;obtain⟨aE,n2,lb⟩:=eb;have ev:dD {mn a with steps:=a.steps+1} (.mk op nn la)=dv a (.mk op nn la):=mr h.ok.1 _;have uu:dD (mn a) (.mk op nn la)=dv a (.mk op nn la):=mr h.ok.1 _;obtain⟨hr,ya⟩:=hd.ahu rfl _ _ Ag;have PJ:∃X4,below ({f with ah:=f.ah+1}::r)=some ((⟨fb,X4,ft,fo,kept,some ol⟩:Fr),r'):=by
  rw[SX (f1:={f with ah:=f.ah+1}) (f:=f) (r:=r) rfl];rw[SX (f1:=f) (f:=f) rfl] at Ag;by_cases c:f.ch=true
  ·rw[if_pos c] at Ag ⊢;injection Ag with Ag
   injection Ag with g1 g2
   subst g1;subst g2;exact⟨_,rfl⟩
  ·rw[if_neg c] at Ag ⊢;exact⟨_,Ag⟩
 obtain⟨X4,PJ⟩:=PJ;obtain⟨_,hw⟩:=Ni (0+a.fs.length) _ _ tL p2;obtain⟨i,w1,w2,w3,w4⟩:=hw _ _ PJ;have hi:1<=i:=by
  cases i with
  |zero=>exact absurd w4.symm (by rw[List.take_zero];exact hr)
  |succ i=>omega
 have QE:kept.length=8:=(mp.n9 _<|List.mem_of_getElem? w3).2;obtain⟨y0,y1,y2,y3,y4,y5,y6,y7,rfl⟩:=len8 QE;have iK:((i:Int)).toNat=i:=by omega
 obtain⟨mE,eE⟩:=Fj (A':={mn a with steps:=a.steps+1,x0:=y0,x1:=y1,x2:=y2,x3:=y3,x4:=y4,x5:=y5,x6:=y6,x7:=y7}) (k:=i) (b':=a.b.dropLast) (g:=⟨ol,0,0,false,Z8,none⟩) mp tL tL ⟨rfl,rfl,rfl,rfl,rfl⟩ ⟨⟨by show(0:Int)<=0;omega,by show(0:Int)<=1000000;omega⟩,rfl⟩<|NK mp.buf ya;rw[w4] at eE;obtain⟨n1,bq,d⟩:=qZ mE eE e1;obtain⟨n',cZ,d2⟩:=d.again e1;have hn:i+1<=1000:=by omega
 rw[←iK] at mE d w3;have key:=j6 (wi:=(i:Int)) mc (h.ep hj) qD h.gy h.b6 (sI t hd.ah hs) ((td h t cF _ hs).trans hk) (h.aD t) h.steps mp d.ep d2.ep mE d.run d2.run w1 ⟨by omega,by omega⟩ w3 ya;exact s9 (a':=⟨a.vars,a.aK,[y0,y1,y2,y3,y4,y5,y6,y7],b',aZ.reverse,a.steps+1⟩) rfl rfl (uH h.ok d2 rfl (by have:=d.le;omega)) d2.ep Gp key
end
end rL
end
section
open Go Go.Rn Go.RowKit Go.Proofs
namespace rM
open cq gw eH gU eX cz dj cO cT fm eR fM fO fU gh fV gi gO gP gZ hU iH iX jI jJ fx gY lD lU kF my lV pC pE rL
variable {L:bY}
noncomputable section
structure Ox (a:dO):Prop where
 pB:Good a
 top:a.fs=[]\/∃f r s,a.fs.reverse=f::r/\0<=f.ah/\f.block[f.ah.toNat]? =some s
structure Nk (a:dO):Prop where
 pB:Good a
 ask:fp a=(1,0,0)
 top:∃f r kind to ea eb bd el,a.fs.reverse=f::r/\f.block[f.ah.toNat]? =some (.mk kind to ea eb bd el)/\uF a f r kind to
structure Oy (a:dO):Prop where
 pB:Good a
 ask:∃v,fp a=(2,v,0)
 top:∃f r kind to ea eb bd el,a.fs.reverse=f::r/\0<=f.ah/\f.block[f.ah.toNat]? =some (.mk kind to ea eb bd el)/\0<=to/\to<8
section
variable {B:aJ} {a a':dO} {bH:List Fr} {c:Nat}
theorem acp(mc:Mt LS B)(h:Nk a)(hj:ny a bH c)(hs:zp a=some a'):
 au pg B 271 (iW XT pg (az Tryz.f41) 4 (.int .i64 0)<|bU a') (sF 41 Tryz.f41 [.ptr<|some (270,0)]) (aq (ar++bu (kz a bH c)) 273):=by
 obtain⟨hg,hk,f,r,kind,to,ea,eb,bd,el,cF,hb,hd⟩:=h;obtain⟨m,t⟩:=Ow (bH:=bH) cF;unfold zp at hs;rw[cF] at hs;simp only[hb] at hs;by_cases c1:kind=1
 ·subst c1;rw[if_pos rfl] at hs;exact ad1 mc hg hj t cF hb hd hk hs
 rw[if_neg c1] at hs;by_cases c2:kind=2
 ·subst c2;rw[if_pos rfl] at hs;exact ad2 mc hg hj t cF hb hd hk hs
 rw[if_neg c2] at hs;by_cases c3:kind=3
 ·subst c3;rw[if_pos rfl] at hs;exact ad3 mc hg hj t cF hb hd hk hs
 rw[if_neg c3] at hs;by_cases c4:kind=4
 ·subst c4;rw[if_pos rfl] at hs;by_cases z:dv a ea=0
  ·rw[if_neg fun q=>q z] at hs;exact acm mc hg hj t cF hb hd hk z hs
  ·rw[if_pos z] at hs;exact ack mc hg hj t cF hb hd hk z hs
 rw[if_neg c4] at hs;by_cases c5:kind=5
 ·subst c5;rw[if_pos rfl] at hs;by_cases z:0<kY (dv a ea)
  ·rw[if_pos z] at hs;exact acn mc hg hj t cF hb hd hk z hs
  ·rw[if_neg z] at hs;exact aco mc hg hj t cF hb hd hk z hs
 rw[if_neg c5] at hs;by_cases c6:kind=6
 ·subst c6;rw[if_pos rfl] at hs;split at hs
  ·rename_i e;exact ad5 mc hg hj t cF hb hd hk e hs
  ·cases hs
 rw[if_neg c6] at hs;by_cases c7:kind=7
 ·subst c7;rw[if_pos rfl] at hs;exact ad4 mc hg hj t cF hb hd hk hs
 rw[if_neg c7] at hs;cases hs
theorem ad6(mc:Mt LS B)(h:Oy a)(hj:ny a bH c){x:Int}(hs:wP a x=some a'):
 au pg B 271 (iW XT pg (az Tryz.f48) 4 (.int .i64 0)<|bU a') (sF 48 Tryz.f48 [.ptr<|some (270,0),.int .i64 x]) (aq (ar++bu (kz a bH c)) 273):=by
 obtain⟨hg,⟨v,hk⟩,f,r,kind,to,ea,eb,bd,el,cF,h0,hb,t0,t8⟩:=h;obtain⟨m,t⟩:=Ow (bH:=bH) cF;have k2:kind=2:=by
  have hk:=hk;unfold fp at hk;rw[cF] at hk;simp only[hb] at hk;split at hk
  ·injection hk with q;exact absurd q ab
  split at hk
  ·injection hk with q;exact absurd q ab
  split at hk
  ·rename_i q;exact q.1
  ·injection hk with q;exact absurd q ab
 subst k2;unfold wP at hs;rw[cF] at hs;simp only[hb] at hs;obtain⟨aZ,b',e1,rfl⟩:=uG hs;have mp:=hg.mp hj t;obtain⟨p1,p2,p3⟩:=sK t;have n6:=hg.gy;obtain⟨n',cZ,d⟩:=qZ (mp.hZ (i:=to) (z:=x)) p2 e1;have ha:=(td hg t cF _ hb).trans hk;obtain⟨op,nn,la⟩:=ea;obtain⟨aE,n2,lb⟩:=eb;have key:=jA mc (hg.ep hj) qD hg.gy hg.b6 (sI t h0 hb) ha (hg.aD t) hg.steps mp d.ep t0 t8 mp.hZ d.run;exact s9 (a':=⟨a.vars,a.aK,a.l.set to.toNat x,b',aZ.reverse,a.steps+1⟩) (NP hg.ok.1 t0 t8) rfl (uH hg.ok d (by rw[List.length_set];exact hg.ok.1) ab) d.ep Gq key
theorem ad7(mc:Mt [mm,iG,jG,lf,mf] B)(h:Ox a)(hj:ny a bH c):
 au pg B 271 (iW XT pg (az Tryz.f28) 4 (BP<|fp a)<|bU a) (sF 28 Tryz.f28 [.ptr<|some (270,0)]) (aq (ar++bu (kz a bH c)) 273):=by
 have key:∃o,mJ (a.fs++bH) a.fs.length o/\nS (mn a) (iD (a.fs++bH) a.fs.length) a.b o=fp a:=by
  rcases h.top with e|⟨f,r,s,cF,h0,hb⟩
  ·refine⟨none,.inl ⟨by rw[e];rfl,rfl⟩,?_⟩;unfold fp;rw[e];rfl
  ·obtain⟨m,t⟩:=Ow (bH:=bH) cF;exact⟨some s,sI t h0 hb,td h.pB t cF s hb⟩
 obtain⟨o,h1,h2⟩:=key;have hm:=h.pB.ep hj;have H:=UK mc hm h.pB.gy h.pB.b6 h1;rw[h2] at H;refine s9 (a':=a) rfl rfl h.pB.ok hm (by rw[List.take_left])<|PI ab (fun _ _ _ _ q=>q) H
end
open Classical in
def xw(a:dO)(rest:List AV):Option<|AV×dO:=if rest=[]/\Nk a then(zp a).map fun a'=>(.int .i64 0,a') else none
open Classical in
def vE(a:dO)(rest:List AV):Option<|AV×dO:=match rest with
 |[.int .i64 x]=>if Oy a then(wP a x).map fun a'=>(.int .i64 0,a') else none
 |_=>none
open Classical in
def eT(a:dO)(rest:List AV):Option<|AV×dO:=if rest=[]/\Ox a then some (BP<|fp a,a) else none
def V9:FuncId×KE:=(41,.tok 4<|dX bU xw)
def WX:FuncId×KE:=(48,.tok 4<|dX bU vE)
theorem Vo(hP:bE pg):aV LS:=ad0 hP<|Nf hP<|CX hP<|Fs hP<|Ii hP<|LU hP<|R3 hP<|adV hP<|acg hP<|aaY hP<|aaV hP<|aaW hP cP
theorem NQ{a:dO}{bH:List Fr}{c:Nat}:∀p∈kz a bH c,p.1<273:=fun p hp=>by simp only[kz,List.mem_cons,List.not_mem_nil,or_false] at hp;rcases hp with rfl|rfl|rfl<;>(show _<273;simp only;omega)
theorem acq(hP:bE pg)(h:aV L):aV<|V9::L:=by
 refine CR rZ hP hJ qd iT iz lT lB h (Vo hP) Tryz.func41 (body:=a9 pg 41 []) aW aW fun v rest y v' e=>?_;obtain⟨a,a',rfl,e1,rfl⟩:=AB e;unfold xw at e1;split at e1
 ·rename_i q;obtain⟨rfl,hd⟩:=q;cases hs:zp a with
  |none=>rw[hs] at e1;cases e1
  |some a2=>
   rw[hs] at e1;injection e1 with e1;injection e1 with e2 e3
   subst e2;subst e3;refine⟨aL.1 aW,fun L hx=>?_⟩;generalize hv:bU a=v at hx;cases hx with
   |BI b hb bH c hj=>have:=CB _ _ hv;subst this;exact⟨273,by omega,aL.1 aW,NQ,fun B mc=>acp mc hd hj hs⟩
 ·cases e1
theorem ad8(hP:bE pg)(h:aV L):aV<|WX::L:=by
 refine CR rZ hP hJ qd iT iz lT lB h (Vo hP) Tryz.func48 (body:=a9 pg 48 []) aW aW fun v rest y v' e=>?_;obtain⟨a,a',rfl,e1,rfl⟩:=AB e;unfold vE at e1;split at e1
 ·rename_i x;split at e1
  ·rename_i hd;cases hs:wP a x with
   |none=>rw[hs] at e1;cases e1
   |some a2=>
    rw[hs] at e1;injection e1 with e1;injection e1 with e2 e3
    subst e2;subst e3;refine⟨aL.1 aW,fun L hx=>?_⟩;generalize hv:bU a=v at hx;cases hx with
    |BI b hb bH c hj=>have:=CB _ _ hv;subst this;exact⟨273,by omega,aL.1 aW,NQ,fun B mc=>ad6 mc hd hj hs⟩
  ·cases e1
 ·cases e1
end
end rM
end
section
open Go Go.Rn Go.RowKit Go.Proofs
namespace WY
open cq gw eH gU Bu qF qE tF eX cz dj cO cT fm eR fM fO fU gh fV gi gO gP gZ hU iH iX jI jJ fx gY lD lU kF my lV pC pE rL rM
variable {B:aJ} {vars:Int} {tx:List St} {q G m2 c2:Nat} {aK:List Int} {u2:AV} {bj:List Fr} {A2:MN}
noncomputable abbrev y9(tx:List St):AV:=.U (nm (tx.map aM).flatten) 0 tx.length
theorem ad9(mc:Mt [D3,CU,DF,oq 60,yL] B)(hv:vars<1\/vars>32):au pg B 270 (Rn.Fin pg (az Tryz.f19) fun y _=>y= .tuple [.ptr none,.int .i64 1]) (sF 19 Tryz.f19 [(y9 tx),(i6 vars),(.U G q aK.length)])<|aq ar 270:=by exact wS mc (.st 5<|.rg<|.go 1<|.fk (.go 5<|.en<|.rt 4 .no)<|.go 2<|.fk (.go 2<|.en<|.rt 4 .no)<|.no)<|ax (vars<1) (fun _=>(show((.tuple [(.ptr none),(i6<|.ofNat 1)]):AV)= .tuple [.ptr none,.int .i64 1] from rfl)) fun _=>(ax (vars>32) (fun _=>(show((.tuple [(.ptr none),(i6<|.ofNat 1)]):AV)= .tuple [.ptr none,.int .i64 1] from rfl)) bh)
theorem acr(mc:Mt [D3,CU,DF,oq 60,yL] B)(rJ:bf (aU zn) [(y9 tx),.int .i64 (aK.length:Int)]=some (.bool false))(hv:1<=vars/\vars<=32):au pg B 270 (Rn.Fin pg (az Tryz.f19) fun y _=>y= .tuple [.ptr none,.int .i64 4]) (sF 19 Tryz.f19 [(y9 tx),(i6 vars),(.U G q aK.length)])<|aq ar 270:=by exact wS mc (.st 5<|.rg<|.go 1<|.fk (.no)<|.go 2<|.fk (.no)<|.go 2<|.en<|.st 2<|.rg<|.go 3<|.kn (.bool false)<|.go 2<|.en<|.rt 4 .no)<|ax (vars<1) bh fun _=>(ax (vars>32) bh fun _=>(ai rJ (show((.tuple [(.ptr none),(i6<|.ofNat 4)]):AV)= .tuple [.ptr none,.int .i64 4] from rfl)))
noncomputable abbrev Di(A2:MN)(m2 c2:Nat)(u2:AV)(bj:List Fr):List<|Nat×Option ae:=ar++[(270,some<|.cells 13 (Tr.fill (A2.row (.ptr<|some (271,0)) (.slice (some (272,0)) (m2)<|.ak c2 13)<|i6 A2.steps) 0 .nil) []),(271,some<|.tok 3 u2),(272,some<|aN aH bj)]
theorem ahv(mc:Mt [D3,CU,DF,oq 60,yL] B):au pg B 270 (Rn.Fin pg (az Tryz.f19) fun y s'=>y= .tuple [.ptr<|some (270,0),.int .i64 0]/\∀m o,(m,o)∈dC 270 3 (⟨⟨A2.pre,m2,(.ak c2 13),[(i6 A2.steps)]⟩,u2,(bj.map aH).flatten⟩:VS)->s'.h.get m=some o) (⟨19,aS [(6,(.ptr<|some (270,0))),(7,i0)],34,(dF 19 [1,1,1,1,1]),[],none⟩:AF)<|aq (Di A2 m2 c2 u2 bj) 273:=by exact wS mc (.rt 1 .no)<|nM (st:=(⟨⟨A2.pre,m2,(.ak c2 13),[(i6 A2.steps)]⟩,u2,(bj.map aH).flatten⟩:VS)) (s:=aq (ar++[(270,some<|.cells 13 (Tr.fill (A2.row (.ptr<|some (271,0)) (.slice (some (272,0)) (m2)<|.ak c2 13)<|i6 A2.steps) 0 .nil) []),(271,(some<|.tok 3 u2)),(272,(some<|aN aH bj))]) 273) (show((.tuple [(.ptr<|some (270,0)),i0]):AV)= .tuple [.ptr<|some (270,0),.int .i64 0] from rfl) ct ct ct
noncomputable abbrev Bl(vars:Int)(aK:List Int)(tx:List St):VS:=(⟨⟨[(i6 vars),(.U (nm (aK.map bS).flatten) 0 aK.length),i0,i0,i0,i0,i0,i0,i0,i0],1,(.ak 1 13),[.int .i64 0]⟩,(bW [[]]),(([(⟨tx,0,0,false,[0,0,0,0,0,0,0,0],none⟩:Fr)]).map aH).flatten⟩:VS)
noncomputable abbrev Oz(u2:AV)(A2:MN)(m2 c2:Nat)(bj:List Fr):List<|Nat×Option ae:=ar++[(270,(some<|.tok 3 u2)),(271,some<|.cells 13 (Tr.fill (A2.row (.ptr<|some (270,0)) (.slice (some (274,0)) (m2)<|.ak c2 13)<|i6 A2.steps) 0 .nil) []),(274,(some<|aN aH bj))]
theorem afK(mc:Mt [D3,CU,DF,oq 60,yL] B)(rJ:bf (aU zn) [(y9 tx),.int .i64 (aK.length:Int)]=some (.bool true))(hv:1<=vars/\vars<=32)(oO:bf (aU Bg) [(.U G q aK.length)]=some (.U (nm (aK.map bS).flatten) 0 aK.length))(QF:bf (aU<|qe 60) [(y9 tx)]=some (y9 tx))(GZ:kj O0 []=some (some<|bW [[]],fun p=>p))(hlen:bj.length<=1000000)(nO:(AV.U A2.G A2.q A2.lg).bZ=true)(k0:bA 10 (Bl vars aK tx)=true)(k1:dH eJ (Bl vars aK tx) []=some (.tuple [],(⟨⟨A2.pre,m2,(.ak c2 13),[.int .i64 A2.steps]⟩,u2,(bj.map aH).flatten⟩:VS)))(k2:bA 10 (⟨⟨A2.pre,m2,(.ak c2 13),[.int .i64 A2.steps]⟩,u2,(bj.map aH).flatten⟩:VS)=true):au pg B 270 (Rn.Fin pg (az Tryz.f19) fun y s'=>y= .tuple [.ptr<|some (270,0),.int .i64 0]/\∀m o,(m,o)∈dC 270 3 (⟨⟨A2.pre,m2,(.ak c2 13),[(i6 A2.steps)]⟩,u2,(bj.map aH).flatten⟩:VS)->s'.h.get m=some o) (sF 19 Tryz.f19 [(y9 tx),(i6 vars),(.U G q aK.length)])<|aq ar 270:=by have ht:top=549755813888:=rfl;exact wC mc (C:=(fun fr s1 _=>fr=(⟨19,aS [(6,(.ptr<|some (270,0))),(7,i0)],34,(dF 19 [1,1,1,1,1]),[],none⟩:AF)/\s1=(aq (Di A2 m2 c2 u2 bj) 273))) (fun fr s1 p hC=>by obtain⟨rfl,rfl⟩:=hC;exact ahv mc) (.st 5<|.rg<|.go 1<|.fk (.no)<|.go 2<|.fk (.no)<|.go 2<|.en<|.st 2<|.rg<|.go 3<|.kn (.bool true)<|.go 2<|.en<|.st 4<|.rg<|.go 2<|.kn (.U (nm (aK.map bS).flatten) 0 aK.length)<|.nt (some<|bW [[]]) (fun p=>p)<|.go 3<|.en<|.st 1<|.rg<|.go 2<|.kn (y9 tx)<|.go 1<|.il<|.st 4<|.rg<|.go 1<|.cg (.tuple []) (JW 270 dV eK 3 271 270 274 (⟨⟨A2.pre,m2,(.ak c2 13),[.int .i64 A2.steps]⟩,u2,(bj.map aH).flatten⟩:VS)) (F4 270 dV eK 3 271 270 274<|Bl vars aK tx)<|.en<|.rt 1<|.en<|.st 2<|.rn [(6,(.ptr<|some (271,0))),(7,i0)] (Oz u2 A2 m2 c2 bj) [(6,(.ptr<|some (270,0))),(7,i0)] (Di A2 m2 c2 u2 bj) 275 273 .no)<|ax (vars<1) bh fun _=>(ax (vars>32) bh fun _=>(ai rJ<|ai oO<|ai GZ<|ai QF<|ai (NI (P:=pg) (F:=FU) (sp:=sp [D3,CU,DF,oq 60,yL]) (g:=62) (J:=270) (h0:=dV) (ns:=eK) (rest:=[]) (n:=5) (kp:=10) (k:=3) (val:=dH eJ) (a:=271) (r1:=270) (r2:=274) (st:=(Bl vars aK tx)) (aZ:=(⟨⟨A2.pre,m2,(.ak c2 13),[.int .i64 A2.steps]⟩,u2,(bj.map aH).flatten⟩:VS)) (y:=.tuple []) ct ct ct ct rfl k0 k1 ct k2)<|afw (a:=bO<|dQ ((Bl vars aK tx)).R 270 274) (b:=.tok 3 ((Bl vars aK tx)).u) (c:=bO ((Bl vars aK tx)).row)<|ai (mS [(6,(.ptr<|some (271,0))),(7,i0)])<|ai (mO<|Oz u2 A2 m2 c2 bj)<|ai (show jF FU 270 275 [(6,(.ptr<|some (271,0))),(7,i0)] (Oz u2 A2 m2 c2 bj) [(6,(.ptr<|some (270,0))),(7,i0)] (Di A2 m2 c2 u2 bj) 273 from Bv (ps:=[(270,271),(271,270),(272,274)]) (lo:=270) (bQ:=275) ab ct ct (fun r hr ht=>⟨⟨by unfold top;omega,_,(mi 0),((bR.ptr<|rq hr)).z⟩,⟨⟨by unfold top;omega,_,(mi 1),vi⟩,trivial⟩⟩) fun r hr ht=>⟨kP (mi 1) (rq hr) qX<|Jl (l:=[(i6 A2.vars),(.U A2.G A2.q A2.lg),(i6 A2.x0),(i6 A2.x1),(i6 A2.x2),(i6 A2.x3),(i6 A2.x4),(i6 A2.x5),(i6 A2.x6),(i6 A2.x7),(.ptr<|some (270,0)),(.slice (some (274,0)) (m2)<|.ak c2 13),(i6 A2.steps)]) (m:=[(i6 A2.vars),(.U A2.G A2.q A2.lg),(i6 A2.x0),(i6 A2.x1),(i6 A2.x2),(i6 A2.x3),(i6 A2.x4),(i6 A2.x5),(i6 A2.x6),(i6 A2.x7),(.ptr<|some (271,0)),(.slice (some (272,0)) (m2)<|.ak c2 13),(i6 A2.steps)]) ⟨vi,⟨((FH ht Pv)).z,⟨vi,⟨vi,⟨vi,⟨vi,⟨vi,⟨vi,⟨vi,⟨vi,⟨((bR.ptr<|rq hr)).z,⟨((bR.slice<|rq hr)).z,⟨vi,trivial⟩⟩⟩⟩⟩⟩⟩⟩⟩⟩⟩⟩⟩,⟨kP (mi 0) (rq hr) (iv.refl _) yM,⟨kP (mi 2) (rq hr) (iv.refl _)<|ID ht hlen,trivial⟩⟩⟩) (show(⟨19,aS [(6,(.ptr<|some (270,0))),(7,i0)],34,(dF 19 [1,1,1,1,1]),[],none⟩:AF)=(⟨19,aS [(6,(.ptr<|some (270,0))),(7,i0)],34,(dF 19 [1,1,1,1,1]),[],none⟩:AF)/\(aq (Di A2 m2 c2 u2 bj) 273)=(aq (Di A2 m2 c2 u2 bj) 273) from⟨rfl,rfl⟩)))
end WY
end
section
open Go Go.Rn Go.RowKit Go.Proofs
namespace xy
open cq gw eH gU Bu qF nh m7 tP qp xS qE tF eX cz dj cO cT fm eR fM fO fU gh fV gi gO gP gZ hU iH iX jI jJ fx gY lD lU kF my lV pC pE rL rM WY
variable {p:Option AV×(AV->AV)}
noncomputable section
theorem te(l:List St):nm (bw l)=nm (l.map aM).flatten:=by rw[uA]
def xz(tx:List St):Fr:=⟨tx,0,0,false,Z8,none⟩
def mz(e:Int)(p:AV):AV:=.tuple [p,.int .i64 e]
def zq(args:List AV)(p:Option AV×(AV->AV)):Prop:=∃(tx:List St) (vars:Int) (aK:List Int) (G q:Nat),args=[.U (nm (tx.map aM).flatten) 0 tx.length,.int .i64 vars,.U G q aK.length]/\eC bS 1 (.U G q aK.length) aK/\aK.length<=1000/\(((vars<1\/vars>32)/\p=(none,mz 1))\/((1<=vars/\vars<=32)/\ru 60 tx=true/\lh 60 tx=true/\∃b,xT tx (aK.length:Int) b/\((b=false/\p=(none,mz 4))\/(b=true/\qq 60 tx=true/\∃st bb,jP 1000 [xz tx] [[]]=some (st,bb)/\p=(some<|bU ⟨vars,aK,Z8,bb,st.reverse,0⟩,mz 0)))))
theorem acs{l:List St}{n:Int}{b b':Bool}(h:xT l n b)(h':xT l n b'):b=b':=by
 obtain⟨c1,c2,p,a1,a2,a3⟩:=h;obtain⟨c1',c2',p',b1,b2,b3⟩:=h';rw[a1] at b1;injection b1 with b1;injection b1 with _ q1 q2 _
 injection q1 with _ q1;injection q2 with _ q2
 rw[a2] at b2;injection b2 with b2
 rw[a3,b3,q1,q2,b2]
theorem zq.bT{args:List AV}{p':Option AV×(AV->AV)}(h:zq args p)(h':zq args p'):p=p':=by
 obtain⟨tx,vars,aK,G,q,rfl,i1,_,h⟩:=h;obtain⟨tx',vars',WC,G',q',e,i2,_,h'⟩:=h';simp only[List.cons.injEq,AV.U.injEq,AV.int.injEq,true_and,_root_.and_true] at e;obtain⟨⟨e1,e2⟩,rfl,rfl,rfl,e3⟩:=e;rw[←te, ←te] at e1;have e1:=ss _ _<|sR (lL _) (lL _) e1;subst e1;rw[←e3] at i2;have e4:=eC.inj wD i1 (by rw[e3] at i2 ⊢;exact i2);subst e4;rcases h with⟨a,rfl⟩|⟨a,_,_,b,m,h⟩<;>rcases h' with⟨a',rfl⟩|⟨a',_,_,b',m',h'⟩
 ·rfl
 ·omega
 ·omega
 ·have eb:=acs m m';subst eb;rcases h with⟨x,rfl⟩|⟨x,_,st,bb,s1,rfl⟩<;>rcases h' with⟨x',rfl⟩|⟨x',_,aZ,bb',s2,rfl⟩
  ·rfl
  ·rw[x] at x';cases x'
  ·rw[x] at x';cases x'
  ·rw[s1] at s2;injection s2 with s2;injection s2 with g1 g2
   rw[g1,g2]
open Classical in
def xA(args:List AV):Option<|Option AV×(AV->AV):=if h:∃p,zq args p then some h.choose else none
theorem aa3{args:List AV}(h:xA args=some p):zq args p:=by
 unfold xA at h;split at h
 ·rename_i q;injection h with h;rw[←h];exact q.choose_spec
 ·cases h
theorem TL{args:List AV}(h:zq args p):xA args=some p:=by unfold xA;have q:∃p,zq args p:=⟨p,h⟩;rw[dif_pos q];exact congrArg some<|zq.bT q.choose_spec h
def Wa:FuncId×KE:=(19,.new 4 xA)
theorem acu(tx:List St):ij [xz tx]:=fun f hf=>by rw[List.mem_singleton] at hf;subst hf;exact⟨⟨by show(0:Int)<=0;omega,by show(0:Int)<=1000000;omega⟩,rfl⟩
theorem acv(hP:bE pg){L:bY}(h:aV L):aV<|Wa::L:=by
 refine Iy rZ hP hJ (aL.1 aW) iT iz h (adH hP<|ZX hP<|ace hP<|SU hP 60<|R3 hP cP) Tryz.func19 (body:=a9 pg 19 []) aW aW fun args p e=>?_;obtain⟨tx,vars,aK,G,q,rfl,i1,hl,h⟩:=aa3 e;have bZ:[AV.U (nm (tx.map aM).flatten) 0 tx.length,.int .i64 (aK.length:Int)].all AV.hi=true:=by rw[List.all_cons, ←te,sY];rfl
 have hm:∀b,ru 60 tx=true->lh 60 tx=true->xT tx (aK.length:Int) b->bf (aU zn) [.U (nm (tx.map aM).flatten) 0 tx.length,.int .i64 (aK.length:Int)]=some (.bool b):=fun b h1 h2 h3=>fA (eZ zn.bT ⟨tx,_,b,by rw[te],h1,h2,h3,rfl⟩) bZ rfl;refine⟨aL.1 aW,fun e0 B mc=>?_,fun v e0=>?_⟩
 ·rw[←gX];rcases h with⟨a,rfl⟩|⟨a,d1,d2,b,m,h⟩
  ·exact ad9 mc a
  ·rcases h with⟨rfl,rfl⟩|⟨_,_,_,_,_,rfl⟩
   ·exact acr mc (hm _ d1 d2 m) a
   ·cases e0
 ·rcases h with⟨a,rfl⟩|⟨a,d1,d2,b,m,h⟩
  ·cases e0
  rcases h with⟨rfl,rfl⟩|⟨rfl,gc,st,bb,hs,rfl⟩
  ·cases e0
  injection e0 with e0
  subst e0;refine⟨u0.Qf rfl,fun B mc=>?_⟩;rw[←gX];let A:MN:=⟨vars,nm (aK.map zh).flatten,0,aK.length,aK,0,0,0,0,0,0,0,0,0⟩;have m0:dc A 1 1 [xz tx] [[]]:=⟨eC.aX KV aK,Of,acu tx,Nat.le_refl 1,Nat.le_refl 1,by show 1<=1000000;omega,a⟩;obtain⟨n',cZ,d⟩:=qZ (st:=[xz tx]) m0 rfl hs;have oO:bf (aU Bg) [.U G q aK.length]=some (.U (nm (aK.map bS).flatten) 0 aK.length):=fA (eZ Bg.bT ⟨G,q,aK,rfl,i1,by omega,rfl⟩) (by rw[List.all_cons,i1.hi];rfl) (eC.aX eI aK).hi;have QF:bf (aU<|qe 60) [.U (nm (tx.map aM).flatten) 0 tx.length]=some (.U (nm (tx.map aM).flatten) 0 tx.length):=fA (eZ qe.bT ⟨tx,by rw[te],gc,by rw[te]⟩) (by rw[List.all_cons, ←te,sY];rfl) (by rw[←te];exact sY tx);have ok:Bb ⟨vars,aK,Z8,bb,st.reverse,0⟩:=by refine⟨rfl,d.ep.buf,?_,hl,a⟩;show st.reverse.length<=1000;rw[←d.eq,List.reverse_reverse,List.length_take];have:=d.le;omega
  have key:=afK (vars:=vars) (G:=G) (q:=q) (tx:=tx) (aK:=aK) (A2:=A) (m2:=n') (c2:=1) (u2:=bW bb) (bj:=cZ) mc (hm _ d1 d2 m) a oO QF rfl d.ep.len d.ep.aK.bZ Pw Pw Pw;have e1:cZ.take n'=st.reverse:=by rw[←d.eq,List.reverse_reverse]
  have fu:(st.reverse).length=n':=by rw[←e1,List.length_take];have:=d.ep.mV;omega
  have e2:cZ=st.reverse++cZ.drop n':=by rw[←e1,List.take_append_drop]
  refine PI (Nat.le_refl _) (WV fun y1 s' q=>⟨q.1,kz ⟨vars,aK,Z8,bb,st.reverse,0⟩ (cZ.drop n') 1,XT.BI _ ok _ _ ⟨by rw[fu];exact d.ep.pR,by rw[←e2];exact d.ep.len,fun f hf=>d.ep.n9 f<|List.mem_of_mem_drop hf⟩,?_⟩) key;have hx:=q.2;have e3:=TK ⟨vars,aK,Z8,bb,st.reverse,0⟩ (cZ.drop n') 1;rw[←e3];show ∀m o,(m,o)∈dC 270 3 (da _ (st.reverse).length 1 (st.reverse++cZ.drop n') bb)->_;rw[fu, ←e2];exact hx
end
end xy
end
section
open Go Go.Rn Go.RowKit Go.Proofs
namespace F7
open cq cO gw eH gU kF z6 qF cz WK xy
variable {p:Option AV×(AV->AV)}
noncomputable section
def zr(args:List AV)(p:Option AV×(AV->AV)):Prop:=∃(init:List Int) (N o:Nat) (st dL:Int),args=[.U N o init.length,.int .i64 st,.int .i64 dL]/\eC bS 1 (.U N o init.length) init/\
  ((((init.length:Int)<1\/(init.length:Int)>32\/st<1\/st>(init.length:Int)\/dL<0\/dL>1099511627776)/\p=(none,mz 1))\/
   ((1<=init.length/\init.length<=32/\1<=st/\st<=(init.length:Int)/\0<=dL/\dL<=1099511627776)/\p=(some<|aC ⟨List.replicate st.toNat ⟨-1,0⟩,0,dL,init⟩,mz 0)))
theorem zr.bT{args:List AV}{p':Option AV×(AV->AV)}(h:zr args p)(h':zr args p'):p=p':=by
 obtain⟨init,N,o,st,dL,rfl,i1,h⟩:=h;obtain⟨al5,N',o',aZ,amf,e,i2,h'⟩:=h';simp only[List.cons.injEq,AV.U.injEq,AV.int.injEq,true_and,_root_.and_true] at e;obtain⟨⟨rfl,rfl,e3⟩,rfl,rfl⟩:=e;rw[←e3] at i2;have e4:=eC.inj wD i1 (by rw[e3] at i2 ⊢;exact i2);subst e4;rcases h with⟨a,rfl⟩|⟨a,rfl⟩<;>rcases h' with⟨a',rfl⟩|⟨a',rfl⟩
 ·rfl
 ·omega
 ·omega
 ·rfl
open Classical in
def vj(args:List AV):Option<|Option AV×(AV->AV):=if h:∃p,zr args p then some h.choose else none
theorem aa4{args:List AV}(h:vj args=some p):zr args p:=by
 unfold vj at h;split at h
 ·rename_i q;injection h with h;rw[←h];exact q.choose_spec
 ·cases h
theorem TM{args:List AV}(h:zr args p):vj args=some p:=by unfold vj;have q:∃p,zr args p:=⟨p,h⟩;rw[dif_pos q];exact congrArg some<|zr.bT q.choose_spec h
def Wb:FuncId×KE:=(6,.new 2 vj)
theorem acw(hP:bE pg){L:bY}(h:aV L):aV<|Wb::L:=by
 refine Iy rZ hP hJ (aL.1 aW) iT iz h cP Tryz.func6 (body:=a9 pg 6 []) aW aW fun args p e=>?_;obtain⟨init,N,o,st,dL,rfl,i1,h⟩:=aa4 e;refine⟨aL.1 aW,fun e0 B mc=>?_,fun v e0=>?_⟩
 ·rw[←gX];rcases h with⟨a,rfl⟩|⟨a,rfl⟩
  ·exact adN mc a
  ·cases e0
 ·rcases h with⟨a,rfl⟩|⟨a,rfl⟩
  ·cases e0
  injection e0 with e0
  subst e0;refine⟨u0.Qf rfl,fun B mc=>?_⟩;rw[←gX];obtain⟨b1,b2,b3,b4,b5,b6⟩:=a;cases init with
  |nil=>exact absurd b1 (by show ¬(1<=0);omega)
  |cons x l=>
   have hf:cX FU N o ((l.length+1)*1)=some ((x::l).map bS).flatten:=by
    rcases Iz eI.len i1 with q|q
    ·exact q
    ·cases q
   have est:st=(st.toNat:Int):=by omega
   have b4':st.toNat<=l.length+1:=by rw[List.length_cons] at b4;omega
   have dz:kf ⟨List.replicate st.toNat ⟨-1,0⟩,0,dL,x::l⟩:=⟨⟨by show 1<=(List.replicate _ _).length;rw[List.length_replicate];omega,by show(List.replicate _ _).length<=32;rw[List.length_replicate];rw[List.length_cons] at b2;omega⟩,⟨b1,b2⟩,by show(0:Int)<=0;omega,b6⟩;have key:=adO (N:=N) (o:=o) (m:=l.length) (S:=st.toNat) (dL:=dL) (init:=x::l) ⟨by omega,by rw[List.length_cons] at b2;omega⟩ b2 b4' ⟨b5,b6⟩ i1.len.2.1 ⟨i1.len.2.1,hf,rfl⟩ mc dz;rw[←est] at key;exact key
end
end F7
end
section
open Go Go.Rn Go.RowKit Go.Proofs
namespace GB
open cq cO gw eH gU z6 cz eX dj jJ iX fV gi lV pE rM gh iH
variable {L:bY} {S:Type} {rest:List AV} {f:S->List AV->Option AV} {enc:S->AV}
noncomputable section
def aR(enc:S->AV)(f:S->List AV->Option AV)(v:AV)(rest:List AV):Option AV:=(dX enc (fun a r=>(f a r).map fun y=>(y,a)) v rest).map (·.1)
theorem TO(inj:∀a b,enc a=enc b->a=b){a:S}:aR enc f (enc a) rest=f a rest:=by unfold aR;rw[AN inj];cases f a rest<;>rfl
theorem SY{v:AV}{y:AV}(h:aR enc f v rest=some y):∃a,v=enc a/\f a rest=some y:=by
 unfold aR at h;cases q:dX enc (fun a r=>(f a r).map fun y=>(y,a)) v rest with
 |none=>rw[q] at h;cases h
 |some p=>
  rw[q] at h;injection h with h;subst h
  obtain⟨y,v'⟩:=p;obtain⟨a,a',e1,e2,e3⟩:=AB q;refine⟨a,e1,?_⟩;cases q2:f a rest with
  |none=>rw[q2] at e2;cases e2
  |some z=>rw[q2] at e2;injection e2 with e2;injection e2 with e2 _;exact congrArg some e2
def Vp:FuncId×KE:=(28,.raw<|lW 4<|aR bU fun a rest=>(eT a rest).map (·.1))
theorem aa6(hP:bE pg)(h:aV L):aV<|Vp::L:=by
 refine TN rZ hP hJ qd iT iz lT lB h (Nf hP<|CX hP<|Fs hP<|Ii hP<|LU hP cP) Tryz.func28 (body:=a9 pg 28 []) aW aW fun v rest y e=>?_;obtain⟨a,rfl,e1⟩:=SY e;unfold eT at e1;split at e1
 ·rename_i q;obtain⟨rfl,hd⟩:=q;injection e1 with e1
  have e1:BP (fp a)=y:=e1;subst e1;refine⟨aL.1 aW,fun L hx=>?_⟩;generalize hv:bU a=v at hx;cases hx with
  |BI b hb bH c hj=>have:=CB _ _ hv;subst this;exact⟨273,by omega,aL.1 aW,NQ,fun B mc=>ad7 mc hd hj⟩
 ·cases e1
def qh:cr->List AV->Option AV
 |a,[.int .i64 x0]=>some<|w7 a x0
 |_,_=>none
def UL:FuncId×KE:=(44,.raw<|lW 2<|aR aC qh)
theorem As{L0:bY}{g:Nat}{fn:Func}{F:cr->List AV->Option AV}(hP:bE pg)(h:aV L)(h0:aV L0)(cm:Tryz.prog.funcs[g]? =some fn)(H:∀a rest y,F a rest=some y->max fn.ntmps (rest.length+1)<=top/\∀B c1 c2,Mt L0 B->kf a->rr B g (max fn.ntmps<|rest.length+1) fn.results.toList a c1 c2 rest y (aC a))(cv:fn.body=some (a9 pg g []):=by kernel_rfl)(hn:(fn.name == "runtime.NumGoroutine")=false:=by kernel_rfl):aV<|(g,.raw<|lW 2<|aR aC F)::L:=by
 refine TN rZ hP hJ qd iT iz lT lB h h0 cm cv hn fun v rest y e=>?_;obtain⟨a,rfl,e1⟩:=SY e;obtain⟨q1,q2⟩:=H a rest y e1;refine⟨q1,fun L hx=>?_⟩;generalize hv:aC a=v at hx;cases hx with
 |heap b hb c1 c2=>have:=Mw _ _ hv;subst this;exact⟨273,by omega,aL.1 aW,gR,fun B mc=>q2 B c1 c2 mc hb⟩
theorem Z2(hP:bE pg)(h:aV L):aV<|UL::L:=As hP h cP Tryz.func44 fun a rest y e=>by unfold qh at e;split at e<;>cases e;exact⟨aL.1 aW,fun B c1 c2 mc hb=>adh mc hb⟩
def oY:cr->List AV->Option AV
 |a,[.int .i64 x0]=>some<|yB a x0
 |_,_=>none
def SZ:FuncId×KE:=(45,.raw<|lW 2<|aR aC oY)
theorem YO(hP:bE pg)(h:aV L):aV<|SZ::L:=As hP h cP Tryz.func45 fun a rest y e=>by unfold oY at e;split at e<;>cases e;exact⟨aL.1 aW,fun B c1 c2 mc hb=>aaI mc hb⟩
def tf:cr->List AV->Option AV
 |a,[.int .i64 x0]=>some<|yV a x0
 |_,_=>none
def UM:FuncId×KE:=(47,.raw<|lW 2<|aR aC tf)
theorem Z3(hP:bE pg)(h:aV L):aV<|UM::L:=As hP h cP Tryz.func47 fun a rest y e=>by unfold tf at e;split at e<;>cases e;exact⟨aL.1 aW,fun B c1 c2 mc hb=>adi mc hb⟩
def ou:cr->List AV->Option AV
 |a,[]=>some<|FD a
 |_,_=>none
def UN:FuncId×KE:=(38,.raw<|lW 2<|aR aC ou)
theorem Z4(hP:bE pg)(h:aV L):aV<|UN::L:=As hP h cP Tryz.func38 fun a rest y e=>by unfold ou at e;split at e<;>cases e;exact⟨aL.1 aW,fun B c1 c2 mc hb=>adj mc hb⟩
def iF:cr->List AV->Option AV
 |a,[]=>some<|JU a
 |_,_=>none
def Vq:FuncId×KE:=(21,.raw<|lW 2<|aR aC iF)
theorem aa7(hP:bE pg)(h:aV L):aV<|Vq::L:=As hP h cP Tryz.func21 fun a rest y e=>by unfold iF at e;split at e<;>cases e;exact⟨aL.1 aW,fun B c1 c2 mc hb=>ae4 mc hb⟩
def iC:cr->List AV->Option AV
 |a,[]=>some<|Ia a
 |_,_=>none
def S0:FuncId×KE:=(22,.raw<|lW 2<|aR aC iC)
theorem YP(hP:bE pg)(h:aV L):aV<|S0::L:=As hP h cP Tryz.func22 fun a rest y e=>by unfold iC at e;split at e<;>cases e;exact⟨aL.1 aW,fun B c1 c2 mc hb=>aaJ mc hb⟩
def p7:cr->List AV->Option AV
 |a,[.int .i64 x0]=>some<|yJ a x0
 |_,_=>none
def TP:FuncId×KE:=(42,.raw<|lW 2<|aR aC p7)
theorem Zf(hP:bE pg)(h:aV L):aV<|TP::L:=As hP h cP Tryz.func42 fun a rest y e=>by unfold p7 at e;split at e<;>cases e;exact⟨aL.1 aW,fun B c1 c2 mc hb=>abW mc hb hb.1.1⟩
end
end GB
end
section
open Go Go.Rn Go.RowKit Go.Proofs
namespace zI
open cq gw eH gU nh m7 xS zm qE tF eX cz dj Ch cO cT fm eR fM fO fU gh fV gi gO gP gZ hU iH iX jI jJ fx gY lV pC pE rL rM
def DJ:St->Int| .mk _ t _ _ _ _=>t
def ma:Nat->List St->Prop
 |0,l=>l=[]
 |d+1,l=>l.length<=1000000/\∀s∈l,(1<=fB s/\fB s<=8)/\(0<=DJ s/\DJ s<8)/\ma d (bF s)/\ma d (bB s)
theorem UO:∀d,ma d []
 |0=>rfl
 |d+1=>⟨Nat.zero_le _,fun s h=>by cases h⟩
def oU:List Fr->Nat
 |[]=>0
 |f::r=>oU r+(if f.ch=true then 1 else 0)
def vH:List Fr->Prop
 |[]=>True
 |f::r=>ma (6 - r.length) f.block/\(0<=f.ah/\f.ah<=(f.block.length:Int))/\(0<=f.turns/\f.turns<=7)/\f.kept.length=8/\(f.ch=true->r≠[]/\∃ol,f.other=some ol/\ma (6 - r.length) ol)/\vH r
structure Inv (st:List Fr) (b:bz):Prop where
 wf:vH st
 len:b.length=oU st+1
 buf:fe b
theorem aeb{d:Nat}{l:List St}(h:ma d l):l.length<=1000000:=by
 cases d with
 |zero=>have:l=[]:=h;subst this;exact Nat.zero_le _
 |succ d=>exact h.1
def vI:List Fr->Nat
 |[]=>0
 |f::r=>vI r+f.turns.toNat+1
theorem EL:∀(k:Nat) (st:List Fr) (b:bz),Inv st b->vI st<k->∃aZ b',jP k st b=some (aZ,b')/\Inv aZ b'/\aZ.length<=st.length
 |0,_,_,_,h=>by omega
 |k+1,[],b,hi,_=>⟨[],b,rfl,hi,Nat.le_refl _⟩
 |k+1,f::r,b,hi,hm=>by
  obtain⟨⟨h1,h2,h3,h4,h5,h6⟩,hl,hb⟩:=hi;unfold jP;by_cases c1:f.ah<(f.block.length:Int)
  ·rw[if_pos c1];exact⟨_,_,rfl,⟨⟨h1,h2,h3,h4,h5,h6⟩,hl,hb⟩,Nat.le_refl _⟩
  ·rw[if_neg c1];by_cases c2:0<f.turns
   ·rw[if_pos c2];have i2:Inv ({f with ah:=0,turns:=f.turns - 1}::r) b:=⟨⟨h1,⟨by show(0:Int)<=0;omega,by show(0:Int)<=_;omega⟩,⟨by show 0<=f.turns - 1;omega,by show f.turns - 1<=7;omega⟩,h4,h5,h6⟩,hl,hb⟩;by_cases c3:0<(f.block.length:Int)
    ·rw[if_pos c3];exact⟨_,_,rfl,i2,Nat.le_refl _⟩
    ·rw[if_neg c3];exact EL k _ b i2 (by show vI r+(f.turns - 1).toNat+1<k;have:vI (f::r)=vI r+f.turns.toNat+1:=rfl;omega)
   ·rw[if_neg c2];have eB:vI r<k:=by have:vI (f::r)=vI r+f.turns.toNat+1:=rfl;omega
    have hlen:b.length=oU r+(if f.ch=true then 1 else 0)+1:=hl;by_cases c4:f.ch=true
    ·rw[if_pos c4];rw[if_pos c4] at hlen;have c5:2<=b.length:=by omega
     rw[if_pos c5];obtain⟨aZ,b',e,i,l⟩:=EL k r (gQ b) ⟨h6,by have:=Ho b c5;omega,Ih hb c5⟩ eB;exact⟨aZ,b',e,i,by rw[List.length_cons];omega⟩
    ·rw[if_neg c4];rw[if_neg c4] at hlen;obtain⟨aZ,b',e,i,l⟩:=EL k r b ⟨h6,hlen,hb⟩ eB;exact⟨aZ,b',e,i,by rw[List.length_cons];omega⟩
theorem NR:∀{st:List Fr},vH st->vI st<=8*st.length
 |[],_=>Nat.le_refl _
 |f::r,h=>by have:=NR h.2.2.2.2.2;have h3:=h.2.2.1;show vI r+f.turns.toNat+1<=8*(r.length+1);omega
theorem Vr:∀{st:List Fr},vH st->oU st+1<=st.length\/oU st=0
 |[],_=>.inr rfl
 |f::r,h=>by
  rcases Vr h.2.2.2.2.2 with q|q
  ·left;show oU r+(if f.ch=true then 1 else 0)+1<=r.length+1;split<;>omega
  ·by_cases c:f.ch=true
   ·obtain⟨hr,_⟩:=h.2.2.2.2.1 c;left;show oU r+(if f.ch=true then 1 else 0)+1<=r.length+1;rw[if_pos c];cases r with
    |nil=>exact absurd rfl hr
    |cons a r=>rw[List.length_cons];omega
   ·right;show oU r+(if f.ch=true then 1 else 0)=0;rw[if_neg c];exact q
structure lE (a:dO):Prop where
 inv:Inv a.fs.reverse a.b
 l:a.l.length=8
 top:a.fs.reverse=[]\/∃f r,a.fs.reverse=f::r/\f.ah<(f.block.length:Int)
 aK:a.aK.length<=1000
 vars:1<=a.vars/\a.vars<=32
theorem za{f:Fr}{r:List Fr}(h:vH<|f::r)(ht:f.ah<(f.block.length:Int)):∃d s,6 - r.length=d+1/\f.block[f.ah.toNat]? =some s/\(1<=fB s/\fB s<=8)/\(0<=DJ s/\DJ s<8)/\ma d (bF s)/\ma d (bB s):=by
 have h0:=h.2.1.1;have bJ:f.ah.toNat<f.block.length:=by omega
 have hb:=h.1;cases e:6 - r.length with
 |zero=>rw[e] at hb;have:f.block=[]:=hb;rw[this] at bJ;simp at bJ
 |succ d=>rw[e] at hb;obtain⟨q1,q2,q3,q4⟩:=hb.2 _<|List.getElem_mem bJ;exact⟨d,_,rfl,List.getElem?_eq_getElem bJ,q1,q2,q3,q4⟩
theorem Vs:∀{st:List Fr},vH st->∀f∈st,((0<=f.turns/\f.turns<=1000000)/\f.kept.length=8)/\(0<=f.ah/\f.ah<=1000000)
 |[],_,f,h=>by cases h
 |g::r,h,f,hf=>by
  rcases List.mem_cons.1 hf with rfl|hf
  ·have:=aeb h.1;have:=h.2.1;have:=h.2.2.1;exact⟨⟨by omega,h.2.2.2.1⟩,by omega⟩
  ·exact Vs h.2.2.2.2.2 f hf
section
variable {a:dO}
theorem lE.gy(h:lE a):a.fs.length<=6:=by
 rw[←List.length_reverse];rcases h.top with e|⟨f,r,e,ht⟩
 ·rw[e];exact Nat.zero_le _
 ·rw[e];have hw:=h.inv.wf;rw[e] at hw;obtain⟨d,_,hd,_⟩:=za hw ht;rw[List.length_cons];omega
theorem lE.b6(h:lE a):a.b.length<=6:=by have h6:=h.gy;rw[←List.length_reverse] at h6;have:=h.inv.len;rcases Vr h.inv.wf with q|q<;>omega
theorem lE.pB(h:lE a)(hs:0<=a.steps/\a.steps<=1000000000000):Good a:=by have hw:=Vs h.inv.wf;exact⟨⟨h.l,h.inv.buf,by have:=h.gy;omega,h.aK,h.vars⟩,fun f hf=>(hw f<|List.mem_reverse.2 hf).1,h.gy,h.b6,hs,fun f hf=>(hw f<|List.mem_reverse.2 hf).2⟩
theorem lE.ask(h:lE a)(hs:0<=a.steps/\a.steps<=1000000000000):Ox a:=by
 refine⟨h.pB hs,?_⟩;rcases h.top with e|⟨f,r,e,ht⟩
 ·exact .inl<|List.reverse_eq_nil_iff.1 e
 ·have hw:=h.inv.wf;rw[e] at hw;obtain⟨d,s,_,q,_⟩:=za hw ht;exact .inr ⟨f,r,s,e,hw.2.1.1,q⟩
end
theorem Nl:∀{st:List Fr} {g:Fr} {r':List Fr},vH st->below st=some (g,r')->vH (g::r')/\g.ch=true/\oU st=oU r'+1/\r'.length<st.length
 |[],_,_,_,h=>by cases h
 |f::r,g,r',hw,h=>by
  unfold lV.below at h;by_cases c:f.ch=true
  ·rw[if_pos c] at h;injection h with h;injection h with h1 h2
   subst h1;subst h2;exact⟨hw,c,by show oU r+(if f.ch=true then 1 else 0)=_;rw[if_pos c],by rw[List.length_cons];omega⟩
  ·rw[if_neg c] at h;obtain⟨a1,a2,a3,a4⟩:=Nl hw.2.2.2.2.2 h;exact⟨a1,a2,by show oU r+(if f.ch=true then 1 else 0)=_;rw[if_neg c];exact a3,by rw[List.length_cons];omega⟩
theorem wE{a:dO}{st:List Fr}{b:bz}(hl:a.l.length=8)(hg:a.aK.length<=1000)(hv:1<=a.vars/\a.vars<=32)(hi:Inv st b)(hn:st.length<=8):∃a',fin a st b=some a'/\lE a'/\a'.steps=a.steps/\a'.vars=a.vars/\a'.aK=a.aK:=by
 have hm:=NR hi.wf;obtain⟨aZ,b',e,i,l⟩:=EL 1000 st b hi ab;refine⟨{a with fs:=aZ.reverse,b:=b'},by unfold fin;rw[e],⟨?_,hl,?_,hg,hv⟩,rfl,rfl,rfl⟩
 ·show Inv aZ.reverse.reverse b';rw[List.reverse_reverse];exact i
 ·show aZ.reverse.reverse=[]\/∃f r,aZ.reverse.reverse=f::r/\_;rw[List.reverse_reverse];exact Cx _ _ _ _ _ e
theorem HB(b:bz)(v x:Int):(ml b v x).length=b.length:=by
 rcases List.eq_nil_or_concat b with rfl|⟨l,m,rfl⟩
 ·rfl
 ·rw[List.concat_eq_append,R2,List.length_append,List.length_append];rfl
section
variable {a:dO}
theorem ME(h:lE a):fp a=(1,0,0)\/(∃v,fp a=(2,v,0)/\0<=v/\v<a.vars)\/(∃x,fp a=(3,0,x))\/fp a=(4,0,0):=by
 unfold fp;rcases h.top with e|⟨f,r,e,ht⟩
 ·rw[e];exact .inr<|.inr<|.inl ⟨0,rfl⟩
 ·have hw:=h.inv.wf;rw[e] at hw ⊢;obtain⟨d,⟨kind,to,ea,eb,bd,el⟩,_,q,_⟩:=za hw ht;simp only[q]
  repeat' split
  ·exact .inr<|.inr<|.inl ⟨_,rfl⟩
  ·exact .inr<|.inr<|.inr rfl
  ·exact .inr<|.inl ⟨_,rfl,adX h.vars.1⟩
  ·exact .inl rfl
theorem MS(h:lE a)(hs:0<=a.steps/\a.steps<=1000000000000)(hk:fp a=(1,0,0)):Nk a/\∃a',zp a=some a'/\lE a'/\a'.steps=a.steps+1/\a'.vars=a.vars/\a'.aK=a.aK:=by
 rcases h.top with e|⟨f,r,e,ht⟩
 ·exfalso;unfold fp at hk;rw[e] at hk;injection hk with q _;omega
 have hw:=h.inv.wf;have hlen:=h.inv.len;rw[e] at hw hlen;have h6:=h.gy;rw[←List.length_reverse,e,List.length_cons] at h6;obtain⟨d,⟨kind,to,ea,eb,bd,el⟩,hd,q,k1,k2,k3,k4⟩:=za hw ht;have k1:1<=kind/\kind<=8:=k1;have k2:0<=to/\to<8:=k2;have k3:ma d bd:=k3;have k4:ma d el:=k4;have kl:=hk;unfold fp at kl;rw[e] at kl;simp only[q] at kl;have n8:kind≠8:=fun c=>by rw[if_pos c] at kl;injection kl with z _;omega
 rw[if_neg n8] at kl;have n6:kind=6->below (f::r)≠none:=fun c z=>by rw[if_pos ⟨c,z⟩] at kl;injection kl with z _;omega
 have w1:vH<|{f with ah:=f.ah+1}::r:=⟨hw.1,⟨by show 0<=f.ah+1;have:=hw.2.1.1;omega,by show f.ah+1<=(f.block.length:Int);omega⟩,hw.2.2⟩;have i1:∀b:bz,fe b->b.length=a.b.length->Inv ({f with ah:=f.ah+1}::r) b:=fun b hb hl=>⟨w1,by rw[hl];exact hlen,hb⟩;have QG:6 - (r.length+1)=d:=by omega
 have push:∀(g:Fr) (b:bz),ma d g.block->g.ah=0->(0<=g.turns/\g.turns<=7)->g.kept.length=8->g.ch=false->fe b->b.length=a.b.length->Inv (g::{f with ah:=f.ah+1}::r) b:=fun g b g1 g2 g3 g4 g5 hb hl=>⟨⟨by rw[List.length_cons,QG];exact g1,by rw[g2];omega,g3,g4,fun c=>(by rw[g5] at c;cases c),w1⟩,by show b.length=oU ({f with ah:=f.ah+1}::r)+(if g.ch=true then 1 else 0)+1;rw[g5,hl];exact hlen,hb⟩;refine⟨⟨h.pB hs,hk,f,r,kind,to,ea,eb,bd,el,e,q,⟨hw.2.1.1,fun _=>k2,fun c g r' hb=>?_⟩⟩,?_⟩
 ·obtain⟨b1,b2,b3,_⟩:=Nl hw hb;obtain⟨b4,_⟩:=b1.2.2.2.2.1 b2;exact⟨b4,by omega⟩
 ·unfold zp;rw[e];simp only[q];have l8:∀(z:Int),(a.l.set to.toNat z).length=8:=fun z=>by rw[List.length_set];exact h.l
  by_cases c1:kind=1
  ·rw[if_pos c1];exact wE (a:={a with l:=a.l.set to.toNat<|dv a ea,steps:=a.steps+1}) (l8 _) h.aK h.vars (i1 _ h.inv.buf rfl) Gr
  rw[if_neg c1];by_cases c2:kind=2
  ·rw[if_pos c2];exact wE (a:={a with l:=a.l.set to.toNat (kG a.b<|iI (dv a ea) a.vars).1,steps:=a.steps+1}) (l8 _) h.aK h.vars (i1 _ h.inv.buf rfl) Gr
  rw[if_neg c2];by_cases c3:kind=3
  ·rw[if_pos c3];exact wE (a:={a with steps:=a.steps+1}) h.l h.aK h.vars (i1 _ (MB h.inv.buf _ _)<|HB _ _ _) Gr
  rw[if_neg c3];by_cases c4:kind=4
  ·rw[if_pos c4];exact wE (a:={a with steps:=a.steps+1}) h.l h.aK h.vars (push _ _ (by show ma d (if _ then bd else el);split;exact k3;exact k4) rfl ⟨by show(0:Int)<=0;omega,by show(0:Int)<=7;omega⟩ rfl rfl h.inv.buf rfl) Px
  rw[if_neg c4];by_cases c5:kind=5
  ·rw[if_pos c5];by_cases z:0<kY (dv a ea)
   ·rw[if_pos z];have:=Nj<|dv a ea;exact wE (a:={a with steps:=a.steps+1}) h.l h.aK h.vars (push _ _ k3 rfl ⟨by show 0<=kY _ - 1;omega,by show kY _ - 1<=7;omega⟩ rfl rfl h.inv.buf rfl) Px
   ·rw[if_neg z];exact wE (a:={a with steps:=a.steps+1}) h.l h.aK h.vars (i1 _ h.inv.buf rfl) Gr
  rw[if_neg c5];by_cases c6:kind=6
  ·rw[if_pos c6];cases hb:below (f::r) with
   |none=>exact absurd hb<|n6 c6
   |some p=>
    obtain⟨⟨fb,fa,ft,fo,kept,QH⟩,r'⟩:=p;obtain⟨b1,b2,b3,b4⟩:=Nl hw hb;obtain⟨b5,ol,b6,b7⟩:=b1.2.2.2.2.1 b2;have b6:QH=some ol:=b6;subst b6;have QE:kept.length=8:=b1.2.2.2.1;refine wE (a:={a with l:=kept,steps:=a.steps+1}) QE h.aK h.vars ⟨⟨b7,⟨by show(0:Int)<=0;omega,by show(0:Int)<=_;omega⟩,⟨by show(0:Int)<=0;omega,by show(0:Int)<=7;omega⟩,rfl,fun c=>(by cases c),b1.2.2.2.2.2⟩,?_,NK h.inv.buf ab⟩ ?_
    ·rw[List.length_dropLast];show _=oU r'+(if false=true then 1 else 0)+1;rw[if_neg (by intro c;cases c)];omega
    ·rw[List.length_cons];rw[List.length_cons] at b4;omega
  rw[if_neg c6];by_cases c7:kind=7
  ·rw[if_pos c7];have X3:=h.b6;refine wE (a:={a with steps:=a.steps+1}) h.l h.aK h.vars ⟨⟨by rw[List.length_cons,QG];exact k3,⟨by show(0:Int)<=0;omega,by show(0:Int)<=_;omega⟩,⟨by show(0:Int)<=0;omega,by show(0:Int)<=7;omega⟩,h.l,fun _=>⟨(by intro c;cases c),el,rfl,by rw[List.length_cons,QG];exact k4⟩,w1⟩,?_,NJ h.inv.buf ab⟩ Px;rw[List.length_append];show a.b.length+1=oU ({f with ah:=f.ah+1}::r)+(if true=true then 1 else 0)+1;rw[if_pos rfl,hlen];rfl
  ·exact absurd k1.2 ab
theorem aec(h:lE a)(hs:0<=a.steps/\a.steps<=1000000000000){v:Int}(hk:fp a=(2,v,0))(x:Int):Oy a/\∃a',wP a x=some a'/\lE a'/\a'.steps=a.steps+1/\a'.vars=a.vars/\a'.aK=a.aK:=by
 rcases h.top with e|⟨f,r,e,ht⟩
 ·exfalso;unfold fp at hk;rw[e] at hk;injection hk with q _;omega
 have hw:=h.inv.wf;have hlen:=h.inv.len;rw[e] at hw hlen;have h6:=h.gy;rw[←List.length_reverse,e,List.length_cons] at h6;obtain⟨d,⟨kind,to,ea,eb,bd,el⟩,hd,q,k1,k2,k3,k4⟩:=za hw ht;have k2:0<=to/\to<8:=k2;have w1:vH<|{f with ah:=f.ah+1}::r:=⟨hw.1,⟨by show 0<=f.ah+1;have:=hw.2.1.1;omega,by show f.ah+1<=(f.block.length:Int);omega⟩,hw.2.2⟩;refine⟨⟨h.pB hs,⟨v,hk⟩,f,r,kind,to,ea,eb,bd,el,e,hw.2.1.1,q,k2.1,k2.2⟩,?_⟩;unfold wP;rw[e];simp only[q];exact wE (a:={a with l:=a.l.set to.toNat x,steps:=a.steps+1}) (by rw[List.length_set];exact h.l) h.aK h.vars ⟨w1,hlen,h.inv.buf⟩ Gr
end
end zI
end
section
open Go Go.Rn Go.RowKit Go.Proofs
namespace DK
open cq gw eH gU nh m7 xS zm qE tF eX cz dj Ch vC xo uo qp cO cT fm eR fM fO fU gh fV gi gO gP gZ hU iH iX jI jJ fx gY lV pC pE rL rM zI xy
variable {tx:List St}
def zJ:Nat->Int->List St->Prop
 |0,_,_=>False
 |k+1,n,l=>∀s∈l,mF s n=true/\zJ k n (bF s)/\zJ k n (bB s)
theorem UP{k:Nat}{n:Int}(he:∀l p,fD gu k l (.int .i64 n) (.bool false)=some p->p.ret=true->zJ k n l):∀r p,kL (fD gu k) gu r (.int .i64 n) (.bool false)=some p->p.ret=true->∀s∈r,mF s n=true/\zJ k n (bF s)/\zJ k n (bB s)
 |[],_,_,_,s,hs=>by cases hs
 |t::r,p,h,hp,s,hs=>by
  unfold kL at h;split at h
  ·cases h
  rename_i p1 e1;obtain⟨n',⟨fu,_⟩,hq⟩:=NG e1;injection fu with _ fu
  subst fu;cases QI:mF t n with
  |false=>
   rw[QI,if_neg (by intro q;cases q)] at hq;subst hq;have h:some (pN n)=some p:=h;injection h with h;subst h
   cases hp
  |true=>
   rw[QI,if_pos rfl] at hq;subst hq;have h:(match fD gu k (bF t) (.int .i64 n) (.bool false) with
    |none=>none
    |some q=>match q.ret with
     |false=>some q
     |true=>match fD gu k (bB t) q.v1 q.v2 with
      |none=>none
      |some u=>match u.ret with
       |false=>some u
       |true=>kL (fD gu k) gu r u.v1 u.v2)=some p:=h
   split at h
   ·cases h
   rename_i q2 e2;rcases Aq k _ _ e2 with rfl|rfl
   ·have h:(match fD gu k (bB t) (.int .i64 n) (.bool false) with
     |none=>none
     |some u=>match u.ret with
      |false=>some u
      |true=>kL (fD gu k) gu r u.v1 u.v2)=some p:=h
    split at h
    ·cases h
    rename_i q3 e3;rcases Aq k _ _ e3 with rfl|rfl
    ·have h:kL (fD gu k) gu r (.int .i64 n) (.bool false)=some p:=h;rcases List.mem_cons.1 hs with rfl|hs
     ·exact⟨QI,he _ _ e2 rfl,he _ _ e3 rfl⟩
     ·exact UP he r p h hp s hs
    ·have h:some (pN n)=some p:=h;injection h with h;subst h;cases hp
   ·have h:some (pN n)=some p:=h;injection h with h;subst h;cases hp
theorem AE{n:Int}:∀k l p,fD gu k l (.int .i64 n) (.bool false)=some p->p.ret=true->zJ k n l
 |0,_,_,h,_=>by cases h
 |k+1,l,p,h,hp=>by
  unfold fD at h;split at h
  ·exact UP (AE k) l p h hp
  ·cases h
theorem IU(x y:Int):x<=cK x y/\y<=cK x y:=by
 unfold cK;split<;>rename_i q
 ·have:=of_decide_eq_true q;omega
 ·have:=of_decide_eq_false q;omega
theorem O4{k:Nat}:∀(l:List St) (m:Int),m<=l.foldl (fun m s=>jz (bF s).length (bB s).length m (fc k<|bF s)<|fc k<|bB s) m/\∀s∈l,(bF s≠[]->fc k (bF s)<=l.foldl (fun m s=>jz (bF s).length (bB s).length m (fc k<|bF s)<|fc k<|bB s) m)/\(bB s≠[]->fc k (bB s)<=l.foldl (fun m s=>jz (bF s).length (bB s).length m (fc k<|bF s)<|fc k<|bB s) m)
 |[],m=>⟨Int.le_refl _,fun s h=>by cases h⟩
 |t::l,m=>by
  have one:m<=jz (bF t).length (bB t).length m (fc k<|bF t) (fc k<|bB t)/\(bF t≠[]->fc k (bF t)<=jz (bF t).length (bB t).length m (fc k<|bF t) (fc k<|bB t))/\(bB t≠[]->fc k (bB t)<=jz (bF t).length (bB t).length m (fc k<|bF t) (fc k<|bB t)):=by
   have g1:=IU m<|fc k<|bF t;have g2:=IU (cK m<|fc k<|bF t)<|fc k<|bB t;have g3:=IU m<|fc k<|bB t;unfold jz;by_cases c1:0<(bB t).length<;>by_cases c2:0<(bF t).length
   ·rw[if_pos c1,if_pos c2];exact⟨by omega,fun _=>by omega,fun _=>by omega⟩
   ·rw[if_pos c1,if_neg c2];exact⟨by omega,fun q=>absurd (List.length_pos_iff.2 q) c2,fun _=>by omega⟩
   ·rw[if_neg c1,if_pos c2];exact⟨by omega,fun _=>by omega,fun q=>absurd (List.length_pos_iff.2 q) c1⟩
   ·rw[if_neg c1,if_neg c2];exact⟨Int.le_refl _,fun q=>absurd (List.length_pos_iff.2 q) c2,fun q=>absurd (List.length_pos_iff.2 q) c1⟩
  obtain⟨a1,a2⟩:=O4 (k:=k) l<|jz (bF t).length (bB t).length m (fc k<|bF t)<|fc k<|bB t;rw[List.foldl_cons];refine⟨Int.le_trans one.1 a1,fun s hs=>?_⟩;rcases List.mem_cons.1 hs with rfl|hs
  ·exact⟨fun q=>Int.le_trans (one.2.1 q) a1,fun q=>Int.le_trans (one.2.2 q) a1⟩
  ·exact a2 s hs
theorem Zg{s:St}{n:Int}(h:mF s n=true)(hk:0<=fB s):(1<=fB s/\fB s<=8)/\(0<=DJ s/\DJ s<8):=by
 obtain⟨kind,to,a,b,bd,el⟩:=s;have h:z8 (pQ kind) to a b bd el n=true:=h;have hk:0<=kind:=hk;show(1<=kind/\kind<=8)/\(0<=to/\to<8);have G8:∀l,z8 l to a b bd el n=true->0<=to/\to<8:=fun l h=>by
  unfold z8 at h;split at h
  ·obtain⟨_,h⟩:=and_true.1 h;obtain⟨h,_⟩:=and_true.1 h;exact of_decide_eq_true h
  ·cases h
 refine⟨?_,G8 _ h⟩;by_cases c:kind<=8
 ·refine⟨?_,c⟩;by_cases c0:kind=0
  ·subst c0;exfalso;have e:pQ 0=[false,false,false,false,false,false]:=rfl;rw[e] at h;cases h
  ·omega
 ·exfalso;have e:pQ kind=[false,false,false,false,false,false]:=by unfold pQ;rw[List.getD_eq_getElem?_getD,List.getElem?_eq_none (show KX.length<=kind.toNat by show 9<=kind.toNat;omega)];rfl
  rw[e] at h;cases h
def GC:Nat->List St->Prop
 |0,_=>True
 |k+1,l=>∀s∈l,0<=fB s/\GC k (bF s)/\GC k (bB s)
theorem O5{n:Int}:∀(d k:Nat) (l:List St),lh k l=true->zJ k n l->GC k l->fc k l<=d->ma d l
 |_,0,_,h,_,_,_=>by cases h
 |0,k+1,l,_,_,_,h=>by have h:l.foldl _ 0+1<=(0:Int):=h;have:=(O4 (k:=k) l 0).1;omega
 |d+1,k+1,l,hc,ha,hp,h=>by
  have h:l.foldl (fun m s=>jz (bF s).length (bB s).length m (fc k<|bF s)<|fc k<|bB s) 0+1<=((d+1:Nat):Int):=h;obtain⟨c1,c2⟩:=and_true.1 (show(decide (l.length<=1000000)&&l.all fun s=>lh k (bF s)&&lh k (bB s))=true from hc);refine⟨of_decide_eq_true c1,fun s hs=>?_⟩;obtain⟨a1,a2,a3⟩:=ha s hs;obtain⟨p1,p2,p3⟩:=hp s hs;obtain⟨e1,e2⟩:=and_true.1<|List.all_eq_true.1 c2 s hs;obtain⟨g1,g2⟩:=(O4 (k:=k) l 0).2 s hs;obtain⟨q1,q2⟩:=Zg a1 p1;refine⟨q1,q2,?_,?_⟩
  ·by_cases z:bF s=[]
   ·rw[z];exact UO d
   ·have:=g1 z;exact O5 d k _ e1 a2 p2 ab
  ·by_cases z:bB s=[]
   ·rw[z];exact UO d
   ·have:=g2 z;exact O5 d k _ e2 a3 p3 ab
theorem afL{n:Int}(h:xT tx n true)(hc:lh 60 tx=true)(hp:GC 60 tx):ma 6 tx:=by obtain⟨c1,c2,p,_,e,hb⟩:=h;obtain⟨h1,h2⟩:=and_true.1 hb.symm;obtain⟨h2,_⟩:=and_true.1 h2;have h1:=of_decide_eq_true h1;exact O5 6 60 tx hc (AE 60 tx p e h2) hp h1.2.2.1
theorem aed{vars:Int}{aK:List Int}(h:ma 6 tx)(hg:aK.length<=1000)(hv:1<=vars/\vars<=32):∃st bb,jP 1000 [xz tx] [[]]=some (st,bb)/\lE ⟨vars,aK,Z8,bb,st.reverse,0⟩:=by
 have hi:Inv [xz tx] [[]]:=⟨⟨h,⟨by show(0:Int)<=0;omega,by show(0:Int)<=_;omega⟩,⟨by show(0:Int)<=0;omega,by show(0:Int)<=7;omega⟩,rfl,fun c=>(by cases c),trivial⟩,rfl,Of⟩;obtain⟨aZ,b',e,i,_⟩:=EL 1000 _ _ hi (by have:=NR hi.wf;have l1:[xz tx].length=1:=rfl;omega);refine⟨aZ,b',e,?_,rfl,?_,hg,hv⟩
 ·show Inv aZ.reverse.reverse b';rw[List.reverse_reverse];exact i
 ·show aZ.reverse.reverse=[]\/∃f r,aZ.reverse.reverse=f::r/\_;rw[List.reverse_reverse];exact Cx _ _ _ _ _ e
end DK
end
