import Derived.Test.YthjiifomjmdjbaaGreatDoorAtGK
import Derived.Test.YthjiifomjmdjbaaGreatDoorRnGH
import Derived.Test.YthjiifomjmdjbaaGreatDoorAtGJ
set_option maxRecDepth 100000
set_option maxHeartbeats 8000000
set_option linter.unusedSimpArgs false
set_option linter.unusedVariables false
section
open Go Go.Rn Go.RowKit Go.Proofs
namespace gZ
open cq eX cz dj cO cT fm eR fM fO fU fV gi gO gP gh
variable {uq:VS} {u' u:AV} {fs:List Fr} {c:Nat} {a:MN} {B:aJ}
noncomputable section
def av(l:List Fr)(z:Int):Fr:=l.getD z.toNat default
theorem jj{l:List Fr}{z:Int}(h0:0<=z)(h:z<(l.length:Int)):l[z.toNat]? =some (av l z):=by
 have hz:z.toNat<l.length:=by omega
 unfold av;rw[List.getD_eq_getElem?_getD,List.getElem?_eq_getElem hz];rfl
theorem MD:fN<=273:=aL.1 aW
theorem O2{st:VS}{y Y:AV}{s:AS}(h:uq=st)(e:Y=y)(h1:s.h.get 270=some (bO<|dQ st.R 271 272))(h2:s.h.get 271=some (.tok 3 st.u))(h3:s.h.get 272=some (bO st.row)):Y=y/\∀m o,(m,o)∈dC 270 3 uq->s.h.get m=some o:=by subst h;exact nM e h1 h2 h3
noncomputable abbrev Dc(a:MN)(n c:Nat)(u:AV)(fs:List Fr):List<|Nat×Option ae:=ar++[(270,some<|.cells 13 (Tr.fill (a.row (.ptr<|some (271,0)) (.slice (some (272,0)) (n)<|.ak c 13)<|i6 a.steps) 0 .nil) []),(271,(some<|.tok 3 u)),(272,(some<|aN aH<|fs.set ((n:Int) - 1).toNat ({(av fs<|(n:Int) - 1) with ah:=0,turns:=((av fs<|(n:Int) - 1).turns - 1)}:Fr)))]
noncomputable abbrev Bj(a:MN)(n c:Nat)(u:AV)(fs:List Fr):VS:=(⟨⟨a.pre,n,(.ak c 13),[.int .i64 a.steps]⟩,u,((fs.set ((n:Int) - 1).toNat ({(av fs<|(n:Int) - 1) with ah:=0,turns:=((av fs<|(n:Int) - 1).turns - 1)}:Fr)).map aH).flatten⟩:VS)
noncomputable abbrev FJ(a:MN)(n c:Nat)(u:AV)(fs:List Fr):List<|Nat×Option ae:=ar++[(270,some<|.cells 13 (Tr.fill (a.row (.ptr<|some (271,0)) (.slice (some (272,0)) ((((n:Int) - 1)).toNat)<|.ak c 13)<|i6 a.steps) 0 .nil) []),(271,(some<|.tok 3 u)),(272,(some<|aN aH fs))]
noncomputable abbrev FK(a:MN)(n c:Nat)(u':AV)(fs:List Fr):List<|Nat×Option ae:=ar++[(270,some<|.cells 13 (Tr.fill (a.row (.ptr<|some (271,0)) (.slice (some (272,0)) ((((n:Int) - 1)).toNat)<|.ak c 13)<|i6 a.steps) 0 .nil) []),(271,(some<|.tok 3 u')),(272,(some<|aN aH fs))]
noncomputable abbrev FL(a:MN)(n c:Nat)(u:AV)(fs:List Fr):List<|Nat×Option ae:=ar++[(270,some<|.cells 13 (Tr.fill (a.row (.ptr<|some (271,0)) (.slice (some (272,0)) (n)<|.ak c 13)<|i6 a.steps) 0 .nil) []),(271,(some<|.tok 3 u)),(272,(some<|aN aH fs))]
noncomputable abbrev uT(a:MN)(n c:Nat)(u:AV)(fs:List Fr):VS:=(⟨⟨a.pre,n,(.ak c 13),[.int .i64 a.steps]⟩,u,(fs.map aH).flatten⟩:VS)
noncomputable abbrev FN(a:MN)(n c:Nat)(u:AV)(fs:List Fr):AS:=aq (ar++bu (dC 270 3 (⟨⟨a.pre,((n:Int) - 1).toNat,(.ak c 13),[.int .i64 a.steps]⟩,u,(fs.map aH).flatten⟩:VS))) 273
noncomputable abbrev FO(a:MN)(n c:Nat)(u':AV)(fs:List Fr):AS:=aq (ar++bu (dC 270 3 (⟨⟨a.pre,((n:Int) - 1).toNat,(.ak c 13),[.int .i64 a.steps]⟩,u',(fs.map aH).flatten⟩:VS))) 273
noncomputable abbrev Oi(fs:List Fr)(n:Nat):Fr:=({(av fs<|(n:Int) - 1) with ah:=(av fs<|(n:Int) - 1).ah,turns:=((av fs<|(n:Int) - 1).turns - 1)}:Fr)
theorem DH{n:Nat}(mc:Mt [CW] B)(hn:n<=fs.length)(hc:n<=c)(hf:fs.length<=1000000)(hR:fs.length*13<=top)(aD:0<=(av fs<|(n:Int) - 1).turns/\(av fs<|(n:Int) - 1).turns<=1000000)(hm:(0<(n:Int)/\¬((av fs<|(n:Int) - 1).ah<(((av fs<|(n:Int) - 1).block.length:Nat):Int))/\¬(0<(av fs<|(n:Int) - 1).turns)/\(av fs<|(n:Int) - 1).ch=true)->fj (dX bW IF) u []=some ((.int .i64 0:AV),u'))(E0:¬(0<(n:Int))->uq=(uT a n c u fs))(E1:0<(n:Int)->(av fs<|(n:Int) - 1).ah<(((av fs<|(n:Int) - 1).block.length:Nat):Int)->uq=(uT a n c u fs))(E2:0<(n:Int)->¬((av fs<|(n:Int) - 1).ah<(((av fs<|(n:Int) - 1).block.length:Nat):Int))->0<(av fs<|(n:Int) - 1).turns->0<(((av fs<|(n:Int) - 1).block.length:Nat):Int)->uq=(Bj a n c u fs))(H1:(0<(n:Int)/\¬((av fs<|(n:Int) - 1).ah<(((av fs<|(n:Int) - 1).block.length:Nat):Int))/\0<(av fs<|(n:Int) - 1).turns/\¬(0<(((av fs<|(n:Int) - 1).block.length:Nat):Int)))->au pg B 273 (gV 270 3 pg (az Tryz.f62) (.tuple []) uq) (⟨62,aS [(0,.ptr<|some (270,0))],(max Tryz.f62.ntmps 1),[.code<|a9 pg 62 [0,0],.inLoop<|a9 pg 62 [0,0],.inBlock 0],[],none⟩:AF) (aq (ar++bu (dC 270 3<|Bj a n c u fs)) 273))(H2:(0<(n:Int)/\¬((av fs<|(n:Int) - 1).ah<(((av fs<|(n:Int) - 1).block.length:Nat):Int))/\¬(0<(av fs<|(n:Int) - 1).turns)/\(av fs<|(n:Int) - 1).ch=true)->au pg B 273 (gV 270 3 pg (az Tryz.f62) (.tuple []) uq) (⟨62,aS [(0,.ptr<|some (270,0))],(max Tryz.f62.ntmps 1),[.code<|a9 pg 62 [0,0],.inLoop<|a9 pg 62 [0,0],.inBlock 0],[],none⟩:AF) (FO a n c u' fs))(H3:(0<(n:Int)/\¬((av fs<|(n:Int) - 1).ah<(((av fs<|(n:Int) - 1).block.length:Nat):Int))/\¬(0<(av fs<|(n:Int) - 1).turns)/\(av fs<|(n:Int) - 1).ch=false)->au pg B 273 (gV 270 3 pg (az Tryz.f62) (.tuple []) uq) (⟨62,aS [(0,.ptr<|some (270,0))],(max Tryz.f62.ntmps 1),[.code<|a9 pg 62 [0,0],.inLoop<|a9 pg 62 [0,0],.inBlock 0],[],none⟩:AF) (FN a n c u fs)):au pg B 273 (gV 270 3 pg (az Tryz.f62) (.tuple []) uq) (⟨62,aS [(0,.ptr<|some (270,0))],(max Tryz.f62.ntmps 1),[.code<|a9 pg 62 [0,0],.inLoop<|a9 pg 62 [0,0],.inBlock 0],[],none⟩:AF)<|aq (ar++bu (dC 270 3<|uT a n c u fs)) 273:=by
 exact wZ (E:=qP [CW]) (C:=(fun fr s1 _=>fr=(⟨62,aS [(0,.ptr<|some (270,0))],(max Tryz.f62.ntmps 1),[.code<|a9 pg 62 [0,0],.inLoop<|a9 pg 62 [0,0],.inBlock 0],[],none⟩:AF)/\(((0<(n:Int)/\¬((av fs<|(n:Int) - 1).ah<(((av fs<|(n:Int) - 1).block.length:Nat):Int))/\0<(av fs<|(n:Int) - 1).turns/\¬(0<(((av fs<|(n:Int) - 1).block.length:Nat):Int)))/\s1=(aq (ar++bu (dC 270 3<|Bj a n c u fs)) 273))\/((0<(n:Int)/\¬((av fs<|(n:Int) - 1).ah<(((av fs<|(n:Int) - 1).block.length:Nat):Int))/\¬(0<(av fs<|(n:Int) - 1).turns)/\(av fs<|(n:Int) - 1).ch=true)/\s1=(FO a n c u' fs))\/((0<(n:Int)/\¬((av fs<|(n:Int) - 1).ah<(((av fs<|(n:Int) - 1).block.length:Nat):Int))/\¬(0<(av fs<|(n:Int) - 1).turns)/\(av fs<|(n:Int) - 1).ch=false)/\s1=(FN a n c u fs))))) eY rfl bV mc.2.2.1 mc.2.2.2 MD rfl mc.1 (fun fr s1 p hC=>by
  obtain⟨rfl,hC⟩:=hC;rcases hC with⟨h,rfl⟩|⟨h,rfl⟩|⟨h,rfl⟩
  ·exact H1 h
  ·exact H2 h
  ·exact H3 h) 900 (.st 2<|.rg<|.go 5<|.fk (.en<|.st 4<|.rg<|.go 9<|.vl (i6<|(n:Int) - 1)<|.ix<|.go 1<|.en<|.st 3<|.rg<|.go 3<|.ld [(i6<|(av fs<|(n:Int) - 1).ah)]<|.go 3<|.ld [(.U (nm ((av fs<|(n:Int) - 1).block.map aM).flatten) 0 (av fs<|(n:Int) - 1).block.length)]<|.go 1<|.fk (.go 1<|.en<|.rt 2 .no)<|.go 1<|.en<|.st 2<|.rg<|.go 3<|.ld [(i6<|(av fs<|(n:Int) - 1).turns)]<|.fk (.go 1<|.en<|.st 2<|.rg<|.go 5<|.ld [(i6<|(av fs<|(n:Int) - 1).turns)]<|.vl (i6<|(av fs<|(n:Int) - 1).turns - 1)<|.go 2<|.l6 (aN aH<|fs.set ((n:Int) - 1).toNat<|Oi fs n)<|.go 2<|.l6 (aN aH<|fs.set ((n:Int) - 1).toNat ({(av fs<|(n:Int) - 1) with ah:=0,turns:=((av fs<|(n:Int) - 1).turns - 1)}:Fr))<|.en<|.st 2<|.rg<|.go 3<|.ld [(.U (nm ((av fs<|(n:Int) - 1).block.map aM).flatten) 0 (av fs<|(n:Int) - 1).block.length)]<|.go 1<|.fk (.en<|.rt 2 .no)<|.en<|.st 4<|.ls [(0,.ptr<|some (270,0))] (Dc a n c u fs) 273 .no)<|.go 1<|.en<|.st 2<|.rg<|.go 3<|.Xg ((av fs<|(n:Int) - 1).ch) (.go 1<|.en<|.st 1<|.rg<|.go 4<|.kt i0 u'<|.en<|.st 1<|.rg<|.go 10<|.vl (i6<|(n:Int) - 1)<|.so<|.go 3<|.en<|.st 2<|.ls [(0,.ptr<|some (270,0))] (FK a n c u' fs) 273 .no)<|.go 1<|.en<|.st 3<|.rg<|.go 10<|.vl (i6<|(n:Int) - 1)<|.so<|.go 3<|.en<|.st 2<|.ls [(0,.ptr<|some (270,0))] (FJ a n c u fs) 273 .no)<|.en<|.rt 3 .no)
  (ax ((n:Int)>0) (fun _=>(ai (wI<|(n:Int) - 1)
  (dq ((n:Int) - 1) (n:Int)
  (ai (ke fy hR (jj (l:=fs) (z:=((n:Int) - 1)) ab ab) 1 1 rfl)
  (ai (ke fy hR (jj (l:=fs) (z:=((n:Int) - 1)) ab ab) 0 1 rfl)
  (ax ((av fs<|(n:Int) - 1).ah<(((av fs<|(n:Int) - 1).block.length:Nat):Int)) (fun _=>(O2 (st:=(uT a n c u fs)) (s:=aq (FL a n c u fs) 273) (E1 ab ab) (show((.tuple []):AV)= .tuple [] from rfl) cN cN cN))
  (fun _=>(ai (ke fy hR (jj (l:=fs) (z:=((n:Int) - 1)) ab ab) 2 1 rfl)
  (ax ((av fs<|(n:Int) - 1).turns>0) (fun _=>(ai (ke fy hR (jj (l:=fs) (z:=((n:Int) - 1)) ab ab) 2 1 rfl)
  (ai (wI<|(av fs<|(n:Int) - 1).turns - 1)
  (ai (qc fy hR (jj (l:=fs) (z:=((n:Int) - 1)) ab ab) (c':=(Oi fs n)) (r:=[(i6<|((av fs<|(n:Int) - 1).turns - 1))]) 2 rfl rfl rfl)
  (ai (acZ fy hR (jj (l:=fs) (z:=((n:Int) - 1)) ab ab) (c:=(Oi fs n)) (c':=({(av fs<|(n:Int) - 1) with ah:=0,turns:=((av fs<|(n:Int) - 1).turns - 1)}:Fr)) (r:=[i0]) 1 rfl rfl rfl)
  (ai (acY fy hR (jj (l:=fs) (z:=((n:Int) - 1)) ab ab) (c:=({(av fs<|(n:Int) - 1) with ah:=0,turns:=((av fs<|(n:Int) - 1).turns - 1)}:Fr)) 0 1 rfl)
  (ax ((((av fs<|(n:Int) - 1).block.length:Nat):Int)>0) (fun _=>(O2 (st:=(Bj a n c u fs)) (s:=aq (Dc a n c u fs) 273) (E2 ab ab ab ab) (show((.tuple []):AV)= .tuple [] from rfl) cN cN cN))
  (fun _=>(ai (mS [(0,.ptr<|some (270,0))])<|ai (mO<|Dc a n c u fs)<|ai (rX (⟨62,aS [(0,.ptr<|some (270,0))],(max Tryz.f62.ntmps 1),[.code<|a9 pg 62 [0,0],.inLoop<|a9 pg 62 [0,0],.inBlock 0],[],none⟩:AF)) (show((0<(n:Int)/\¬((av fs<|(n:Int) - 1).ah<(((av fs<|(n:Int) - 1).block.length:Nat):Int))/\0<(av fs<|(n:Int) - 1).turns/\¬(0<(((av fs<|(n:Int) - 1).block.length:Nat):Int)))/\(aq (Dc a n c u fs) 273)=(aq (ar++bu (dC 270 3<|Bj a n c u fs)) 273))\/((0<(n:Int)/\¬((av fs<|(n:Int) - 1).ah<(((av fs<|(n:Int) - 1).block.length:Nat):Int))/\¬(0<(av fs<|(n:Int) - 1).turns)/\(av fs<|(n:Int) - 1).ch=true)/\(aq (Dc a n c u fs) 273)=(FO a n c u' fs))\/((0<(n:Int)/\¬((av fs<|(n:Int) - 1).ah<(((av fs<|(n:Int) - 1).block.length:Nat):Int))/\¬(0<(av fs<|(n:Int) - 1).turns)/\(av fs<|(n:Int) - 1).ch=false)/\(aq (Dc a n c u fs) 273)=(FN a n c u fs)) from Or.inl<|ai (show(0<(n:Int)/\¬((av fs<|(n:Int) - 1).ah<(((av fs<|(n:Int) - 1).block.length:Nat):Int))/\0<(av fs<|(n:Int) - 1).turns/\¬(0<(((av fs<|(n:Int) - 1).block.length:Nat):Int))) from⟨by omega,by omega,by omega,by omega⟩) cN))))))))))
  (fun _=>(ai (ke fy hR (jj (l:=fs) (z:=((n:Int) - 1)) ab ab) 3 1 rfl) (tfb ((av fs<|(n:Int) - 1).ch) (fun h5=>(ai (hm ⟨by omega,by omega,by omega,h5⟩)
  (ai (wI<|(n:Int) - 1)
  (ai (show(0:Int)=0 from rfl)<|ai (show 0<=((n:Int) - 1) from ab) (ai (show((n:Int) - 1)<=Int.ofNat (iR n<|.ak c 13) from(show((n:Int) - 1)<=(c:Int) from by omega))
  (ai (mS [(0,.ptr<|some (270,0))])<|ai (mO<|FK a n c u' fs)<|ai (rX (⟨62,aS [(0,.ptr<|some (270,0))],(max Tryz.f62.ntmps 1),[.code<|a9 pg 62 [0,0],.inLoop<|a9 pg 62 [0,0],.inBlock 0],[],none⟩:AF)) (show((0<(n:Int)/\¬((av fs<|(n:Int) - 1).ah<(((av fs<|(n:Int) - 1).block.length:Nat):Int))/\0<(av fs<|(n:Int) - 1).turns/\¬(0<(((av fs<|(n:Int) - 1).block.length:Nat):Int)))/\(aq (FK a n c u' fs) 273)=(aq (ar++bu (dC 270 3<|Bj a n c u fs)) 273))\/((0<(n:Int)/\¬((av fs<|(n:Int) - 1).ah<(((av fs<|(n:Int) - 1).block.length:Nat):Int))/\¬(0<(av fs<|(n:Int) - 1).turns)/\(av fs<|(n:Int) - 1).ch=true)/\(aq (FK a n c u' fs) 273)=(FO a n c u' fs))\/((0<(n:Int)/\¬((av fs<|(n:Int) - 1).ah<(((av fs<|(n:Int) - 1).block.length:Nat):Int))/\¬(0<(av fs<|(n:Int) - 1).turns)/\(av fs<|(n:Int) - 1).ch=false)/\(aq (FK a n c u' fs) 273)=(FN a n c u fs)) from Or.inr<|Or.inl<|ai (show(0<(n:Int)/\¬((av fs<|(n:Int) - 1).ah<(((av fs<|(n:Int) - 1).block.length:Nat):Int))/\¬(0<(av fs<|(n:Int) - 1).turns)/\(av fs<|(n:Int) - 1).ch=true) from⟨by omega,by omega,by omega,h5⟩) cN)))))))
  (fun h5=>(ai (wI<|(n:Int) - 1)
  (ai (show(0:Int)=0 from rfl)<|ai (show 0<=((n:Int) - 1) from ab) (ai (show((n:Int) - 1)<=Int.ofNat (iR n<|.ak c 13) from(show((n:Int) - 1)<=(c:Int) from by omega))
  (ai (mS [(0,.ptr<|some (270,0))])<|ai (mO<|FJ a n c u fs)<|ai (rX (⟨62,aS [(0,.ptr<|some (270,0))],(max Tryz.f62.ntmps 1),[.code<|a9 pg 62 [0,0],.inLoop<|a9 pg 62 [0,0],.inBlock 0],[],none⟩:AF)) (show((0<(n:Int)/\¬((av fs<|(n:Int) - 1).ah<(((av fs<|(n:Int) - 1).block.length:Nat):Int))/\0<(av fs<|(n:Int) - 1).turns/\¬(0<(((av fs<|(n:Int) - 1).block.length:Nat):Int)))/\(aq (FJ a n c u fs) 273)=(aq (ar++bu (dC 270 3<|Bj a n c u fs)) 273))\/((0<(n:Int)/\¬((av fs<|(n:Int) - 1).ah<(((av fs<|(n:Int) - 1).block.length:Nat):Int))/\¬(0<(av fs<|(n:Int) - 1).turns)/\(av fs<|(n:Int) - 1).ch=true)/\(aq (FJ a n c u fs) 273)=(FO a n c u' fs))\/((0<(n:Int)/\¬((av fs<|(n:Int) - 1).ah<(((av fs<|(n:Int) - 1).block.length:Nat):Int))/\¬(0<(av fs<|(n:Int) - 1).turns)/\(av fs<|(n:Int) - 1).ch=false)/\(aq (FJ a n c u fs) 273)=(FN a n c u fs)) from Or.inr<|Or.inr<|ai (show(0<(n:Int)/\¬((av fs<|(n:Int) - 1).ah<(((av fs<|(n:Int) - 1).block.length:Nat):Int))/\¬(0<(av fs<|(n:Int) - 1).turns)/\(av fs<|(n:Int) - 1).ch=false) from⟨by omega,by omega,by omega,h5⟩) cN))))))))))))))))))
  (fun _=>(O2 (st:=(uT a n c u fs)) (s:=aq (FL a n c u fs) 273) (E0 ab) (show((.tuple []):AV)= .tuple [] from rfl) cN cN cN)))
abbrev frS:AF:=(⟨62,aS [(0,.ptr<|some (270,0))],(max Tryz.f62.ntmps 1),[.code<|a9 pg 62 [0,0],.inLoop<|a9 pg 62 [0,0],.inBlock 0],[],none⟩:AF)
abbrev EC(a:MN)(n c:Nat)(u:AV)(fs:List Fr):VS:=(uT a n c u fs)
theorem afC{n:Nat}{u':AV}(mc:Mt [CW] B)(H:au pg B 273 (gV 270 3 pg (az Tryz.f62) (.tuple []) uq) (⟨62,aS [(0,.ptr<|some (270,0))],(max Tryz.f62.ntmps 1),[.code<|a9 pg 62 [0,0],.inLoop<|a9 pg 62 [0,0],.inBlock 0],[],none⟩:AF)<|aq (ar++bu (dC 270 3<|uT a n c u fs)) 273):au pg B 273 (gV 270 3 pg (az Tryz.f62) (.tuple []) uq) (sF 62 Tryz.f62 [.ptr<|some (270,0)])<|aq (ar++bu (dC 270 3<|uT a n c u fs)) 273:=by
 exact wZ (E:=qP [CW]) (C:=(fun fr s1 _=>fr=(⟨62,aS [(0,.ptr<|some (270,0))],(max Tryz.f62.ntmps 1),[.code<|a9 pg 62 [0,0],.inLoop<|a9 pg 62 [0,0],.inBlock 0],[],none⟩:AF)/\s1=(aq (ar++bu (dC 270 3<|uT a n c u fs)) 273))) eY rfl bV mc.2.2.1 mc.2.2.2 MD rfl mc.1 (fun fr s1 p hC=>by
  obtain⟨rfl,rfl⟩:=hC;exact H) 900 (.st 2<|.ls [(0,.ptr<|some (270,0))] (FL a n c u fs) 273 .no)
  (ai (mS [(0,.ptr<|some (270,0))])<|ai (mO<|FL a n c u fs)<|ai (rX (⟨62,aS [(0,.ptr<|some (270,0))],(max Tryz.f62.ntmps 1),[.code<|a9 pg 62 [0,0],.inLoop<|a9 pg 62 [0,0],.inBlock 0],[],none⟩:AF)) (show(aq (FL a n c u fs) 273)=(aq (ar++bu (dC 270 3<|uT a n c u fs)) 273) from cN))
end
end gZ
end
section
open Go Go.Rn Go.RowKit Go.Proofs
namespace hU
open cq eX cz dj cO cT fm eR fM fO fU fV gi gO gP gZ gh
variable {fs:List Fr}
def om:Nat->Nat->List Fr->bz->Option (Nat×List Fr×bz)
  |0,_,_,_=>none
  | k +1,n,fs,b=>if n=0 then some (n,fs,b) else
    let f:=av fs<|(n:Int) - 1
    if f.ah<(f.block.length:Int) then some (n,fs,b)
    else if 0<f.turns then
      let cZ:=fs.set ((n:Int) - 1).toNat {f with ah:=0,turns:=f.turns - 1}
      if 0<(f.block.length:Int) then some (n,cZ,b) else om k n cZ b
    else if f.ch=true then(if 2<=b.length then om k ((n:Int) - 1).toNat fs (gQ b) else none)
    else om k ((n:Int) - 1).toNat fs b
def ij(fs:List Fr):Prop:=∀f∈fs,(0<=f.turns/\f.turns<=1000000)/\f.kept.length=8
theorem ij.at(h:ij fs)(z:Int):0<=(av fs z).turns/\(av fs z).turns<=1000000:=by
 unfold av;by_cases q:z.toNat<fs.length
 ·rw[List.getD_eq_getElem?_getD,List.getElem?_eq_getElem q];exact(h _<|List.getElem_mem q).1
 ·rw[List.getD_eq_getElem?_getD,List.getElem?_eq_none ab];show(0:Int)<=0/\(0:Int)<=1000000;omega
theorem ij.kept(h:ij fs){z:Int}(h0:0<=z)(hz:z<(fs.length:Int)):(av fs z).kept.length=8:=(h _<|List.mem_of_getElem?<|jj h0 hz).2
theorem ij.set(h:ij fs){i:Nat}{f:Fr}(hf:(0<=f.turns/\f.turns<=1000000)/\f.kept.length=8):ij<|fs.set i f:=fun g hg=>by
 rcases List.mem_or_eq_of_mem_set hg with q|q
 ·exact h g q
 ·rw[q];exact hf
theorem LR{b:bz}(h:fe b)(h2:2<=b.length):fj (dX bW IF) (bW b) []=some ((.int .i64 0:AV),bW<|gQ b):=by
 unfold fj;rw[AN wB];show(match ([]:List AV).all AV.hi with
  |true=>((if 2<=List.length b then some ((AV.int .i64 0:AV),gQ b) else none).map (fun p:AV×bz=>((p.1,bW p.2):AV×AV))).bind fun p:AV×AV=>match p.1.hi with
   |true=>some p
   |false=>none
  |false=>none)=_
 rw[if_pos h2];rfl
theorem HC{B:aJ}(mc:Mt [CW] B){a:MN}{c:Nat}{n':Nat}{cZ:List Fr}{b':bz}:∀(k n:Nat) (fs:List Fr) (b:bz),om k n fs b=some (n',cZ,b')->fe b->ij fs->n<=fs.length->n<=c->fs.length<=1000000->
 au pg B 273 (gV 270 3 pg (az Tryz.f62) (.tuple [])<|EC a n' c (bW b') cZ) frS (aq (ar++bu (dC 270 3<|EC a n c (bW b) fs)) 273)
 |0,n,fs,b,h,_,_,_,_,_=>by cases h
 |k+1,n,fs,b,h,hb,hf,hn,hc,hl=>by
  unfold om at h;have aD:=hf.at<|(n:Int) - 1;have Ga:n≠0->∀f:Fr,f={av fs ((n:Int) - 1) with ah:=0,turns:=(av fs<|(n:Int) - 1).turns - 1}->0<(av fs<|(n:Int) - 1).turns->ij (fs.set ((n:Int) - 1).toNat f):=fun oM f e h0=>hf.set (by subst e;refine⟨?_,hf.kept (z:=(n:Int) - 1) ab ab⟩;show 0<=(av fs<|(n:Int) - 1).turns - 1/\(av fs<|(n:Int) - 1).turns - 1<=1000000;omega);by_cases n0:n=0
  ·rw[if_pos n0] at h;injection h with h;injection h with e1 h;injection h with e2 e3
   subst e1;subst e2;subst e3;exact DH (u':=.tuple []) mc hn hc hl (by have:top=549755813888:=rfl;omega) aD (fun q=>absurd q.1 ab) (fun _=>rfl) (fun _ _=>rfl) (fun q _ _ _=>absurd q ab) (fun q=>absurd q.1 ab) (fun q=>absurd q.1 ab) fun q=>absurd q.1 ab
  ·rw[if_neg n0] at h;simp only at h;have hz:((n:Int) - 1).toNat<=n:=by omega
   have hr:fs.length*13<=top:=by have:top=549755813888:=rfl;omega
   by_cases a1:(av fs<|(n:Int) - 1).ah<(((av fs<|(n:Int) - 1).block.length:Nat):Int)
   ·rw[if_pos a1] at h;injection h with h;injection h with e1 h;injection h with e2 e3
    subst e1;subst e2;subst e3;exact DH (u':=.tuple []) mc hn hc hl hr aD (fun q=>absurd a1 q.2.1) (fun _=>rfl) (fun _ _=>rfl) (fun _ q _ _=>absurd a1 q) (fun q=>absurd a1 q.2.1) (fun q=>absurd a1 q.2.1) fun q=>absurd a1 q.2.1
   ·rw[if_neg a1] at h;by_cases a2:0<(av fs<|(n:Int) - 1).turns
    ·rw[if_pos a2] at h;by_cases a3:0<(((av fs<|(n:Int) - 1).block.length:Nat):Int)
     ·rw[if_pos a3] at h;injection h with h;injection h with e1 h;injection h with e2 e3
      subst e1;subst e2;subst e3;exact DH (u':=.tuple []) mc hn hc hl hr aD (fun q=>absurd a2 q.2.2.1) (fun q=>absurd q ab) (fun _ q=>absurd q a1) (fun _ _ _ _=>rfl) (fun q=>absurd a3 q.2.2.2) (fun q=>absurd a2 q.2.2.1) fun q=>absurd a2 q.2.2.1
     ·rw[if_neg a3] at h;have ih:=HC (c:=c) (a:=a) mc k n _ b h hb (Ga n0 _ rfl a2) (by rw[List.length_set];exact hn) hc (by rw[List.length_set];exact hl);exact DH (u':=.tuple []) mc hn hc hl hr aD (fun q=>absurd a2 q.2.2.1) (fun q=>absurd q ab) (fun _ q=>absurd q a1) (fun _ _ _ q=>absurd q a3) (fun _=>ih) (fun q=>absurd a2 q.2.2.1) fun q=>absurd a2 q.2.2.1
    ·rw[if_neg a2] at h;by_cases a4:(av fs<|(n:Int) - 1).ch=true
     ·rw[if_pos a4] at h;by_cases a5:2<=b.length
      ·rw[if_pos a5] at h;have ih:=HC (c:=c) (a:=a) mc k _ fs _ h (Ih hb a5) hf ab ab hl;exact DH (u':=bW<|gQ b) mc hn hc hl hr aD (fun _=>LR hb a5) (fun q=>absurd q ab) (fun _ q=>absurd q a1) (fun _ _ q _=>absurd q a2) (fun q=>absurd q.2.2.1 a2) (fun _=>ih) (fun q=>by rw[a4] at q;cases q.2.2.2)
      ·rw[if_neg a5] at h;cases h
     ·rw[if_neg a4] at h;have ih:=HC (c:=c) (a:=a) mc k _ fs b h hb hf ab ab hl;exact DH (u':=.tuple []) mc hn hc hl hr aD (fun q=>absurd q.2.2.2 a4) (fun q=>absurd q ab) (fun _ q=>absurd q a1) (fun _ _ q _=>absurd q a2) (fun q=>absurd q.2.2.1 a2) (fun q=>absurd q.2.2.2 a4) fun _=>ih
theorem Lu:∀(k m n:Nat) (fs:List Fr) (b:bz) (r:Nat×List Fr×bz),om k n fs b=some r->k<=m->om m n fs b=some r
 |0,_,_,_,_,_,h,_=>by cases h
 |k+1,0,_,_,_,_,_,hm=>by omega
 |k+1,m+1,n,fs,b,r,h,hm=>by
  have ih:=fun n fs b h=>Lu k m n fs b r h ab;unfold om at h ⊢;simp only at h ⊢;split at h
  ·rename_i q;rw[if_pos q];exact h
  ·rename_i q;rw[if_neg q];split at h
   ·rename_i q;rw[if_pos q];exact h
   ·rename_i q;rw[if_neg q];split at h
    ·rename_i q;rw[if_pos q];split at h
     ·rename_i q;rw[if_pos q];exact h
     ·rename_i q;rw[if_neg q];exact ih _ _ _ h
    ·rename_i q;rw[if_neg q];split at h
     ·rename_i q;rw[if_pos q];split at h
      ·rename_i q;rw[if_pos q];exact ih _ _ _ h
      ·cases h
     ·rename_i q;rw[if_neg q];exact ih _ _ _ h
theorem Jq:∀l:List Int,l.length=8->l=[l.getD 0 0,l.getD 1 0,l.getD 2 0,l.getD 3 0,l.getD 4 0,l.getD 5 0,l.getD 6 0,l.getD 7 0]
 |[a,b,c,d,e,f,g,h],_=>rfl
theorem aaZ(f g:Fr)(hf:f.kept.length=8)(hg:g.kept.length=8)(h:aH f=aH g):f=g:=by
 obtain⟨a1,a2,a3,a4,a5,a6⟩:=f;obtain⟨b1,b2,b3,b4,b5,b6⟩:=g;simp only[aH,eight,List.cons_append,List.nil_append,List.cons.injEq,AV.int.injEq,AV.bool.injEq,true_and,_root_.and_true] at h;obtain⟨h1,rfl,rfl,rfl,c0,c1,c2,c3,c4,c5,c6,c7,h6⟩:=h;rw[Mv h1,Uo h6];have e:a5=b5:=by rw[Jq a5 hf,Jq b5 hg,c0,c1,c2,c3,c4,c5,c6,c7]
 rw[e]
theorem Fi:∀(l m:List Fr),ij l->ij m->(l.map aH).flatten=(m.map aH).flatten->l=m
 |[],[],_,_,_=>rfl
 |[],y::m,_,_,h=>by have:=congrArg List.length h;simp only[List.map_nil,List.flatten_nil,List.length_nil,List.map_cons,List.flatten_cons,List.length_append,fy] at this;omega
 |x::l,[],_,_,h=>by have:=congrArg List.length h;simp only[List.map_nil,List.flatten_nil,List.length_nil,List.map_cons,List.flatten_cons,List.length_append,fy] at this;omega
 |x::l,y::m,hl,hm,h=>by rw[List.map_cons,List.map_cons,List.flatten_cons,List.flatten_cons] at h;obtain⟨e1,e2⟩:=List.append_inj h (by rw[fy,fy]);rw[aaZ x y (hl x List.mem_cons_self).2 (hm y List.mem_cons_self).2 e1,Fi l m (fun f hf=>hl f<|List.mem_cons_of_mem _ hf) (fun f hf=>hm f<|List.mem_cons_of_mem _ hf) e2]
def eJ(st:VS)(rest:List AV)(p:AV×VS):Prop:=∃(a:MN) (n c k n':Nat) (fs cZ:List Fr) (b b':bz),si st a/\rest=[]/\st.R.len=n/\st.R.cap= .ak c 13/\st.u=bW b/\st.row=(fs.map aH).flatten/\fe b/\ij fs/\n<=fs.length/\n<=c/\fs.length<=1000000/\om k n fs b=some (n',cZ,b')/\p=(.tuple [],⟨⟨st.R.pre,n',.ak c 13,st.R.post⟩,bW b',(cZ.map aH).flatten⟩)
theorem eJ.bT(st:VS)(rest:List AV)(v v':AV×VS)(h:eJ st rest v)(h':eJ st rest v'):v=v':=by
 obtain⟨a,n,c,k,n',fs,cZ,b,b',_,_,e1,e2,e3,e4,_,f1,_,_,_,s1,rfl⟩:=h;obtain⟨a1,m,d,j,m',gs,gs',b1,Xo,_,_,g1,g2,g3,g4,_,f2,_,_,_,s2,rfl⟩:=h';rw[e1] at g1;subst g1;rw[e2] at g2;injection g2 with g2
 subst g2;rw[e3] at g3;have e:=wB _ _ g3;subst e;rw[e4] at g4;have e:=Fi _ _ f1 f2 g4;subst e;have q1:=Lu k (max k j) _ _ _ _ s1<|Nat.le_max_left _ _;have q2:=Lu j (max k j) _ _ _ _ s2<|Nat.le_max_right _ _;rw[q1] at q2;injection q2 with q2;injection q2 with q2 q3;injection q3 with q3 q4
 rw[q2,q3,q4]
noncomputable def yL:FuncId×KE:=(62,.raw<|m8 10 3<|dH eJ)
theorem R3(hP:bE pg){L:bY}(h:aV L):aV<|yL::L:=by
 refine Ig hP hJ xU iT iz lT lB h (Z0 hP<|cP) Tryz.func62 (body:=a9 pg 62 []) aW aW fun st rest y aZ e=>?_;obtain⟨a,n,c,k,n',fs,cZ,b,b',⟨h1,h2,h3⟩,rfl,e1,e2,e3,e4,hb,hf,hn,hc,hl,hs,hp⟩:=IG e;injection hp with jd fL
 subst jd;subst fL;refine⟨aL.1 aW,fun B mc=>?_⟩;obtain⟨⟨pre,len,cap,post⟩,u,row⟩:=st;simp only at h1 h2 e1 e2 e3 e4;subst h1;subst h2;subst e1;subst e2;subst e3;subst e4;exact afC (u':=.tuple []) mc<|HC mc k _ fs b hs hb hf hn hc hl
end hU
end
section
open Go Go.Rn Go.RowKit Go.Proofs
namespace iH
open cq eX cz dj cO cT fm eR fM fO fU fV gi gO gP gZ hU gh tP
variable {j nt:Nat} {s:AS} {t:Tr AV} {T:Prop} {K:List Item}
noncomputable section
def K9:Code:=a9 pg 52 [1,0,1,0,0]
def we:Code:=a9 pg 52 [1,0,1,0,1]
def yp:List<|Nat×AV:=[(2,(.ptr<|some (273,0))),(9,(.func (.func 91) [] [(.ptr<|some (274,0))]))]
def KI:List Item:=[.inBlock 0,.code<|a9 pg 52 [1,1]]
def ur(st:LoopState)(p:Option Code):ae:=.loop st p 52 (aS yp) 15 [10,11] K9 we 275
def oW(o0 o1 o2:ae)(r:Int)(sl:AV)(lo:ae)(js:List<|Nat×Option ae):List<|Nat×Option ae:=ar++([(270,some o0),(271,some o1),(272,some o2),(273,some<|.cells 1 (Tr.fill [.int .i64 r] 0 .nil) []),(274,some<|.cells 1 (Tr.fill [sl] 0 .nil) []),(275,some .defs),(276,some lo)]++js)
abbrev kv(L:bY):Env:=xQ pg 270 eK dV L 270 false
def O3(P:Program)(Ye:aI)(rs:List ResultVar)(k l:Nat)(fr:AF)(s:AS):Option<|AV×Option ae×Option ae×Option ae:=match Gu P Ye rs k l fr s with
 |some (v,s2)=>some (v,s2.h.get 270,s2.h.get 271,s2.h.get 272)
 |none=>none
theorem aa0{P:Program}{Ye:aI}{l:Nat}{B:aJ}{J k:Nat}{rs:List ResultVar}{fr:AF}{v:AV}{R:AV->AS->Prop}{o0 o1 o2:ae}(bV:P.follows .mixedOrders=true)(hc:fQ P B Ye)(hl:∀t a,Yd<|Ye t a)(h1:fr.round=none)(h2:fr.defers=[])(h:O3 P Ye rs k l fr s=some (v,some o0,some o1,some o2))(hR:∀s2:AS,s2.h.get 270=some o0->s2.h.get 271=some o1->s2.h.get 272=some o2->R v s2):GD P Ye B J (Fin P rs R) l fr s:=by
 unfold O3 at h;split at h
 ·rename_i v2 s2 e;injection h with h;injection h with h3 h;injection h with h4 h;injection h with h5 h6
  subst h3;exact M9 bV hc hl h1 h2 e<|hR _ h4 h5 h6
 ·cases h
abbrev bX(cs:List AV):Option ae:=some<|.cells 13 (Tr.fill cs 0 .nil) []
def QA:List AV:=[.slice none 0<|.known 0,.int .i64 0,.int .i64 0,.bool false,.int .i64 0,.int .i64 0,.int .i64 0,.int .i64 0,.int .i64 0,.int .i64 0,.int .i64 0,.int .i64 0,.slice none 0<|.known 0]
theorem WQ(f:Fr):xh (bX QA) 0 (aH f)=bX (aH f):=by have e:=Mu f;show(match (Nat.ble (0+13) 13&&(Nat.ble 13 top&&(aH f).all AV.cj)) with|true=>some (ae.cells 13 (Tr.fill (aH f) 0<|Tr.fill QA 0 .nil) [])|false=>none)=_;rw[e];kernel_rfl
def iD(fs:List Fr):Nat->Int
 |0=> -1
 |n+1=>if(av fs (n:Int)).ch=true then(n:Int) else iD fs n
theorem ahm{l:List Fr}{z:Int}{b:Bool}(h:(av l z).ch=b)(h0:0<=z)(h1:z<(l.length:Int)):l[z.toNat]? =some ({av l z with ch:=b}:Fr):=by subst h;exact jj h0 h1
def RW(B:aJ)(R:AV->AS->Prop)(v:AV)(s:AS):Prop:=v= .tuple []/\∃p s4,lN 276 s= .ok p s4/\au pg B 273 (Fin pg (az Tryz.f52) R) ⟨52,aS yp,15,andThen p KI,[275],none⟩ s4
def jsL(b:Nat->Option ae)(j:Nat):List<|Nat×Option ae:=(List.range j).map fun k=>(277+k,b k)
def BO(b:Nat->Option ae)(j:Nat)(o:Option ae)(k:Nat):Option ae:=match Nat.beq k j with
 |true=>o
 |false=>b k
def rI(t:Bool)(i:Int):Int:=match t with
 |true=>i
 |false=>0
def QB(t:Bool):ae:=match t with
 |true=>ur .done<|some .ret
 |false=>ur .ready none
abbrev sJ(o0 o1 o2:ae)(r:Int)(sl:AV)(lo:ae)(b:Nat->Option ae)(j:Nat):AS:=aq (oW o0 o1 o2 r sl lo<|jsL b j)<|277+j
abbrev ED(i:Int)(cs:List AV)(m:Nat):Tr AV:=aS [(2,(.ptr<|some (273,0))),(3,(i6 i)),(4,(.ptr<|some (m,0))),(9,(.func (.func 91) [] [(.ptr<|some (274,0))])),(10,(i6 i)),(11,(.agg cs))]
section
variable {o0 o1 o2:ae} {sl:AV} {f:Fr} {i:Int} {b:Nat->Option ae} {B:aJ} {R:AV->AS->Prop} {fs:List Fr} {n c:Nat} {d:Nat->AV}
abbrev sA(o0 o1 o2:ae)(sl:AV)(b:Nat->Option ae)(j:Nat):AS:=sJ o0 o1 o2 0 sl (ur .ready none) b j
abbrev sE(o0 o1 o2:ae)(sl:AV)(f:Fr)(i:Int)(b:Nat->Option ae)(t:Bool)(j:Nat):AS:=sJ o0 o1 o2 (rI t i) sl (QB t) (BO b j<|bX<|aH {f with ch:=t})<|j+1
abbrev PG(o0 o1 o2:ae)(sl:AV)(f:Fr)(i:Int)(b:Nat->Option ae)(t:Bool)(j:Nat):Prop:=bg pg (sp []) FU 5 (.round 276) [.int .i64 i,.agg<|aH {f with ch:=t}] (sA o0 o1 o2 sl b j)= .ok (.bool !t) (sE o0 o1 o2 sl f i b t j)
theorem aiQ(t:Bool)(j:Nat)(k1:getLoop 276 (sA o0 o1 o2 sl b j)= .ok (.loop .ready none 52 (aS yp) 15 [10,11] K9 we 275) (sA o0 o1 o2 sl b j):=by as_aux_lemma=>kernel_rfl)(k2:((xh (bX QA) 0 (aH {f with ch:=t})=bX (aH {f with ch:=t}))/\((⟨52,ED i (aH {f with ch:=t})<|277+j,15,[.beginRound,.code we],[],none⟩:AF)=⟨52,ED i (aH {f with ch:=t})<|277+j,15,[.beginRound,.code we],[],none⟩/\sJ o0 o1 o2 0 sl (ur .ready none) (BO b j<|bX<|aH {f with ch:=t}) (j+1)=sJ o0 o1 o2 0 sl (ur .ready none) (BO b j<|bX<|aH {f with ch:=t}) (j+1)))=
 wp (kv []) 900 4 (.fr 52 15 [.code K9,.beginRound,.code we] (jB [10,11] [.int .i64 i,.agg<|aH {f with ch:=t}]<|aS yp)<|sA o0 o1 o2 sl b j) (.st 2<|.rg<|.go 1<|.l6 (.cells 13 (Tr.fill (aH {f with ch:=t}) 0 .nil) [])<|.en<|.cut .no) [] (fun _ _ _=>False) (fun fr s1 _=>fr=⟨52,ED i (aH {f with ch:=t})<|277+j,15,[.beginRound,.code we],[],none⟩/\s1=sJ o0 o1 o2 0 sl (ur .ready none) (BO b j<|bX<|aH {f with ch:=t}) (j+1)):=by as_aux_lemma=>kernel_rfl)(k3:dW pg (bg pg (sp []) FU 4) 1 ⟨52,ED i (aH {f with ch:=t})<|277+j,15,[.beginRound,.code we],[],some 276⟩ (sJ o0 o1 o2 0 sl (ur .ready none) (BO b j<|bX<|aH {f with ch:=t})<|j+1)= .ok (.go ⟨52,ED i (aH {f with ch:=t})<|277+j,15,[.code we],[],some 276⟩) (sJ o0 o1 o2 0 sl (ur .busy none) (BO b j<|bX<|aH {f with ch:=t})<|j+1):=by as_aux_lemma=>kernel_rfl)(k4:((none:Option Nat)=none/\([]:List Nat)=[]/\(some (.bool !t,sE o0 o1 o2 sl f i b t j):Option<|AV×AS)=some (.bool !t,sE o0 o1 o2 sl f i b t j))=
 wp (kv []) 900 4 (.fr 52 15 [.code we] (ED i (aH {f with ch:=t})<|277+j)<|sJ o0 o1 o2 0 sl (ur .busy none) (BO b j<|bX<|aH {f with ch:=t})<|j+1) (.st 6<|.cut .no) [] (fun _ _ _=>False) (fun fr s1 _=>fr.round=none/\fr.defers=[]/\AP pg (bg pg (sp []) FU 4) 276 fr s1=some (.bool !t,sE o0 o1 o2 sl f i b t j)):=by as_aux_lemma=>kernel_rfl):PG o0 o1 o2 sl f i b t j:=
 EK k1 rfl (CM (E:=kv []) eY rfl (fun fr s p h=>by obtain⟨rfl,rfl⟩:=h;exact⟨rfl,rfl,Chunk.ev 1 _ _ _ _ k3<|CM (E:=kv []) eY rfl (fun fr s p h=>EJ h.1 h.2.1 h.2.2) 900 _ (G3 _ _) k4⟩) 900 _ ⟨WQ _,rfl,rfl⟩ k2)
theorem ach(t:Bool)(hj:j<6):PG o0 o1 o2 sl f i b t j:=by rcases(by omega:j=0\/j=1\/j=2\/j=3\/j=4\/j=5) with rfl|rfl|rfl|rfl|rfl|rfl<;>cases t<;>exact aiQ _ _
def nD:Nat->Nat
 |0=>3
 |_=>15
abbrev fJ(j:Nat)(i:Int)(d:Nat->AV):AF:=⟨91,aS<|[(0,(.yield 276)),(1,(.ptr<|some (274,0))),(3,(.int .i64 i))]++(List.range<|nD j).map fun k=>(4+k,d k),19,[.code<|a9 pg 91 [1,0,0],.inLoop<|a9 pg 91 [1,0,0],.inBlock 0],[],none⟩
abbrev wg(B:aJ)(R:AV->AS->Prop)(fr:AF)(s:AS):Prop:=pL (kv []) 5 (az Tryz.f91) (RW B R) fr s
theorem XX{B:aJ}{R:AV->AS->Prop}{f:Nat}{FR:AF}{S1:AS}(H:wg B R FR S1)(p:Pl)(x:T)(h:T=wp (kv []) 900 5 (.fr f nt K t s) p (az Tryz.f91) (fun v s _=>RW B R v s) (fun fr s1 _=>fr=FR/\s1=S1):=by as_aux_lemma=>kernel_rfl):wg B R ⟨f,t,nt,K,[],none⟩ s:=Dv (C:=fun fr s1 _=>fr=FR/\s1=S1) eY rfl (fun fr s1 p h=>by obtain⟨rfl,rfl⟩:=h;exact H) 900 p x h
theorem XY{B:aJ}{R:AV->AS->Prop}{f:Nat}(p:Pl)(x:T)(h:T=wp (kv []) 900 5 (.fr f nt K t s) p (az Tryz.f91) (fun v s _=>RW B R v s) (fun _ _ _=>False):=by as_aux_lemma=>kernel_rfl):wg B R ⟨f,t,nt,K,[],none⟩ s:=Dv (C:=fun _ _ _=>False) eY rfl (fun _ _ _ h=>h.elim) 900 p x h
abbrev iN(n c:Nat):AV:=.slice (some (272,0)) n<|.ak c 13
theorem XZ(t:Bool)(mc:Mt [] B){v:Int}(hR:∀s2:AS,s2.h.get 270=some o0->s2.h.get 271=some o1->s2.h.get 272=some (aN aH fs)->R (.int .i64 v) s2)(p:Option Code)(k1:lN 276 (sJ o0 o1 (aN aH fs) (rI t i) (iN n c) (QB t) b j)= .ok p (sJ o0 o1 (aN aH fs) (rI t i) (iN n c) (ur .exhausted p) b j):=by as_aux_lemma=>kernel_rfl)(k2:O3 pg (bg pg (sp []) FU 6) (az Tryz.f52) 8 275 ⟨52,aS yp,15,andThen p KI,[],none⟩ (sJ o0 o1 (aN aH fs) (rI t i) (iN n c) (ur .exhausted p) b j)=some (.int .i64 v,some o0,some o1,some<|aN aH fs):=by as_aux_lemma=>kernel_rfl):RW B R (.tuple [])<|sJ o0 o1 (aN aH fs) (rI t i) (iN n c) (QB t) b j:=⟨rfl,p,_,k1,(aa0 (l:=275) (k:=8) (fr:=⟨52,aS yp,15,andThen p KI,[],none⟩) (v:=.int .i64 v) (o0:=o0) (o1:=o1) (o2:=aN aH fs) bV mc.2.2.1 mc.2.2.2 rfl rfl k2 hR).2.2 (by show 273<=277+j;omega)⟩
theorem bkE(hi:i<0)(hL:RW B R (.tuple [])<|sA o0 o1 (aN aH fs) (iN n c) b j)(k:((i>=0->False)/\(¬i>=0->RW B R (.tuple []) (sA o0 o1 (aN aH fs) (iN n c) b j)))=wp (kv []) 900 5 (.fr 91 19 (fJ j i d).todo (fJ j i d).tmps<|sA o0 o1 (aN aH fs) (iN n c) b j) (.st 2<|.rg<|.go 1<|.fk (.no)<|.en<|.rt 3 .no) (az Tryz.f91) (fun v s _=>RW B R v s) (fun _ _ _=>False):=by as_aux_lemma=>kernel_rfl):wg B R (fJ j i d)<|sA o0 o1 (aN aH fs) (iN n c) b j:=XY _ ⟨fun h=>by omega,fun _=>hL⟩ k
abbrev QC(o0 o1:ae)(fs:List Fr)(n c:Nat)(i:Int)(b:Nat->Option ae)(t:Bool)(j:Nat)(P:Prop):Prop:=((i>=0->((0:Int)<=i/\i<(n:Int)/\(cellsOf (some<|aN aH fs) (i.toNat*13+0) 13=some (((aH {(av fs i) with ch:=t}).drop 0).take 13)/\(PG o0 o1 (aN aH fs) (iN n c) (av fs i) i b t j/\P))))/\(¬i>=0->False))
theorem X0{t:Bool}{P:Prop}(hj:j<6)(hi:0<=i/\i<n/\n<=fs.length)(hR:fs.length*13<=top)(cS:(av fs i).ch=t)(x:P):QC o0 o1 fs n c i b t j P:=⟨fun _=>⟨hi.1,hi.2.1,ke fy hR (ahm (l:=fs) (z:=i) cS hi.1 ab) 0 13 rfl,ach t hj,x⟩,fun h=>h hi.1⟩
theorem bkT(hj:j<6)(hi:0<=i/\i<n/\n<=fs.length)(hR:fs.length*13<=top)(cS:(av fs i).ch=true)(hL:RW B R (.tuple [])<|sE o0 o1 (aN aH fs) (iN n c) (av fs i) i b true j)(k:QC o0 o1 fs n c i b true j (RW B R (.tuple [])<|sE o0 o1 (aN aH fs) (iN n c) (av fs i) i b true j)=wp (kv []) 900 5 (.fr 91 19 (fJ j i d).todo (fJ j i d).tmps<|sA o0 o1 (aN aH fs) (iN n c) b j) (.st 2<|.rg<|.go 1<|.fk (.en<|.st 5<|.rg<|.go 4<|.ix<|.ld (aH {(av fs i) with ch:=true})<|.cy (.bool false) (sE o0 o1 (aN aH fs) (iN n c) (av fs i) i b true j)<|.go 1<|.en<|.rt 2 .no)<|.no) (az Tryz.f91) (fun v s _=>RW B R v s) (fun _ _ _=>False):=by as_aux_lemma=>kernel_rfl):wg B R (fJ j i d)<|sA o0 o1 (aN aH fs) (iN n c) b j:=XY _ (X0 hj hi hR cS hL) k
def dN(d:Nat->AV)(fs:List Fr)(n c:Nat)(i:Int)(k:Nat):AV:=[d 0,d 1,d 2,.int .i64 i,.bool true,.int .i64 i,.int .i64<|i - 1,.yield 276,.int .i64 i,iN n c,.int .i64 i,.ptr<|some (272,i.toNat*13+0),.agg<|aH {(av fs i) with ch:=false},.bool true,.bool false].getD k<|.bool false
theorem bkF(hj:j<6)(hi:0<=i/\i<n/\n<=fs.length)(hf:fs.length<=1000000)(hR:fs.length*13<=top)(cS:(av fs i).ch=false)(H:wg B R (fJ (j+1) (i - 1)<|dN d fs n c i)<|sE o0 o1 (aN aH fs) (iN n c) (av fs i) i b false j)(k:QC o0 o1 fs n c i b false j ((AV.int .i64 (IntKind.wrap .i64<|i - 1)= .int .i64 (i - 1))/\(fJ (j+1) (i - 1) (dN d fs n c i)=fJ (j+1) (i - 1) (dN d fs n c i)/\sE o0 o1 (aN aH fs) (iN n c) (av fs i) i b false j=sE o0 o1 (aN aH fs) (iN n c) (av fs i) i b false j))=wp (kv []) 900 5 (.fr 91 19 (fJ j i d).todo (fJ j i d).tmps<|sA o0 o1 (aN aH fs) (iN n c) b j) (.st 2<|.rg<|.go 1<|.fk (.en<|.st 5<|.rg<|.go 4<|.ix<|.ld (aH {(av fs i) with ch:=false})<|.cy (.bool true) (sE o0 o1 (aN aH fs) (iN n c) (av fs i) i b false j)<|.go 1<|.en<|.st 3<|.rg<|.go 1<|.vl (i6<|i - 1)<|.go 1<|.en<|.st 1<|.cut .no)<|.no) (az Tryz.f91) (fun v s _=>RW B R v s) (fun fr s1 _=>fr=fJ (j+1) (i - 1) (dN d fs n c i)/\s1=sE o0 o1 (aN aH fs) (iN n c) (av fs i) i b false j):=by as_aux_lemma=>kernel_rfl):wg B R (fJ j i d)<|sA o0 o1 (aN aH fs) (iN n c) b j:=XX H _ (X0 hj hi hR cS ⟨wI _,rfl,rfl⟩) k
theorem UG(mc:Mt [] B)(hl:n<=fs.length)(hf:fs.length<=1000000):∀(m j:Nat) (b:Nat->Option ae) (d:Nat->AV),j+m<=6->m<=n->(∀s2:AS,s2.h.get 270=some o0->s2.h.get 271=some o1->s2.h.get 272=some (aN aH fs)->R (i6<|iD fs m) s2)->wg B R (fJ j ((m:Int) - 1) d) (sA o0 o1 (aN aH fs) (iN n c) b j)
 |0,j,b,d,h6,_,hQ=>by rcases(by omega:j=0\/j=1\/j=2\/j=3\/j=4\/j=5\/j=6) with rfl|rfl|rfl|rfl|rfl|rfl|rfl<;>exact bkE ab<|XZ (i:=0) false mc hQ none
 |m+1,j,b,d,h6,hn,hQ=>by
  have hR:fs.length*13<=top:=by have:top=549755813888:=rfl;omega
  have e:(((m+1:Nat):Int) - 1)=(m:Int):=by omega
  rw[e];cases cS:(av fs (m:Int)).ch with
  |true=>rw[show iD fs (m+1)=(m:Int) from if_pos cS] at hQ;rcases(by omega:j=0\/j=1\/j=2\/j=3\/j=4\/j=5) with rfl|rfl|rfl|rfl|rfl|rfl<;>exact bkT ab ⟨by omega,by omega,hl⟩ hR cS<|XZ true mc hQ<|some .ret
  |false=>rw[show iD fs (m+1)=iD fs m from if_neg (by rw[cS];intro q;cases q)] at hQ;have ih:=fun b d=>UG mc hl hf m (j+1) b d ab ab hQ;rcases(by omega:j=0\/j=1\/j=2\/j=3\/j=4\/j=5) with rfl|rfl|rfl|rfl|rfl|rfl<;>exact bkF ab ⟨by omega,by omega,hl⟩ hf hR cS<|ih _ _
def d0(n c k:Nat):AV:=[iN n c,.int .i64 (n:Int),.int .i64<|(n:Int) - 1].getD k<|.bool false
theorem aiR(hn:n<=1000000)(H:wg B R (fJ 0 ((n:Int) - 1)<|d0 n c)<|sA o0 o1 (aN aH fs) (iN n c) b 0):wg B R (sF 91 Tryz.f91 [.yield 276,.ptr<|some (274,0)])<|sA o0 o1 (aN aH fs) (iN n c) b 0:=XX H (.st 1<|.rg<|.go 2<|.vl (i6<|(n:Int) - 1)<|.go 1<|.en<|.st 2<|.cut .no)<|ai (wI<|(n:Int) - 1)<|ai (rX<|fJ 0 ((n:Int) - 1)<|d0 n c)<|rX<|sA o0 o1 (aN aH fs) (iN n c) b 0
end
theorem Bp:a9 pg 52 [1,0,1,0]= .rangeFunc (.tmp 9) #[10,11] K9 we:=by kernel_rfl
abbrev X1(a:MN)(n c:Nat):ae:=.cells 13 (Tr.fill (a.row (.ptr<|some (271,0)) (iN n c)<|i6 a.steps) 0 .nil) []
abbrev He(a:MN)(n c:Nat)(u:AV)(fs:List Fr):List<|Nat×Option ae:=ar++[(270,some<|X1 a n c),(271,some<|.tok 3 u),(272,some<|aN aH fs),(273,some<|.cells 1 (Tr.fill [.int .i64 0] 0 .nil) []),(274,some<|.cells 1 (Tr.fill [iN n c] 0 .nil) [])]
abbrev QD:AF:=⟨52,aS yp,15,.code (a9 pg 52 [1,0,1,0])::KI,[],none⟩
abbrev j0(a:MN)(n c:Nat)(u:AV)(fs:List Fr):VS:=⟨⟨a.pre,n,.ak c 13,[.int .i64 a.steps]⟩,u,(fs.map aH).flatten⟩
theorem afD{B:aJ}{a:MN}{n c:Nat}{u:AV}{fs:List Fr}(mc:Mt [] B)(X2:n<=6)(hl:n<=fs.length)(hf:fs.length<=1000000):au pg B 273 (gV 270 3 pg (az Tryz.f52) (i6<|iD fs n)<|j0 a n c u fs) (sF 52 Tryz.f52 [.ptr<|some (270,0)])<|aq (ar++bu (dC 270 3<|j0 a n c u fs)) 273:=by refine wZ (E:=qP []) (C:=fun fr s1 _=>fr=QD/\s1=aq (He a n c u fs) 275) eY rfl bV mc.2.2.1 mc.2.2.2 MD rfl mc.1 (fun fr s1 p hC=>?_) 900 (.st 4<|.rg<|.go 4<|.il<|.rt 5<|.en<|.st 1<|.ls yp (He a n c u fs) 275 .no)<|ai (mS yp)<|ai (mO<|He a n c u fs)<|ai (rX QD)<|rX<|aq (He a n c u fs) 275;obtain⟨rfl,rfl⟩:=hC;unfold QD;rw[Bp];obtain⟨v,s2,h1,rfl,p,s4,h5,H⟩:=pL.call (E:=(kv [])) (n:=5) Tryz.func91 (CG Tryz.func91 cN)<|aiR (b:=fun _=>none) (c:=c) ab<|UG (o0:=X1 a n c) (o1:=.tok 3 u) (R:=fun(y1:AV) (s':AS)=>y1= .int .i64 (iD fs n)/\∀m o,(m,o)∈dC 270 3 (j0 a n c u fs)->s'.h.get m=some o) mc hl hf n 0 _ _ ab (Nat.le_refl n) fun s2 a b d=>nM rfl a b d;exact au.chunk bV mc.2.2.1 mc.2.2.2 (H8 (gv:=.func (.func 91) [] [.ptr<|some (274,0)]) (s1:=aq (He a n c u fs++[(275,some .defs)]) 276) cN cN cN h1 h5) (by show 273<=275;omega) H
def qY(st:VS)(rest:List AV)(v:AV):Prop:=∃(a:MN) (n c:Nat) (fs:List Fr),si st a/\rest=[]/\st.R.len=n/\st.R.cap= .ak c 13/\st.row=(fs.map aH).flatten/\ij fs/\n<=6/\n<=fs.length/\fs.length<=1000000/\v= .int .i64 (iD fs n)
theorem qY.bT(st:VS)(rest:List AV)(v v':AV)(h:qY st rest v)(h':qY st rest v'):v=v':=by obtain⟨a,n,c,fs,_,_,rfl,_,e4,f1,_,_,_,rfl⟩:=h;obtain⟨a1,m,d,gs,_,_,rfl,_,g4,f2,_,_,_,rfl⟩:=h';rw[e4] at g4;rw[Fi _ _ f1 f2 g4]
def mf:FuncId×KE:=(52,.raw<|m9 10 3<|vR qY)
theorem LU(hP:bE pg){L:bY}(h:aV L):aV<|mf::L:=by refine EY hP hJ xU iT iz lT lB h cP Tryz.func52 (body:=a9 pg 52 []) aW aW fun st rest y e _=>?_;obtain⟨a,n,c,fs,⟨h1,h2,h3⟩,rfl,e1,e2,e4,_,X2,hl,hf,rfl⟩:=FI e;refine⟨aL.1 aW,fun B mc=>?_⟩;obtain⟨⟨pre,len,cap,post⟩,u,row⟩:=st;simp only at h1 h2 e1 e2 e4;subst h1;subst h2;subst e1;subst e2;subst e4;exact afD mc X2 hl hf
end
end iH
end
section
open Go Go.Rn Go.RowKit Go.Proofs
namespace iX
open cq eX cz dj cO cT fm eR fM fO fU fV gi gO gP gZ hU iH gh
variable {fs:List Fr} {u:AV} {to aE nn n2 kind:Int} {c N4 N3 N2 N L4 L3 L2 L:Nat} {a:MN} {B:aJ}
noncomputable section
def qu(o:Option St):AV:=match o with
 |none=>.tuple [.agg [.int .u8 0,.int .i64 0,.int .u8 0,.int .i64 0,.slice none 0<|.known 0,.int .u8 0,.int .i64 0,.slice none 0<|.known 0,.slice none 0<|.known 0,.slice none 0<|.known 0],.bool false]
 |some s=>.tuple [.agg<|aM s,.bool true]
def zH(fs:List Fr)(n:Nat):Fr:=av fs<|(n:Int) - 1
def mJ(fs:List Fr)(n:Nat)(o:Option St):Prop:=(n=0/\o=none)\/(1<=n/\0<=(zH fs n).ah/\∃s,(zH fs n).block[(zH fs n).ah.toNat]? =some s/\o=some s)
theorem mJ.bT{n:Nat}{o o':Option St}(h:mJ fs n o)(h':mJ fs n o'):o=o':=by
 rcases h with⟨a,b⟩|⟨a,_,s,b,e⟩<;>rcases h' with⟨a',b'⟩|⟨a',_,s',b',e'⟩
 ·rw[b,b']
 ·omega
 ·omega
 ·rw[b] at b';injection b' with b';rw[e,e',b']
noncomputable abbrev Dd(a:MN)(n c:Nat)(u:AV)(fs:List Fr):VS:=(⟨⟨a.pre,n,(.ak c 13),[.int .i64 a.steps]⟩,u,(fs.map aH).flatten⟩:VS)
noncomputable abbrev De(kind to op nn:Int)(N L:Nat)(aE n2:Int)(N2 L2 N3 L3 N4 L4:Nat):List AV:=[(u8<|kind),(i6 to),(u8<|op),(i6 nn),(.U N 0 L),(u8<|aE),(i6 n2),(.U N2 0 L2),(.U N3 0 L3),(.U N4 0 L4)]
theorem aiS{n:Nat}{op:Int}(mc:Mt [] B)(h1:1<=n)(hn:n<=fs.length)(hf:fs.length<=1000000)(hR:fs.length*13<=top)(aD:0<=(av fs<|(n:Int) - 1).ah/\(av fs<|(n:Int) - 1).ah<(((av fs<|(n:Int) - 1).block.length:Nat):Int))(hx:cX FU (nm ((av fs<|(n:Int) - 1).block.map aM).flatten) (0+(av fs<|(n:Int) - 1).ah.toNat*10+0) 10=some (De kind to op nn N L aE n2 N2 L2 N3 L3 N4 L4)):au pg B 273 (gV 270 3 pg (az Tryz.f50) (.tuple [.agg<|De kind to op nn N L aE n2 N2 L2 N3 L3 N4 L4,.bool true])<|Dd a n c u fs) (sF 50 Tryz.f50 [.ptr<|some (270,0)])<|aq (ar++bu (dC 270 3<|Dd a n c u fs)) 273:=by exact mh (E:=qP []) eY rfl bV mc.2.2.1 mc.2.2.2 900 (.st 4<|.rg<|.go 5<|.fk (.no)<|.en<|.st 3<|.rg<|.go 9<|.vl (i6<|(n:Int) - 1)<|.ix<|.ld (aH<|av fs<|(n:Int) - 1)<|.go 1<|.l6 (.cells 13 (Tr.fill (aH<|av fs<|(n:Int) - 1) 0 .nil) [])<|.en<|.st 1<|.rg<|.go 4<|.fF<|.fG (De kind to op nn N L aE n2 N2 L2 N3 L3 N4 L4)<|.go 2<|.en<|.rt 1 .no)<|ax ((n:Int)=0) bh fun _=>(ai (wI<|(n:Int) - 1)<|dq ((n:Int) - 1) (n:Int)<|ai (ke fy hR (jj (l:=fs) (z:=((n:Int) - 1)) ab ab) 0 13 rfl)<|ai (WQ<|av fs<|(n:Int) - 1)<|dq ((av fs<|(n:Int) - 1).ah) (((av fs<|(n:Int) - 1).block.length:Nat):Int)<|ai (show top<=nm ((av fs<|(n:Int) - 1).block.map aM).flatten from dU _)<|ai hx<|nM (st:=(Dd a n c u fs)) (s:=aq (ar++[(270,some<|.cells 13 (Tr.fill (a.row (.ptr<|some (271,0)) (.slice (some (272,0)) (n)<|.ak c 13)<|i6 a.steps) 0 .nil) []),(271,(some<|.tok 3 u)),(272,(some<|aN aH fs)),(273,some<|.cells 10 (Tr.fill (De kind to op nn N L aE n2 N2 L2 N3 L3 N4 L4) 0 .nil) []),(274,some<|.cells 13 (Tr.fill (aH<|av fs<|(n:Int) - 1) 0 .nil) [])]) 275) (show((.tuple [(.agg<|De kind to op nn N L aE n2 N2 L2 N3 L3 N4 L4),(.bool true)]):AV)=(.tuple [.agg<|De kind to op nn N L aE n2 N2 L2 N3 L3 N4 L4,.bool true]) from rfl) ct ct ct)
noncomputable abbrev Vm:AV:=.tuple [.agg [.int .u8 0,.int .i64 0,.int .u8 0,.int .i64 0,.slice none 0<|.known 0,.int .u8 0,.int .i64 0,.slice none 0<|.known 0,.slice none 0<|.known 0,.slice none 0<|.known 0],.bool false]
theorem aiT{n:Nat}{N L N2 L2 N3 L3 N4 L4:Nat}{kind to op nn aE n2:Int}(mc:Mt [] B)(h1:n=0):au pg B 273 (gV 270 3 pg (az Tryz.f50) Vm<|Dd a n c u fs) (sF 50 Tryz.f50 [.ptr<|some (270,0)])<|aq (ar++bu (dC 270 3<|Dd a n c u fs)) 273:=by exact mh (E:=qP []) eY rfl bV mc.2.2.1 mc.2.2.2 900 (.st 4<|.rg<|.go 5<|.fk (.en<|.rt 4 .no)<|.no)<|ax ((n:Int)=0) (fun _=>(nM (st:=(Dd a n c u fs)) (s:=aq (ar++[(270,some<|.cells 13 (Tr.fill (a.row (.ptr<|some (271,0)) (.slice (some (272,0)) (n)<|.ak c 13)<|i6 a.steps) 0 .nil) []),(271,(some<|.tok 3 u)),(272,(some<|aN aH fs)),(273,some<|.cells 10 (Tr.fill [(u8<|.ofNat 0),i0,(u8<|.ofNat 0),i0,(.slice none 0<|.known 0),(u8<|.ofNat 0),i0,(.slice none 0<|.known 0),(.slice none 0<|.known 0),(.slice none 0<|.known 0)] 0 .nil) [])]) 274) (show((.tuple [(.agg [(u8<|.ofNat 0),i0,(u8<|.ofNat 0),i0,(.slice none 0<|.known 0),(u8<|.ofNat 0),i0,(.slice none 0<|.known 0),(.slice none 0<|.known 0),(.slice none 0<|.known 0)]),(.bool false)]):AV)=Vm from rfl) ct ct ct)) bh
def iU(st:VS)(rest:List AV)(v:AV):Prop:=∃(a:MN) (n c:Nat) (fs:List Fr) (o:Option St),si st a/\rest=[]/\st.R.len=n/\st.R.cap= .ak c 13/\st.row=(fs.map aH).flatten/\ij fs/\n<=fs.length/\fs.length<=1000000/\mJ fs n o/\v=qu o
theorem iU.bT(st:VS)(rest:List AV)(v v':AV)(h:iU st rest v)(h':iU st rest v'):v=v':=by obtain⟨a,n,c,fs,o,_,_,rfl,_,e4,f1,_,_,s1,rfl⟩:=h;obtain⟨a1,m,d,gs,o',_,_,rfl,_,g4,f2,_,_,s2,rfl⟩:=h';rw[e4] at g4;have e:=Fi _ _ f1 f2 g4;subst e;rw[s1.bT s2]
def mm:FuncId×KE:=(50,.raw<|m9 10 3<|vR iU)
theorem Nf(hP:bE pg){L:bY}(h:aV L):aV<|mm::L:=by
 refine EY hP hJ xU iT iz lT lB h cP Tryz.func50 (body:=a9 pg 50 []) aW aW fun st rest y e _=>?_;obtain⟨a,n,c,fs,o,⟨h1,h2,h3⟩,rfl,e1,e2,e4,_,hl,hf,hS,rfl⟩:=FI e;refine⟨aL.1 aW,fun B mc=>?_⟩;obtain⟨⟨pre,len,cap,post⟩,u,row⟩:=st;simp only at h1 h2 e1 e2 e4;subst h1;subst h2;subst e1;subst e2;subst e4;rcases hS with⟨q,rfl⟩|⟨q,q0,s,q1,rfl⟩
 ·exact aiT (N:=0) (L:=0) (N2:=0) (L2:=0) (N3:=0) (L3:=0) (N4:=0) (L4:=0) (kind:=0) (to:=0) (op:=0) (nn:=0) (aE:=0) (n2:=0) mc q
 ·obtain⟨kind,to,⟨oa,na,la⟩,⟨ob,nb,lb⟩,bd,el⟩:=s;have bJ:=(List.getElem?_eq_some_iff.1 q1).1;have hx:=C4 mB q1 0 10<|Nat.le_refl _;rw[show(zH fs len).ah.toNat*10+0=0+(zH fs len).ah.toNat*10+0 by omega,show((aM<|.mk kind to (.mk oa na la) (.mk ob nb lb) bd el).drop 0).take 10=aM (.mk kind to (.mk oa na la) (.mk ob nb lb) bd el) by rw[List.drop_zero];exact List.take_of_length_le (by rw[mB.len];omega)] at hx;rw[show qu (some<|.mk kind to (.mk oa na la) (.mk ob nb lb) bd el)= .tuple [.agg<|aM<|.mk kind to (.mk oa na la) (.mk ob nb lb) bd el,.bool true] from rfl];rw[aM,aB,aB] at hx ⊢;exact aiS mc q hl hf (by have:top=549755813888:=rfl;omega) ⟨q0,by unfold zH at bJ q0;omega⟩ hx
end
end iX
end
section
open Go Go.Rn Go.RowKit Go.Proofs
namespace jI
open cq eX cz dj cO cT fm eR fM fO fU fV gi gO gP gZ hU iH iX gh
variable {wi v to aE nn n2 kind gx:Int} {u Y:AV} {fs:List Fr} {c N4 N3 N2 N L4 L3 L2 L:Nat} {a:MN} {B:aJ}
noncomputable abbrev eV(a:MN)(n c:Nat)(u:AV)(fs:List Fr):VS:=(⟨⟨a.pre,n,(.ak c 13),[.int .i64 a.steps]⟩,u,(fs.map aH).flatten⟩:VS)
noncomputable abbrev Jr:List AV:=[(u8<|.ofNat 0),i0,(u8<|.ofNat 0),i0,(.slice none 0<|.known 0),(u8<|.ofNat 0),i0,(.slice none 0<|.known 0),(.slice none 0<|.known 0),(.slice none 0<|.known 0)]
noncomputable abbrev I7(n c:Nat):AV:=.slice (some (272,0)) (n)<|.ak c 13
theorem ahn{n:Nat}{N L N2 L2 N3 L3 N4 L4:Nat}{kind to op nn aE n2:Int}{z v wi gx:Int}(mc:Mt [mm,iG,jG,lf,mf] B)(hO:bA 10 (eV a n c u fs)=true)(hs:vR iU (eV a n c u fs) []=some (.tuple [(.agg Jr),(.bool false)]))(E0:(.agg [.int .u8 3,.int .i64 0,.int .i64 0]:AV)=Y):au pg B 273 (gV 270 3 pg (az Tryz.f28) Y<|eV a n c u fs) (sF 28 Tryz.f28 [.ptr<|some (270,0)])<|aq (ar++bu (dC 270 3<|eV a n c u fs)) 273:=by exact mh (E:=qP [mm,iG,jG,lf,mf]) eY rfl bV mc.2.2.1 mc.2.2.2 900 (.st 8<|.rg<|.go 1<|.cg (.tuple [(.agg Jr),(.bool false)]) (vG 272) (vQ 272<|eV a n c u fs)<|.go 6<|.en<|.rt 8 .no)<|jL [mm,iG,jG,lf,mf] 50 272 (vR iU) [] (eV a n c u fs) (.tuple [(.agg Jr),(.bool false)]) hO hs rfl ct<|nM (st:=(eV a n c u fs)) (s:=aq (ar++[(270,some<|.cells 13 (Tr.fill (a.row (.ptr<|some (271,0)) (I7 n c)<|i6 a.steps) 0 .nil) []),(271,(some<|.tok 3 u)),(272,(some<|aN aH fs)),(273,some<|.cells 3 (Tr.fill [(u8<|.ofNat 3),i0,i0] 0 .nil) []),(274,some<|.cells 10 (Tr.fill Jr 0 .nil) [])]) 275) (show(.agg [(u8<|.ofNat 3),i0,i0])=Y from E0) ct ct ct
noncomputable abbrev aeR(a:MN)(n c:Nat)(u:AV)(fs:List Fr)(kind to op nn:Int)(N L:Nat)(aE n2:Int)(N2 L2 N3 L3 N4 L4:Nat):List<|Nat×Option ae:=ar++[(270,some<|.cells 13 (Tr.fill (a.row (.ptr<|some (271,0)) (.slice (some (272,0)) (n)<|.ak c 13)<|i6 a.steps) 0 .nil) []),(271,(some<|.tok 3 u)),(272,(some<|aN aH fs)),(273,some<|.cells 3 (Tr.fill [(u8<|.ofNat 1),i0,i0] 0 .nil) []),(274,some<|.cells 10 (Tr.fill [(u8<|kind),(i6 to),(u8<|op),(i6 nn),(.U N 0 L),(u8<|aE),(i6 n2),(.U N2 0 L2),(.U N3 0 L3),(.U N4 0 L4)] 0 .nil) [])]
noncomputable abbrev sS(kind to op nn:Int)(N L:Nat)(aE n2:Int)(N2 L2 N3 L3 N4 L4:Nat):List AV:=[(u8<|kind),(i6 to),(u8<|op),(i6 nn),(.U N 0 L),(u8<|aE),(i6 n2),(.U N2 0 L2),(.U N3 0 L3),(.U N4 0 L4)]
noncomputable abbrev w6(op nn:Int)(N L:Nat):List AV:=[(.agg [(u8<|op),(i6 nn),(.U N 0 L)])]
theorem aho{n:Nat}{op:Int}{z:Int}(mc:Mt [mm,iG,jG,lf,mf] B)(hO:bA 10 (eV a n c u fs)=true)(hs:vR iU (eV a n c u fs) []=some (.tuple [(.agg<|sS kind to op nn N L aE n2 N2 L2 N3 L3 N4 L4),(.bool true)]))(hY:((.tuple [(.agg<|sS kind to op nn N L aE n2 N2 L2 N3 L3 N4 L4),(.bool true)]):AV).hi=true)(hA:((w6 op nn N L):List AV).all AV.hi=true)(hz:vR jr (eV a n c u fs) (w6 op nn N L)=some (.int .i64 z))(hv:vR nN (eV a n c u fs) (w6 op nn N L)=some (.int .i64 v))(hw:vR qY (eV a n c u fs) []=some (.int .i64 wi))(hg:fj (dX bW Bw) u [.int .i64 v]=some (.tuple [.int .i64 gx,.bool true],u))(E8:kind=8->(.agg [.int .u8 3,.int .i64 0,.int .i64 z]:AV)=Y)(E6:kind=6->wi<0->(.agg [.int .u8 4,.int .i64 0,.int .i64 0]:AV)=Y)(EI:kind≠8->(kind=6->0<=wi)->(kind=kind)->(.agg [.int .u8 1,.int .i64 0,.int .i64 0]:AV)=Y):au pg B 273 (gV 270 3 pg (az Tryz.f28) Y<|eV a n c u fs) (sF 28 Tryz.f28 [.ptr<|some (270,0)])<|aq (ar++bu (dC 270 3<|eV a n c u fs)) 273:=by exact mh (E:=qP [mm,iG,jG,lf,mf]) eY rfl bV mc.2.2.1 mc.2.2.2 900 (.st 8<|.rg<|.go 1<|.cg (.tuple [(.agg<|sS kind to op nn N L aE n2 N2 L2 N3 L3 N4 L4),(.bool true)]) (vG 272) (vQ 272<|eV a n c u fs)<|.go 6<|.en<|.st 6<|.rg<|.go 2<|.fk (.go 1<|.en<|.st 2<|.rg<|.go 3<|.cg (i6 z) (vG 272) (vQ 272<|eV a n c u fs)<|.go 2<|.en<|.rt 1 .no)<|.go 1<|.en<|.st 2<|.rg<|.go 2<|.fk (.go 2<|.cg (i6 wi) (vG 272) (vQ 272<|eV a n c u fs)<|.fk (.go 2<|.en<|.rt 4 .no)<|.go 2<|.en<|.st 2<|.rg<|.go 2<|.fk (.go 1<|.en<|.st 2<|.rg<|.go 3<|.cg (i6 v) (vG 272) (vQ 272<|eV a n c u fs)<|.go 1<|.en<|.st 1<|.rg<|.go 5<|.kt (.tuple [(i6 gx),(.bool true)]) u<|.go 5<|.en<|.rt 8 .no)<|.go 1<|.en<|.rt 6 .no)<|.go 6<|.en<|.st 2<|.rg<|.go 2<|.fk (.go 1<|.en<|.st 2<|.rg<|.go 3<|.cg (i6 v) (vG 272) (vQ 272<|eV a n c u fs)<|.go 1<|.en<|.st 1<|.rg<|.go 5<|.kt (.tuple [(i6 gx),(.bool true)]) u<|.go 5<|.en<|.rt 8 .no)<|.go 1<|.en<|.rt 6 .no)<|jL [mm,iG,jG,lf,mf] 50 272 (vR iU) [] (eV a n c u fs) (.tuple [(.agg<|sS kind to op nn N L aE n2 N2 L2 N3 L3 N4 L4),(.bool true)]) hO hs rfl hY<|ax (kind=8) Wo fun _=>(ax (kind=6) (fun _=>(jL [mm,iG,jG,lf,mf] 52 272 (vR qY) [] (eV a n c u fs) (i6 wi) hO hw rfl ct<|ax (wi<0) Ws Wu)) Wu)
theorem ahp{n:Nat}{op:Int}{z:Int}(mc:Mt [mm,iG,jG,lf,mf] B)(hO:bA 10 (eV a n c u fs)=true)(hs:vR iU (eV a n c u fs) []=some (.tuple [(.agg<|sS kind to op nn N L aE n2 N2 L2 N3 L3 N4 L4),(.bool true)]))(hY:((.tuple [(.agg<|sS kind to op nn N L aE n2 N2 L2 N3 L3 N4 L4),(.bool true)]):AV).hi=true)(hA:((w6 op nn N L):List AV).all AV.hi=true)(hz:vR jr (eV a n c u fs) (w6 op nn N L)=some (.int .i64 z))(hv:vR nN (eV a n c u fs) (w6 op nn N L)=some (.int .i64 v))(hw:vR qY (eV a n c u fs) []=some (.int .i64 wi))(hg:fj (dX bW Bw) u [.int .i64 v]=some (.tuple [.int .i64 gx,.bool false],u))(E8:kind=8->(.agg [.int .u8 3,.int .i64 0,.int .i64 z]:AV)=Y)(E6:kind=6->wi<0->(.agg [.int .u8 4,.int .i64 0,.int .i64 0]:AV)=Y)(E2:kind=2->(.agg [.int .u8 2,.int .i64 v,.int .i64 0]:AV)=Y)(EI:kind≠8->(kind=6->0<=wi)->(kind≠2)->(.agg [.int .u8 1,.int .i64 0,.int .i64 0]:AV)=Y):au pg B 273 (gV 270 3 pg (az Tryz.f28) Y<|eV a n c u fs) (sF 28 Tryz.f28 [.ptr<|some (270,0)])<|aq (ar++bu (dC 270 3<|eV a n c u fs)) 273:=by exact mh (E:=qP [mm,iG,jG,lf,mf]) eY rfl bV mc.2.2.1 mc.2.2.2 900 (.st 8<|.rg<|.go 1<|.cg (.tuple [(.agg<|sS kind to op nn N L aE n2 N2 L2 N3 L3 N4 L4),(.bool true)]) (vG 272) (vQ 272<|eV a n c u fs)<|.go 6<|.en<|.st 6<|.rg<|.go 2<|.fk (.go 1<|.en<|.st 2<|.rg<|.go 3<|.cg (i6 z) (vG 272) (vQ 272<|eV a n c u fs)<|.go 2<|.en<|.rt 1 .no)<|.go 1<|.en<|.st 2<|.rg<|.go 2<|.fk (.go 2<|.cg (i6 wi) (vG 272) (vQ 272<|eV a n c u fs)<|.fk (.go 2<|.en<|.rt 4 .no)<|.go 2<|.en<|.st 2<|.rg<|.go 2<|.fk (.go 1<|.en<|.st 2<|.rg<|.go 3<|.cg (i6 v) (vG 272) (vQ 272<|eV a n c u fs)<|.go 1<|.en<|.st 1<|.rg<|.go 5<|.kt (.tuple [(i6 gx),(.bool false)]) u<|.go 5<|.en<|.rt 6 .no)<|.go 1<|.en<|.rt 6 .no)<|.go 6<|.en<|.st 2<|.rg<|.go 2<|.fk (.go 1<|.en<|.st 2<|.rg<|.go 3<|.cg (i6 v) (vG 272) (vQ 272<|eV a n c u fs)<|.go 1<|.en<|.st 1<|.rg<|.go 5<|.kt (.tuple [(i6 gx),(.bool false)]) u<|.go 5<|.en<|.rt 6 .no)<|.go 1<|.en<|.rt 6 .no)<|jL [mm,iG,jG,lf,mf] 50 272 (vR iU) [] (eV a n c u fs) (.tuple [(.agg<|sS kind to op nn N L aE n2 N2 L2 N3 L3 N4 L4),(.bool true)]) hO hs rfl hY<|ax (kind=8) Wo fun _=>(ax (kind=6) (fun _=>(jL [mm,iG,jG,lf,mf] 52 272 (vR qY) [] (eV a n c u fs) (i6 wi) hO hw rfl ct<|ax (wi<0) Ws fun _=>(ax (kind=2) Wn fun _=>KR))) fun _=>(ax (kind=2) Wn fun _=>KR))
end jI
end
section
open Go Go.Rn Go.RowKit Go.Proofs
namespace jJ
open cq eX cz dj cO cT fm eR fM fO fU fV gi gO gP gZ hU iH iX jI gh
variable {to kind i:Int} {el bd:List St} {eb ea:Ex} {o:Option St} {n':Nat} {cZ:List Fr} {b':bz}
noncomputable section
abbrev da(a:MN)(n c:Nat)(fs:List Fr)(b:bz):VS:=⟨⟨a.pre,n,.ak c 13,[.int .i64 a.steps]⟩,bW b,(fs.map aH).flatten⟩
structure dc (a:MN) (n c:Nat) (fs:List Fr) (b:bz):Prop where
 aK:eC bS 1 (.U a.G a.q a.lg) a.aK
 buf:fe b
 n9:ij fs
 mV:n<=fs.length
 pR:n<=c
 len:fs.length<=1000000
 vars:1<=a.vars/\a.vars<=32
section
variable {a:MN} {n c:Nat} {fs:List Fr} {b:bz}
theorem dc.wh(h:dc a n c fs b):si (da a n c fs b) a:=⟨rfl,rfl,h.aK⟩
theorem Vn(fs:List Fr):(fs.map aH).flatten.length=fs.length*13:=by
 have:=sq (K:=13) (l:=fs.map aH) fun c hc=>by obtain⟨a,_,rfl⟩:=List.mem_map.1 hc;exact fy a
 rw[this,List.length_map]
theorem UH(fs:List Fr):(fs.map aH).flatten.all AV.bZ=true:=by rw[List.all_eq_true];intro c hc;obtain⟨y,hy,hc⟩:=List.mem_flatten.1 hc;obtain⟨g,_,rfl⟩:=List.mem_map.1 hy;exact Tu g c hc
theorem dc.bA(h:dc a n c fs b):bA 10 (da a n c fs b)=true:=by
 have ht:top=549755813888:=rfl;have e1:sf (da a n c fs b).R=true:=by have g:=h.aK.bZ;unfold sf;show((a.pre).all AV.bZ&&([AV.int .i64 a.steps]).all AV.bZ)=true;unfold MN.pre;simp only[List.all_cons,List.all_nil,g];rfl
 refine and_true.2 ⟨e1,and_true.2 ⟨UH fs,and_true.2 ⟨aL.2 (by show 13<=top;omega),aL.2 ?_⟩⟩⟩;show(fs.map aH).flatten.length<=top;rw[Vn];have:=h.len;omega
theorem adW{a':MN}{c':Nat}(h:dc a n c fs b)(h':dc a' n' c' cZ b')(e:da a n c fs b=da a' n' c' cZ b'):a=a'/\n=n'/\c=c'/\fs=cZ/\b=b':=by
 have e1:=h.wh;rw[e] at e1;have ea:=e1.inj h'.wh;injection e with e2 e3 e4
 injection e2 with e5 e6 e7 e8
 injection e7 with e7
 exact⟨ea,e6,e7,Fi _ _ h.n9 h'.n9 e4,wB _ _ e3⟩
def dD(a:MN)(e:Ex):Int:=(zj e a.l a.aK).1
def iI(x m:Int):Int:=if m<1 then 0 else if Int.tmod x m<0 then Int.tmod x m+m else Int.tmod x m
theorem afE(x m:Int):tO x m= .tuple [.int .i64<|iI x m,.int .i64 (if m<1 then 1 else 0)]:=by
 unfold tO iI
 repeat' split
 all_goals first|rfl|omega
theorem adX{x m:Int}(h:1<=m):0<=iI x m/\iI x m<m:=by
 unfold iI;rw[if_neg ab];have h1:=Int.tmod_lt_of_pos x (show 0<m by omega);have h2: - m<Int.tmod x m:=by have:=Int.lt_tmod_of_pos x (show 0<m by omega);omega
 split<;>omega
theorem s8(h:dc a n c fs b)(e:Ex):vR jr (da a n c fs b) [.agg<|aB e]=some (i6<|dD a e):=DG jr.bT ⟨a,e,h.wh,rfl,rfl⟩
theorem Oj(h:dc a n c fs b)(e:Ex):vR nN (da a n c fs b) [.agg<|aB e]=some (i6<|iI (dD a e) a.vars):=DG nN.bT ⟨a,e,_,_,h.wh,rfl,by have:=h.vars;omega,afE _ _,rfl⟩
theorem SW(h:dc a n c fs b)(h6:n<=6):vR qY (da a n c fs b) []=some (i6<|iD fs n):=DG qY.bT ⟨a,n,c,fs,h.wh,rfl,rfl,rfl,rfl,h.n9,h6,h.mV,h.len,rfl⟩
theorem wO(h:dc a n c fs b)(hs:mJ fs n o):vR iU (da a n c fs b) []=some (qu o):=DG iU.bT ⟨a,n,c,fs,o,h.wh,rfl,rfl,rfl,rfl,h.n9,h.mV,h.len,hs,rfl⟩
theorem UI{b:bz}(b6:b.length<=6)(v:Int):fj (dX bW Bw) (bW b) [.int .i64 v]=some (.tuple [.int .i64 (kG b v).1,.bool (kG b v).2],bW b):=by
 unfold fj;rw[AN wB];show(match ([.int .i64 v]:List AV).all AV.hi with
  |true=>((if b.length<=6 then some (AV.tuple [.int .i64 (kG b v).1,.bool (kG b v).2],b) else none).map (fun p:AV×bz=>((p.1,bW p.2):AV×AV))).bind fun p:AV×AV=>match p.1.hi with
   |true=>some p
   |false=>none
  |false=>none)=_
 rw[if_pos b6];rfl
theorem adY{b:bz}(b6:b.length<=6)(v x:Int):fj (dX bW F5) (bW b) [.int .i64 v,.int .i64 x]=some ((.int .i64 0:AV),bW<|ml b v x):=by
 unfold fj;rw[AN wB];show(match ([.int .i64 v,.int .i64 x]:List AV).all AV.hi with
  |true=>((if b.length<=6 then some ((AV.int .i64 0:AV),ml b v x) else none).map (fun p:AV×bz=>((p.1,bW p.2):AV×AV))).bind fun p:AV×AV=>match p.1.hi with
   |true=>some p
   |false=>none
  |false=>none)=_
 rw[if_pos b6];rfl
theorem aa1(h:dc a n c fs b){k:Nat}(hs:om k n fs b=some (n',cZ,b')):dH eJ (da a n c fs b) []=some (.tuple [],da a n' c cZ b'):=Jp eJ.bT ⟨a,n,c,k,n',fs,cZ,b,b',h.wh,rfl,rfl,rfl,rfl,rfl,h.buf,h.n9,h.mV,h.pR,h.len,hs,rfl⟩
end
def MN.hZ(a:MN)(i z:Int):MN:=match i.toNat with
 |0=>{a with x0:=z}
 |1=>{a with x1:=z}
 |2=>{a with x2:=z}
 |3=>{a with x3:=z}
 |4=>{a with x4:=z}
 |5=>{a with x5:=z}
 |6=>{a with x6:=z}
 |7=>{a with x7:=z}
 |_=>a
section
variable {a:MN} {n c:Nat} {fs:List Fr} {b:bz}
theorem UJ(h0:0<=i)(h8:i<8):i=0\/i=1\/i=2\/i=3\/i=4\/i=5\/i=6\/i=7:=by omega
theorem Ol{i z:Int}(h0:0<=i)(h8:i<8):vw (da a n c fs b) i z=da (MN.hZ a i z) n c fs b:=by rcases UJ h0 h8 with rfl|rfl|rfl|rfl|rfl|rfl|rfl|rfl<;>rfl
theorem aa2{z:Int}:(MN.hZ a i z).vars=a.vars/\(MN.hZ a i z).G=a.G/\(MN.hZ a i z).q=a.q/\(MN.hZ a i z).lg=a.lg/\(MN.hZ a i z).aK=a.aK/\(MN.hZ a i z).steps=a.steps:=by unfold MN.hZ;split<;>exact⟨rfl,rfl,rfl,rfl,rfl,rfl⟩
theorem dc.hZ{z:Int}(h:dc a n c fs b):dc (MN.hZ a i z) n c fs b:=by
 obtain⟨e1,e2,e3,e4,e5,_⟩:=aa2 (a:=a) (i:=i) (z:=z);refine⟨?_,h.buf,h.n9,h.mV,h.pR,h.len,?_⟩
 ·rw[e2,e3,e4,e5];exact h.aK
 ·rw[e1];exact h.vars
theorem afF(h:dc a n c fs b)(h0:0<=to)(h8:to<8):dH zG (da a n c fs b) [.agg<|aM<|.mk kind to ea eb bd el]=some (.tuple [],da (MN.hZ a to<|dD a ea) n c fs b):=Jp zG.bT ⟨a,kind,to,ea,eb,bd,el,dD a ea,h.bA,h.wh,rfl,h0,h8,s8 h ea,by rw[Ol h0 h8]⟩
theorem adZ(h:dc a n c fs b)(b6:b.length<=6)(h0:0<=to)(h8:to<8):dH zo (da a n c fs b) [.agg<|aM<|.mk kind to ea eb bd el]=some (.tuple [],da (MN.hZ a to (kG b<|iI (dD a ea) a.vars).1) n c fs b):=Jp zo.bT ⟨a,kind,to,ea,eb,bd,el,iI (dD a ea) a.vars,(kG b<|iI (dD a ea) a.vars).1,(kG b<|iI (dD a ea) a.vars).2,h.bA,h.wh,rfl,h0,h8,Oj h ea,UI b6 _,by rw[Ol h0 h8]⟩
theorem aci(h:dc a n c fs b)(b6:b.length<=6):dH yX (da a n c fs b) [.agg<|aM<|.mk kind to ea eb bd el]=some (.tuple [],da a n c fs<|ml b (iI (dD a ea) a.vars)<|dD a eb):=Jp yX.bT ⟨a,kind,to,ea,eb,bd,el,iI (dD a ea) a.vars,dD a eb,bW<|ml b (iI (dD a ea) a.vars)<|dD a eb,h.bA,h.wh,rfl,Oj h ea,s8 h eb,adY b6 _ _,rfl⟩
def nS(a:MN)(w:Int)(b:bz):Option St->Int×Int×Int
 |none=>(3,0,0)
 |some (.mk kind _ ea _ _ _)=>if kind=8 then(3,0,dD a ea) else if kind=6/\w<0 then(4,0,0) else if kind=2/\(kG b<|iI (dD a ea) a.vars).2=false then(2,iI (dD a ea) a.vars,0) else(1,0,0)
def BP(q:Int×Int×Int):AV:=.agg [.int .u8 q.1,.int .i64 q.2.1,.int .i64 q.2.2]
theorem EZ{w:Int}:nS a w b (some<|.mk kind to ea eb bd el)=if kind=8 then(3,0,dD a ea) else if kind=6/\w<0 then(4,0,0) else if kind=2/\(kG b<|iI (dD a ea) a.vars).2=false then(2,iI (dD a ea) a.vars,0) else(1,0,0):=rfl
theorem UK{B:aJ}(mc:Mt [mm,iG,jG,lf,mf] B)(h:dc a n c fs b)(h6:n<=6)(b6:b.length<=6)(hs:mJ fs n o):
 au pg B 273 (gV 270 3 pg (az Tryz.f28) (BP<|nS a (iD fs n) b o)<|da a n c fs b) (sF 28 Tryz.f28 [.ptr<|some (270,0)]) (aq (ar++bu (dC 270 3<|da a n c fs b)) 273):=by
 have hn:=wO h hs;cases o with
 |none=>exact ahn (N:=0) (L:=0) (N2:=0) (L2:=0) (N3:=0) (L3:=0) (N4:=0) (L4:=0) (kind:=0) (to:=0) (op:=0) (nn:=0) (aE:=0) (n2:=0) (z:=0) (v:=0) (wi:=0) (gx:=0) mc h.bA hn rfl
 |some s=>
  obtain⟨kind,to,ea,eb,bd,el⟩:=s;have hz:=s8 h ea;have hv:=Oj h ea;have hw:=SW h h6;have hg:=UI b6<|iI (dD a ea) a.vars;have hA:=qf ea;have hY:(qu (some<|.mk kind to ea eb bd el):AV).hi=true:=by show([AV.agg<|aM<|.mk kind to ea eb bd el,.bool true].all AV.kr)=true;have e:(AV.agg<|aM<|.mk kind to ea eb bd el).kr=true:=xm _;rw[List.all_cons,e];rfl
  have k8:kind=8->nS a (iD fs n) b (some<|.mk kind to ea eb bd el)=(3,0,dD a ea):=fun q=>if_pos q;have k6:kind=6->iD fs n<0->nS a (iD fs n) b (some<|.mk kind to ea eb bd el)=(4,0,0):=fun q r=>by rw[EZ,if_neg ab,if_pos ⟨q,r⟩]
  obtain⟨op,nn,la⟩:=ea;obtain⟨aE,n2,lb⟩:=eb;unfold qu at hn hY;rw[aB] at hz hv hA;simp only[aM,aB] at hn hY;cases hb:(kG b<|iI (dD a<|.mk op nn la) a.vars).2 with
  |true=>
   rw[hb] at hg;refine aho mc h.bA hn hY hA hz hv hw hg (fun q=>?_) (fun q r=>?_) fun q r _=>?_
   ·rw[k8 q];rfl
   ·rw[k6 q r];rfl
   ·rw[EZ,if_neg q,if_neg (fun z=>by have:=r z.1;omega),if_neg (fun z=>by rw[hb] at z;cases z.2)];rfl
  |false=>
   rw[hb] at hg;refine ahp mc h.bA hn hY hA hz hv hw hg (fun q=>?_) (fun q r=>?_) (fun q=>?_) fun q r z=>?_
   ·rw[k8 q];rfl
   ·rw[k6 q r];rfl
   ·rw[EZ,if_neg ab,if_neg (fun z=>by omega),if_pos ⟨q,hb⟩];rfl
   ·rw[EZ,if_neg q,if_neg (fun z=>by have:=r z.1;omega),if_neg fun y=>z y.1];rfl
def lk(st:VS)(rest:List AV)(v:AV):Prop:=∃(a:MN) (n c:Nat) (fs:List Fr) (b:bz) (o:Option St),st=da a n c fs b/\dc a n c fs b/\rest=[]/\n<=6/\b.length<=6/\mJ fs n o/\v=BP (nS a (iD fs n) b o)
theorem lk.bT(st:VS)(rest:List AV)(v v':AV)(h:lk st rest v)(h':lk st rest v'):v=v':=by obtain⟨a,n,c,fs,b,o,rfl,m1,_,_,_,s1,rfl⟩:=h;obtain⟨a',n',c',cZ,b',o',e,m2,_,_,_,s2,rfl⟩:=h';obtain⟨rfl,rfl,rfl,rfl,rfl⟩:=adW m1 m2 e;rw[s1.bT s2]
def PH:FuncId×KE:=(28,.raw<|m9 10 3<|vR lk)
theorem ad0(hP:bE pg){L:bY}(h:aV L):aV<|PH::L:=by refine EY hP hJ xU iT iz lT lB h (Nf hP<|CX hP<|Fs hP<|Ii hP<|LU hP cP) Tryz.func28 (body:=a9 pg 28 []) aW aW fun st rest y e _=>?_;obtain⟨a,n,c,fs,b,o,rfl,m1,rfl,h6,b6,s1,rfl⟩:=FI e;exact⟨aL.1 aW,fun B mc=>UK mc m1 h6 b6 s1⟩
theorem yY(h:dc a n c fs b)(h6:n<=6)(b6:b.length<=6)(hs:mJ fs n o):vR lk (da a n c fs b) []=some (BP<|nS a (iD fs n) b o):=DG lk.bT ⟨a,n,c,fs,b,o,rfl,h,rfl,h6,b6,hs,rfl⟩
end
end
end jJ
end
section
open Go Go.Rn Go.RowKit Go.Proofs
namespace lD
open cq eX cz dj cO cT fm eR fM fO fU fV gi gO gP gZ hU gh
theorem aoE{fs:List Fr}{n:Nat}{f:Fr}{cs:List AV}{X:Prop}(hc:aH f=cs)(hn:n<=fs.length)(hl:fs.length<=1000000)(x:X):
 ((.known n:cL)= .known n/\1<=1/\some (aN aH fs)=some (.cells (fs.map aH).flatten.length (Tr.fill (fs.map aH).flatten 0 .nil) [])/\some (ae.cells cs.length (Tr.fill cs 0 .nil) [])=some (.cells cs.length (Tr.fill cs 0 .nil) [])/\(fs.map aH).flatten.length<=top/\cs.length<=top/\n*13<=(fs.map aH).flatten.length/\1*13<=cs.length/\(fs.map aH).flatten.take (n*13)++cs.take (1*13)=((fs.take n++[f]).map aH).flatten/\((fs.take n++[f]).map aH).flatten.all AV.cj=true/\2*(n+1)*136+4096*136<=room/\((fs.take n++[f]).map aH).flatten.length<=top/\X):=by
 have ht:top=549755813888:=rfl;have e1:∀l:List Fr,(l.map aH).flatten.length=l.length*13:=fun l=>by
  have:=sq (K:=13) (l:=l.map aH) fun c hc=>by obtain⟨a,_,rfl⟩:=List.mem_map.1 hc;exact fy a
  rw[this,List.length_map]
 have e2:cs.length=13:=by rw[←hc];exact fy f
 have e3:∀(l:List Fr) (k:Nat),(l.map aH).flatten.take (k*13)=((l.take k).map aH).flatten:=by
  intro l;induction l with
  |nil=>intro k;simp
  |cons x l ih=>
   intro k;cases k with
   |zero=>simp
   |succ k=>rw[List.map_cons,List.flatten_cons,List.take_succ_cons,List.map_cons,List.flatten_cons, ←ih k,List.take_append,fy,List.take_of_length_le (by rw[fy];omega),show(k+1)*13 - 13=k*13 by omega]
 refine⟨rfl,Nat.le_refl 1,rfl,rfl,by rw[e1];omega,by omega,by rw[e1];omega,by omega,?_,?_,?_,?_,x⟩
 ·rw[e3,List.map_append,List.flatten_append];congr 1;rw[List.take_of_length_le (l:=cs) ab, ←hc];simp
 ·rw[List.all_eq_true];intro c hc;obtain⟨y,hy,hc⟩:=List.mem_flatten.1 hc;obtain⟨g,_,rfl⟩:=List.mem_map.1 hy;exact List.all_eq_true.1 (Mu g) c hc
 ·unfold room;omega
 ·rw[e1,List.length_append,List.length_take];show(min n fs.length+1)*13<=top;omega
end lD
end
section
open Go Go.Rn Go.RowKit Go.Proofs
namespace lU
open cq eX cz dj cO cT fm eR fM fO fU fV gi gO gP gZ hU lD gh
theorem Ad{fs:List Fr}{n:Nat}{X:Prop}(h1:1<=n)(hn:n<=fs.length)(hl:fs.length<=1000000)(x:X):
 ((.known 0:cL)= .known 0/\1<=n/\some (ae.cells 0 (Tr.fill [] 0 .nil) [])=some (.cells ([]:List AV).length (Tr.fill [] 0 .nil) [])/\some (aN aH fs)=some (.cells (fs.map aH).flatten.length (Tr.fill (fs.map aH).flatten 0 .nil) [])/\([]:List AV).length<=top/\(fs.map aH).flatten.length<=top/\0*13<=([]:List AV).length/\n*13<=(fs.map aH).flatten.length/\([]:List AV).take (0*13)++(fs.map aH).flatten.take (n*13)=((fs.take n).map aH).flatten/\((fs.take n).map aH).flatten.all AV.cj=true/\2*(0+n)*136+4096*136<=room/\((fs.take n).map aH).flatten.length<=top/\X):=by
 have ht:top=549755813888:=rfl;have e1:∀l:List Fr,(l.map aH).flatten.length=l.length*13:=fun l=>by
  have:=sq (K:=13) (l:=l.map aH) fun c hc=>by obtain⟨a,_,rfl⟩:=List.mem_map.1 hc;exact fy a
  rw[this,List.length_map]
 have e3:∀(l:List Fr) (k:Nat),(l.map aH).flatten.take (k*13)=((l.take k).map aH).flatten:=by
  intro l;induction l with
  |nil=>intro k;simp
  |cons x l ih=>
   intro k;cases k with
   |zero=>simp
   |succ k=>rw[List.map_cons,List.flatten_cons,List.take_succ_cons,List.map_cons,List.flatten_cons, ←ih k,List.take_append,fy,List.take_of_length_le (by rw[fy];omega),show(k+1)*13 - 13=k*13 by omega]
 refine⟨rfl,h1,rfl,rfl,Nat.zero_le _,by rw[e1];omega,by show 0*13<=0;omega,by rw[e1];omega,?_,?_,?_,?_,x⟩
 ·rw[e3];rfl
 ·rw[List.all_eq_true];intro c hc;obtain⟨y,hy,hc⟩:=List.mem_flatten.1 hc;obtain⟨g,_,rfl⟩:=List.mem_map.1 hy;exact List.all_eq_true.1 (Mu g) c hc
 ·unfold room;omega
 ·rw[e1,List.length_take];omega
end lU
end
section
open Go Go.Rn Go.RowKit Go.Proofs
namespace my
open cq gw eH gU fx gY eX cz dj cO cT fm eR fM fO fU gh fV gi gO gP gZ hU iH iX jI jJ lD lU kF
variable {fs:List Fr} {B:aJ} {u:AV} {r:Nat->Nat} {c:Nat} {a:MN}
noncomputable section
theorem Hf{n:Nat}{f:Fr}{cs:List AV}{X:Prop}(hc:aH f=cs)(h1:1<=n)(hn:n<=fs.length)(hl:fs.length<=1000000)(x:X):
 ((.known n:cL)= .known n/\1<=n/\1<=1/\some (aN aH fs)=some (.cells (fs.map aH).flatten.length (Tr.fill (fs.map aH).flatten 0 .nil) [])/\some (ae.cells cs.length (Tr.fill cs 0 .nil) [])=some (.cells cs.length (Tr.fill cs 0 .nil) [])/\(fs.map aH).flatten.length<=top/\cs.length<=top/\n*13<=(fs.map aH).flatten.length/\1*13<=cs.length/\(fs.map aH).flatten.take (n*13)++cs.take (1*13)=((fs.take n++[f]).map aH).flatten/\((fs.take n++[f]).map aH).flatten.all AV.cj=true/\2*(n+1)*136+4096*136<=room/\((fs.take n++[f]).map aH).flatten.length<=top/\X):=
 have h:=aoE hc hn hl x
 ⟨h.1,h1,h.2⟩
theorem yM{k:Nat}{v:AV}:iE [] r (.tok k v)<|.tok k v:=fun _ _ _ _ _ _=>trivial
theorem ID(hr:∀k,top<=k->r k=k)(hl:fs.length<=1000000):iE [] r (aN aH fs)<|aN aH fs:=fun ρ fq N o m h=>by have ht:top=549755813888:=rfl;refine DE (ρ:=ρ) (fun k x hk e=>?_) (by rw[Vn];omega) (UH fs) h;show fq (r k)=some x;rw[hr k hk];exact m.1 _ _ e
abbrev LM:bY:=[PH,mm,iG,jG,lf,mf,yL,PF,O1,Oh,Od,Oe]
abbrev aQ(p:List AV)(n:Nat)(cap:cL)(st:Int)(u:AV)(fs:List Fr):VS:=⟨⟨p,n,cap,[.int .i64 st]⟩,u,(fs.map aH).flatten⟩
abbrev l9(B:aJ)(rs:List ResultVar)(st:VS)(fr:AF)(s:AS):Prop:=au pg B 271 (gV 270 3 pg rs (.int .i64 0) st) fr s
abbrev sj(f j nt:Nat)(K:List Item):AF:=⟨f,aS [(j,.int .i64 0)],nt,K,[],none⟩
def oE(A:MN)(n:Nat)(cap:cL)(u:AV)(fs:List Fr)(r:Nat):List<|Nat×Option ae:=[(270,some<|.cells 13 (Tr.fill (A.row (.ptr<|some (271,0)) (.slice (some (r,0)) n cap)<|.int .i64 A.steps) 0 .nil) []),(271,some<|.tok 3 u),(r,some<|aN aH fs)]
abbrev pS(A:MN)(n:Nat)(cap:cL)(u:AV)(fs:List Fr):AS:=aq (ar++oE A n cap u fs 272) 273
abbrev Ae(j:Nat)(A:MN)(n:Nat)(cap:cL)(u:AV)(fs:List Fr)(r bQ:Nat):Pl:=.rn [(j,.int .i64 0)] (ar++oE A n cap u fs r) [(j,.int .i64 0)] (ar++oE A n cap u fs 272) bQ 273 .no
theorem Em(f j nt:Nat)(K:List Item)(A:MN)(n:Nat)(cap:cL)(u:AV)(fs:List Fr)(r bQ:Nat)(hlen:fs.length<=1000000)(nO:(AV.U A.G A.q A.lg).bZ=true)(hb:wc [(271,271),(272,r)] 271 bQ 273 [270,271,272]=true:=by as_aux_lemma=>kernel_rfl)(hi:Km [(271,271),(272,r)]=true:=by as_aux_lemma=>kernel_rfl)(hj:j<1000:=by omega):
 ([(j,AV.int .i64 0)].map (fun q=>some q.2)=[(j,AV.int .i64 0)].map (fun q=>some q.2))/\((ar++oE A n cap u fs r).map (fun q=>q.2)=(ar++oE A n cap u fs r).map (fun q=>q.2))/\jF FU 271 bQ [(j,.int .i64 0)] (ar++oE A n cap u fs r) [(j,.int .i64 0)] (ar++oE A n cap u fs 272) 273/\(sj f j nt K=sj f j nt K/\pS A n cap u fs=pS A n cap u fs):=by
 have ht:top=549755813888:=rfl;refine⟨rfl,rfl,Bv (ps:=[(271,271),(272,r)]) (lo:=271) (bQ:=bQ) ab hb hi (fun q hr ht=>⟨⟨by show j<top;omega,.int .i64 0,List.mem_cons_self,(bR.int _ _).z⟩,trivial⟩) fun q hr ht=>?_,rfl,rfl⟩;have e0:q 270=270:=by rw[hr];rfl
 have e1:q 271=271:=by rw[hr];rfl
 have e2:q 272=r:=by rw[hr];rfl
 refine⟨fun y hy=>?_,fun y hy=>?_,fun y hy=>?_,trivial⟩
 ·cases hy;refine⟨rfl,.cells 13 (Tr.fill (A.row (.ptr<|some (271,0)) (.slice (some (r,0)) n cap)<|.int .i64 A.steps) 0 .nil) [],?_,qX,?_⟩
  ·show(q 270,_)∈_;rw[e0];exact List.mem_cons_self
  ·exact SV (l:=[.int .i64 A.vars,.U A.G A.q A.lg,.int .i64 A.x0,.int .i64 A.x1,.int .i64 A.x2,.int .i64 A.x3,.int .i64 A.x4,.int .i64 A.x5,.int .i64 A.x6,.int .i64 A.x7,.ptr<|some (271,0),.slice (some (r,0)) n cap,.int .i64 A.steps]) (m:=[.int .i64 A.vars,.U A.G A.q A.lg,.int .i64 A.x0,.int .i64 A.x1,.int .i64 A.x2,.int .i64 A.x3,.int .i64 A.x4,.int .i64 A.x5,.int .i64 A.x6,.int .i64 A.x7,.ptr<|some (271,0),.slice (some (272,0)) n cap,.int .i64 A.steps]) (rest:=[]) (by show 13<=top;omega) ⟨(bR.int _ _).z,(FH ht (show(AV.U A.G A.q A.lg).hi=true from nO)).z,(bR.int _ _).z,(bR.int _ _).z,(bR.int _ _).z,(bR.int _ _).z,(bR.int _ _).z,(bR.int _ _).z,(bR.int _ _).z,(bR.int _ _).z,(bR.ptr e1).z,(bR.slice e2).z,(bR.int _ _).z,trivial⟩ rfl
 ·cases hy;refine⟨rfl,.tok 3 u,?_,iv.refl _,yM⟩;show(q 271,_)∈_;rw[e1];exact List.mem_cons_of_mem _ List.mem_cons_self
 ·cases hy;refine⟨rfl,aN aH fs,?_,iv.refl _,ID ht hlen⟩;show(q 272,_)∈_;rw[e2];exact List.mem_cons_of_mem _<|List.mem_cons_of_mem _ List.mem_cons_self
theorem Af(mc:Mt LM B){f nt:Nat}{t:Tr AV}{K:List Item}{s:AS}{rs:List ResultVar}{st:VS}{FR:AF}{S1:AS}(H:l9 B rs st FR S1)(p:Pl){T:Prop}(x:T)(h:T=wp (yj LM) 900 6 (.fr f nt K t s) p rs (fun v s _=>v= .int .i64 0/\∀m o,(m,o)∈dC 270 3 st->s.h.get m=some o) (fun fr s1 _=>fr=FR/\s1=S1):=by as_aux_lemma=>kernel_rfl)(h0:Nat.ble 271 s.nx=true:=by as_aux_lemma=>kernel_rfl):l9 B rs st ⟨f,t,nt,K,[],none⟩ s:=Qk mc (C:=fun fr s1 _=>fr=FR/\s1=S1) (fun fr s1 p hC=>by obtain⟨rfl,rfl⟩:=hC;exact H) p x h h0
theorem Bx{n:Nat}(mc:Mt LM B):l9 B (az Tryz.f41) (aQ a.pre n (.ak c 13) a.steps u fs) (sj 41 2 38<|dF 41 [1,1,1,1,1,1,1,1,1])<|pS a n (.ak c 13) u fs:=by exact nY mc (.rt 1 .no)<|nM (st:=(aQ a.pre n (.ak c 13) a.steps u fs)) (s:=pS a n (.ak c 13) u fs) (show(i0:AV)= .int .i64 0 from rfl) cN cN cN
theorem ahq{n:Nat}(mc:Mt LM B):l9 B (az Tryz.f48) (aQ a.pre n (.ak c 13) a.steps u fs) (sj 48 4 38<|dF 48 [1,1,1,1,1,1,1,1])<|pS a n (.ak c 13) u fs:=by exact nY mc (.rt 1 .no)<|nM (st:=(aQ a.pre n (.ak c 13) a.steps u fs)) (s:=pS a n (.ak c 13) u fs) (show(i0:AV)= .int .i64 0 from rfl) cN cN cN
end
end my
end
section
open Go Go.Rn Go.RowKit Go.Proofs
namespace WR
open cq gw eH gU fx gY eX cz dj cO cT fm eR fM fO fU gh fV gi gO gP gZ hU iH iX jI jJ lD lU kF my
noncomputable abbrev Bk(ka to op nn:Int)(N L:Nat)(aE n2:Int)(N2 L2:Nat)(bd el:List St):AV:=.agg [(.int .u8 ka),(i6 to),(u8<|op),(i6 nn),(.U N 0 L),(u8<|aE),(i6 n2),(.U N2 0 L2),(.U (nm (bd.map aM).flatten) 0 bd.length),(.U (nm (el.map aM).flatten) 0 el.length)]
noncomputable abbrev Om(fs:List Fr)(n:Nat):Fr:=({(av (fs.take n)<|(((0+n):Nat):Int) - 1) with ah:=((av (fs.take n)<|(((0+n):Nat):Int) - 1).ah+1),turns:=(av (fs.take n)<|(((0+n):Nat):Int) - 1).turns}:Fr)
noncomputable abbrev Js(a:MN)(n:Nat)(u:AV)(fs:List Fr):VS:=aQ a.pre (0+n) (.ak (0+n) 13) (a.steps+1) u<|(fs.take n).set ((((0+n):Nat):Int) - 1).toNat<|Om fs n
theorem step1{ka:Int}{kb:VS->List AV->AV×VS->Prop}{kc:Nat}(hk:(ka=1/\kb=zG/\kc=64)\/(ka=2/\kb=zo/\kc=65)\/(ka=3/\kb=yX/\kc=66)){B:aJ}{a:MN}{n c:Nat}{u:AV}{fs:List Fr}{A1:MN}{m1 c1:Nat}{u1:AV}{bq:List Fr}{A2:MN}{m2 c2:Nat}{u2:AV}{bj:List Fr}{N L N2 L2:Nat}{to op nn aE n2 z wi t:Int}{bd el ol fb:List St}{fa ft y0 y1 y2 y3 y4 y5 y6 y7:Int}{fo:Bool}{ub:AV}(mc:Mt LM B)(h1:1<=n)(hn:n<=fs.length)(hc:n<=c)(hf:fs.length<=1000000)(hR:fs.length*13<=top)(aD:0<=(av (fs.take n)<|((0+n:Nat):Int) - 1).ah/\(av (fs.take n)<|((0+n:Nat):Int) - 1).ah<=1000000)(cF:0<=a.steps/\a.steps<=1000000000000)(hlen:bj.length<=1000000)(nO:(AV.U A2.G A2.q A2.lg).bZ=true)(k0:bA 10 (aQ a.pre n (.ak c 13) a.steps u fs)=true)(k1:vR lk (aQ a.pre n (.ak c 13) a.steps u fs) []=some (.agg [(u8<|.ofNat 1),i0,i0]))(k2:((.tuple [(Bk ka to op nn N L aE n2 N2 L2 bd el),(.bool true)]):AV).hi=true)(k3:vR iU (aQ a.pre n (.ak c 13) a.steps u fs) []=some (.tuple [(Bk ka to op nn N L aE n2 N2 L2 bd el),(.bool true)]))(k4:([(Bk ka to op nn N L aE n2 N2 L2 bd el)]:List AV).all AV.hi=true)(k5:bA 10 (Js a n u fs)=true)(k6:dH kb (Js a n u fs) [(Bk ka to op nn N L aE n2 N2 L2 bd el)]=some (.tuple [],(aQ A1.pre m1 (.ak c1 13) A1.steps u1 bq)))(k7:bA 10 (aQ A1.pre m1 (.ak c1 13) A1.steps u1 bq)=true)(k8:dH eJ (aQ A1.pre m1 (.ak c1 13) A1.steps u1 bq) []=some (.tuple [],(aQ A2.pre m2 (.ak c2 13) A2.steps u2 bj)))(k9:bA 10 (aQ A2.pre m2 (.ak c2 13) A2.steps u2 bj)=true)(H:l9 B (az Tryz.f41) (aQ A2.pre m2 (.ak c2 13) A2.steps u2 bj) (sj 41 2 38<|dF 41 [1,1,1,1,1,1,1,1,1])<|pS A2 m2 (.ak c2 13) u2 bj):l9 B (az Tryz.f41) (aQ A2.pre m2 (.ak c2 13) A2.steps u2 bj) (sF 41 Tryz.f41 [(.ptr<|some (270,0))])<|aq (ar++bu (dC 270 3<|aQ a.pre n (.ak c 13) a.steps u fs)) 273:=by
 have ht:top=549755813888:=rfl;have ug:sp LM kc=some (m8 10 3 (dH kb) 270 eK dV):=by rcases hk with⟨_,rfl,rfl⟩|⟨_,rfl,rfl⟩|⟨_,rfl,rfl⟩<;>kernel_rfl
 have TT:=(yo LM 28 272 (vR lk) [] (aQ a.pre n (.ak c 13) a.steps u fs) (.agg [(u8<|.ofNat 1),i0,i0]) k0 k1<|jL LM 50 272 (vR iU) [] (aQ a.pre n (.ak c 13) a.steps u fs) (.tuple [(Bk ka to op nn N L aE n2 N2 L2 bd el),(.bool true)]) k0 k3 cN k2<|ai (wI<|a.steps+1)<|Ad (fs:=fs) (n:=n) ab En En<|ai (wI<|(((0+n):Nat):Int) - 1)<|dq ((((0+n):Nat):Int) - 1) (((0+n):Nat):Int)<|ai (ke fy En (jj (l:=(fs.take n)) (z:=((((0+n):Nat):Int) - 1)) ab En) 1 1 rfl)<|ai (wI<|(av (fs.take n)<|(((0+n):Nat):Int) - 1).ah+1)<|dq ((((0+n):Nat):Int) - 1) (((0+n):Nat):Int)<|ai (qc fy En (jj (l:=(fs.take n)) (z:=((((0+n):Nat):Int) - 1)) ab En) (c':=(Om fs n)) (r:=[(i6<|((av (fs.take n)<|(((0+n):Nat):Int) - 1).ah+1))]) 1 rfl rfl rfl)<|XU (h1:=ug) LM kc 276 (dH kb) [(Bk ka to op nn N L aE n2 N2 L2 bd el)] (Js a n u fs) (aQ A1.pre m1 (.ak c1 13) A1.steps u1 bq) k5 k6 k7 k4<|vV LM 62 276 (dH eJ) [] (aQ A1.pre m1 (.ak c1 13) A1.steps u1 bq) (aQ A2.pre m2 (.ak c2 13) A2.steps u2 bj) k7 k8 k9<|Em 41 2 38 (dF 41 [1,1,1,1,1,1,1,1,1]) A2 m2 (.ak c2 13) u2 bj 276 277 hlen nO);let P:Pl:=(.st 8<|.rg<|.go 1<|.cg (.agg [(u8<|.ofNat 1),i0,i0]) (vG 272) (vQ 272<|aQ a.pre n (.ak c 13) a.steps u fs)<|.go 3<|.en<|.st 6<|.rg<|.go 1<|.cg (.tuple [(Bk ka to op nn N L aE n2 N2 L2 bd el),(.bool true)]) (vG 272) (vQ 272<|aQ a.pre n (.ak c 13) a.steps u fs)<|.go 6<|.en<|.st 1<|.rg<|.go 4<|.vl (i6<|a.steps+1)<|.go 3<|.en<|.st 1<|.rg<|.go 1<|.il<|.st 1<|.rg<|.go 4<|.il<|.st 8<|.rg<|.go 2<|.ao [] (((fs).map aH).flatten) ((((fs.take n)).map aH).flatten)<|.go 1<|.en<|.rt 1<|.go 1<|.en<|.st 1<|.rg<|.go 3<|.vl (i6<|(((0+n):Nat):Int) - 1)<|.ix<|.go 1<|.ld [(i6<|(av (fs.take n)<|(((0+n):Nat):Int) - 1).ah)]<|.vl (i6<|(av (fs.take n)<|(((0+n):Nat):Int) - 1).ah+1)<|.ix<|.go 1<|.l6 (aN aH<|(fs.take n).set ((((0+n):Nat):Int) - 1).toNat<|Om fs n)<|.en<|.rt 2<|.en<|.st 1<|.rg<|.go 6<|.cg (.tuple []) (vF 276<|aQ A1.pre m1 (.ak c1 13) A1.steps u1 bq) (vQ 276<|Js a n u fs)<|.en<|.st 1<|.rg<|.go 1<|.cg (.tuple []) (vF 276<|aQ A2.pre m2 (.ak c2 13) A2.steps u2 bj) (vQ 276<|aQ A1.pre m1 (.ak c1 13) A1.steps u1 bq)<|.en<|.st 2<|(Ae 2 A2 m2 (.ak c2 13) u2 bj 276 277));rcases hk with⟨rfl,rfl,rfl⟩|⟨rfl,rfl,rfl⟩|⟨rfl,rfl,rfl⟩
 all_goals exact Af mc H P TT aW
end WR
end
section
open Go Go.Rn Go.RowKit Go.Proofs
namespace V5
open cq gw eH gU fx gY eX cz dj cO cT fm eR fM fO fU gh fV gi gO gP gZ hU iH iX jI jJ lD lU kF my
noncomputable abbrev AT(fs:List Fr)(n:Nat):Fr:=({(av (fs.take n)<|(((0+n):Nat):Int) - 1) with ah:=((av (fs.take n)<|(((0+n):Nat):Int) - 1).ah+1),turns:=(av (fs.take n)<|(((0+n):Nat):Int) - 1).turns}:Fr)
noncomputable abbrev IH(a:MN)(n:Nat)(u:AV)(fs:List Fr)(bd:List St):VS:=aQ a.pre ((((0+n):Nat):Int).toNat+1) (.ak ((((0+n):Nat):Int).toNat+1) 13) (a.steps+1) u<|((fs.take n).set ((((0+n):Nat):Int) - 1).toNat<|AT fs n).take (((0+n):Nat):Int).toNat++[(⟨bd,0,0,false,[0,0,0,0,0,0,0,0],none⟩:Fr)]
noncomputable abbrev II(to op nn:Int)(N L:Nat)(aE n2:Int)(N2 L2:Nat)(bd el:List St):AV:=.tuple [(.agg [(u8<|.ofNat 4),(i6 to),(u8<|op),(i6 nn),(.U N 0 L),(u8<|aE),(i6 n2),(.U N2 0 L2),(.U (nm (bd.map aM).flatten) 0 bd.length),(.U (nm (el.map aM).flatten) 0 el.length)]),(.bool true)]
noncomputable abbrev IJ(a:MN)(n:Nat)(u:AV)(fs:List Fr):VS:=aQ a.pre (0+n) (.ak (0+n) 13) (a.steps+1) u<|(fs.take n).set ((((0+n):Nat):Int) - 1).toNat<|AT fs n
noncomputable abbrev NM(bd:List St):List AV:=[(.U (nm (bd.map aM).flatten) 0 bd.length),i0,i0,(.bool false),i0,i0,i0,i0,i0,i0,i0,i0,(.slice none 0<|.known 0)]
theorem afG{B:aJ}{a:MN}{n c:Nat}{u:AV}{fs:List Fr}{A1:MN}{m1 c1:Nat}{u1:AV}{bq:List Fr}{A2:MN}{m2 c2:Nat}{u2:AV}{bj:List Fr}{N L N2 L2:Nat}{to op nn aE n2 z wi t:Int}{bd el ol fb:List St}{fa ft y0 y1 y2 y3 y4 y5 y6 y7:Int}{fo:Bool}{ub:AV}(mc:Mt LM B)(h1:1<=n)(hn:n<=fs.length)(hc:n<=c)(hf:fs.length<=1000000)(hR:fs.length*13<=top)(aD:0<=(av (fs.take n)<|((0+n:Nat):Int) - 1).ah/\(av (fs.take n)<|((0+n:Nat):Int) - 1).ah<=1000000)(cF:0<=a.steps/\a.steps<=1000000000000)(hlen:bj.length<=1000000)(nO:(AV.U A2.G A2.q A2.lg).bZ=true)(hz:z≠0)(k0:bA 10 (aQ a.pre n (.ak c 13) a.steps u fs)=true)(k1:vR lk (aQ a.pre n (.ak c 13) a.steps u fs) []=some (.agg [(u8<|.ofNat 1),i0,i0]))(k2:((II to op nn N L aE n2 N2 L2 bd el):AV).hi=true)(k3:vR iU (aQ a.pre n (.ak c 13) a.steps u fs) []=some (II to op nn N L aE n2 N2 L2 bd el))(k4:([.agg [.int .u8 op,.int .i64 nn,.U N 0 L]]:List AV).all AV.hi=true)(k5:bA 10 (IJ a n u fs)=true)(k6:vR jr (IJ a n u fs) [(.agg [(u8<|op),(i6 nn),(.U N 0 L)])]=some (i6 z))(k7:bA 10 (IH a n u fs bd)=true)(k8:dH eJ (IH a n u fs bd) []=some (.tuple [],(aQ A1.pre m1 (.ak c1 13) A1.steps u1 bq)))(k9:bA 10 (aQ A1.pre m1 (.ak c1 13) A1.steps u1 bq)=true)(rV:dH eJ (aQ A1.pre m1 (.ak c1 13) A1.steps u1 bq) []=some (.tuple [],(aQ A2.pre m2 (.ak c2 13) A2.steps u2 bj)))(yd:bA 10 (aQ A2.pre m2 (.ak c2 13) A2.steps u2 bj)=true)(H:l9 B (az Tryz.f41) (aQ A2.pre m2 (.ak c2 13) A2.steps u2 bj) (sj 41 2 38<|dF 41 [1,1,1,1,1,1,1,1,1])<|pS A2 m2 (.ak c2 13) u2 bj):l9 B (az Tryz.f41) (aQ A2.pre m2 (.ak c2 13) A2.steps u2 bj) (sF 41 Tryz.f41 [(.ptr<|some (270,0))])<|aq (ar++bu (dC 270 3<|aQ a.pre n (.ak c 13) a.steps u fs)) 273:=by have ht:top=549755813888:=rfl;exact Af mc H (.st 8<|.rg<|.go 1<|.cg (.agg [(u8<|.ofNat 1),i0,i0]) (vG 272) (vQ 272<|aQ a.pre n (.ak c 13) a.steps u fs)<|.go 3<|.en<|.st 6<|.rg<|.go 1<|.cg (II to op nn N L aE n2 N2 L2 bd el) (vG 272) (vQ 272<|aQ a.pre n (.ak c 13) a.steps u fs)<|.go 6<|.en<|.st 1<|.rg<|.go 4<|.vl (i6<|a.steps+1)<|.go 3<|.en<|.st 1<|.rg<|.go 1<|.il<|.st 1<|.rg<|.go 4<|.il<|.st 8<|.rg<|.go 2<|.ao [] (((fs).map aH).flatten) ((((fs.take n)).map aH).flatten)<|.go 1<|.en<|.rt 1<|.go 1<|.en<|.st 1<|.rg<|.go 3<|.vl (i6<|(((0+n):Nat):Int) - 1)<|.ix<|.go 1<|.ld [(i6<|(av (fs.take n)<|(((0+n):Nat):Int) - 1).ah)]<|.vl (i6<|(av (fs.take n)<|(((0+n):Nat):Int) - 1).ah+1)<|.ix<|.go 1<|.l6 (aN aH<|(fs.take n).set ((((0+n):Nat):Int) - 1).toNat<|AT fs n)<|.en<|.rt 2<|.en<|.st 1<|.rg<|.go 6<|.il<|.st 4<|.rg<|.go 3<|.cg (i6 z) (vG 276) (vQ 276<|IJ a n u fs)<|.fk (.en<|.st 2<|.rg<|.go 4<|.il<|.st 3<|.rg<|.go 15<|.s3<|.go 2<|.an (((((fs.take n).set ((((0+n):Nat):Int) - 1).toNat<|AT fs n)).map aH).flatten) (NM bd) ((((((fs.take n).set ((((0+n):Nat):Int) - 1).toNat<|AT fs n).take (((0+n):Nat):Int).toNat++[(⟨bd,0,0,false,[0,0,0,0,0,0,0,0],none⟩:Fr)])).map aH).flatten)<|.go 3<|.en<|.rg<|.go 1<|.cg (.tuple []) (vF 280<|aQ A1.pre m1 (.ak c1 13) A1.steps u1 bq) (vQ 280<|IH a n u fs bd)<|.en<|.rt 1<|.en<|.rt 1<|.en<|.st 1<|.rg<|.go 1<|.cg (.tuple []) (vF 280<|aQ A2.pre m2 (.ak c2 13) A2.steps u2 bj) (vQ 280<|aQ A1.pre m1 (.ak c1 13) A1.steps u1 bq)<|.en<|.st 2<|(Ae 2 A2 m2 (.ak c2 13) u2 bj 280 281))<|.no)<|yo LM 28 272 (vR lk) [] (aQ a.pre n (.ak c 13) a.steps u fs) (.agg [(u8<|.ofNat 1),i0,i0]) k0 k1<|jL LM 50 272 (vR iU) [] (aQ a.pre n (.ak c 13) a.steps u fs) (II to op nn N L aE n2 N2 L2 bd el) k0 k3 ct k2<|ai BG<|Ad (fs:=fs) (n:=n) ab dR dR<|ai BF<|dq ((((0+n):Nat):Int) - 1) (((0+n):Nat):Int)<|ai (ke fy dR (jj (l:=(fs.take n)) (z:=((((0+n):Nat):Int) - 1)) ab dR) 1 1 rfl)<|ai BE<|dq ((((0+n):Nat):Int) - 1) (((0+n):Nat):Int)<|ai (qc fy dR (jj (l:=(fs.take n)) (z:=((((0+n):Nat):Int) - 1)) ab dR) (c':=(AT fs n)) (r:=[(i6<|((av (fs.take n)<|(((0+n):Nat):Int) - 1).ah+1))]) 1 rfl rfl rfl)<|jL LM 51 276 (vR jr) [(.agg [(u8<|op),(i6 nn),(.U N 0 L)])] (IJ a n u fs) (i6 z) k5 k6 k4 ct<|ax (z≠0) (fun _=>(ai (show 0<=(((0+n):Nat):Int) from ab)<|ai (show(((0+n):Nat):Int)<=(((0+n):Nat):Int) from ab)<|ai (show(((0+n):Nat):Int)<=Int.ofNat (iR (0+n)<|.ak (0+n) 13) from(show(((0+n):Nat):Int)<=(((0+n):Nat):Int) from by omega))<|Hf (fs:=((fs.take n).set ((((0+n):Nat):Int) - 1).toNat<|AT fs n)) (n:=(((0+n):Nat):Int).toNat) (f:=(⟨bd,0,0,false,[0,0,0,0,0,0,0,0],none⟩:Fr)) (cs:=(NM bd)) (show aH (⟨bd,0,0,false,[0,0,0,0,0,0,0,0],none⟩:Fr)=(NM bd) from rfl) ab dR dR<|vV LM 62 280 (dH eJ) [] (IH a n u fs bd) (aQ A1.pre m1 (.ak c1 13) A1.steps u1 bq) k7 k8 k9 Pr)) bh
end V5
end
section
open Go Go.Rn Go.RowKit Go.Proofs
namespace V6
open cq gw eH gU fx gY eX cz dj cO cT fm eR fM fO fU gh fV gi gO gP gZ hU iH iX jI jJ lD lU kF my
noncomputable abbrev AU(fs:List Fr)(n:Nat):Fr:=({(av (fs.take n)<|(((0+n):Nat):Int) - 1) with ah:=((av (fs.take n)<|(((0+n):Nat):Int) - 1).ah+1),turns:=(av (fs.take n)<|(((0+n):Nat):Int) - 1).turns}:Fr)
noncomputable abbrev IK(a:MN)(n:Nat)(u:AV)(fs:List Fr)(el:List St):VS:=aQ a.pre ((((0+n):Nat):Int).toNat+1) (.ak ((((0+n):Nat):Int).toNat+1) 13) (a.steps+1) u<|((fs.take n).set ((((0+n):Nat):Int) - 1).toNat<|AU fs n).take (((0+n):Nat):Int).toNat++[(⟨el,0,0,false,[0,0,0,0,0,0,0,0],none⟩:Fr)]
noncomputable abbrev IL(to op nn:Int)(N L:Nat)(aE n2:Int)(N2 L2:Nat)(bd el:List St):AV:=.tuple [(.agg [(u8<|.ofNat 4),(i6 to),(u8<|op),(i6 nn),(.U N 0 L),(u8<|aE),(i6 n2),(.U N2 0 L2),(.U (nm (bd.map aM).flatten) 0 bd.length),(.U (nm (el.map aM).flatten) 0 el.length)]),(.bool true)]
noncomputable abbrev IM(a:MN)(n:Nat)(u:AV)(fs:List Fr):VS:=aQ a.pre (0+n) (.ak (0+n) 13) (a.steps+1) u<|(fs.take n).set ((((0+n):Nat):Int) - 1).toNat<|AU fs n
noncomputable abbrev NN(el:List St):List AV:=[(.U (nm (el.map aM).flatten) 0 el.length),i0,i0,(.bool false),i0,i0,i0,i0,i0,i0,i0,i0,(.slice none 0<|.known 0)]
theorem afH{B:aJ}{a:MN}{n c:Nat}{u:AV}{fs:List Fr}{A1:MN}{m1 c1:Nat}{u1:AV}{bq:List Fr}{A2:MN}{m2 c2:Nat}{u2:AV}{bj:List Fr}{N L N2 L2:Nat}{to op nn aE n2 z wi t:Int}{bd el ol fb:List St}{fa ft y0 y1 y2 y3 y4 y5 y6 y7:Int}{fo:Bool}{ub:AV}(mc:Mt LM B)(h1:1<=n)(hn:n<=fs.length)(hc:n<=c)(hf:fs.length<=1000000)(hR:fs.length*13<=top)(aD:0<=(av (fs.take n)<|((0+n:Nat):Int) - 1).ah/\(av (fs.take n)<|((0+n:Nat):Int) - 1).ah<=1000000)(cF:0<=a.steps/\a.steps<=1000000000000)(hlen:bj.length<=1000000)(nO:(AV.U A2.G A2.q A2.lg).bZ=true)(hz:z=0)(k0:bA 10 (aQ a.pre n (.ak c 13) a.steps u fs)=true)(k1:vR lk (aQ a.pre n (.ak c 13) a.steps u fs) []=some (.agg [(u8<|.ofNat 1),i0,i0]))(k2:((IL to op nn N L aE n2 N2 L2 bd el):AV).hi=true)(k3:vR iU (aQ a.pre n (.ak c 13) a.steps u fs) []=some (IL to op nn N L aE n2 N2 L2 bd el))(k4:([.agg [.int .u8 op,.int .i64 nn,.U N 0 L]]:List AV).all AV.hi=true)(k5:bA 10 (IM a n u fs)=true)(k6:vR jr (IM a n u fs) [(.agg [(u8<|op),(i6 nn),(.U N 0 L)])]=some (i6 z))(k7:bA 10 (IK a n u fs el)=true)(k8:dH eJ (IK a n u fs el) []=some (.tuple [],(aQ A1.pre m1 (.ak c1 13) A1.steps u1 bq)))(k9:bA 10 (aQ A1.pre m1 (.ak c1 13) A1.steps u1 bq)=true)(rV:dH eJ (aQ A1.pre m1 (.ak c1 13) A1.steps u1 bq) []=some (.tuple [],(aQ A2.pre m2 (.ak c2 13) A2.steps u2 bj)))(yd:bA 10 (aQ A2.pre m2 (.ak c2 13) A2.steps u2 bj)=true)(H:l9 B (az Tryz.f41) (aQ A2.pre m2 (.ak c2 13) A2.steps u2 bj) (sj 41 2 38<|dF 41 [1,1,1,1,1,1,1,1,1])<|pS A2 m2 (.ak c2 13) u2 bj):l9 B (az Tryz.f41) (aQ A2.pre m2 (.ak c2 13) A2.steps u2 bj) (sF 41 Tryz.f41 [(.ptr<|some (270,0))])<|aq (ar++bu (dC 270 3<|aQ a.pre n (.ak c 13) a.steps u fs)) 273:=by have ht:top=549755813888:=rfl;exact Af mc H (.st 8<|.rg<|.go 1<|.cg (.agg [(u8<|.ofNat 1),i0,i0]) (vG 272) (vQ 272<|aQ a.pre n (.ak c 13) a.steps u fs)<|.go 3<|.en<|.st 6<|.rg<|.go 1<|.cg (IL to op nn N L aE n2 N2 L2 bd el) (vG 272) (vQ 272<|aQ a.pre n (.ak c 13) a.steps u fs)<|.go 6<|.en<|.st 1<|.rg<|.go 4<|.vl (i6<|a.steps+1)<|.go 3<|.en<|.st 1<|.rg<|.go 1<|.il<|.st 1<|.rg<|.go 4<|.il<|.st 8<|.rg<|.go 2<|.ao [] (((fs).map aH).flatten) ((((fs.take n)).map aH).flatten)<|.go 1<|.en<|.rt 1<|.go 1<|.en<|.st 1<|.rg<|.go 3<|.vl (i6<|(((0+n):Nat):Int) - 1)<|.ix<|.go 1<|.ld [(i6<|(av (fs.take n)<|(((0+n):Nat):Int) - 1).ah)]<|.vl (i6<|(av (fs.take n)<|(((0+n):Nat):Int) - 1).ah+1)<|.ix<|.go 1<|.l6 (aN aH<|(fs.take n).set ((((0+n):Nat):Int) - 1).toNat<|AU fs n)<|.en<|.rt 2<|.en<|.st 1<|.rg<|.go 6<|.il<|.st 4<|.rg<|.go 3<|.cg (i6 z) (vG 276) (vQ 276<|IM a n u fs)<|.fk (.no)<|.en<|.st 2<|.rg<|.go 4<|.il<|.st 3<|.rg<|.go 15<|.s3<|.go 2<|.an (((((fs.take n).set ((((0+n):Nat):Int) - 1).toNat<|AU fs n)).map aH).flatten) (NN el) ((((((fs.take n).set ((((0+n):Nat):Int) - 1).toNat<|AU fs n).take (((0+n):Nat):Int).toNat++[(⟨el,0,0,false,[0,0,0,0,0,0,0,0],none⟩:Fr)])).map aH).flatten)<|.go 3<|.en<|.rg<|.go 1<|.cg (.tuple []) (vF 280<|aQ A1.pre m1 (.ak c1 13) A1.steps u1 bq) (vQ 280<|IK a n u fs el)<|.en<|.rt 1<|.en<|.rt 1<|.en<|.st 1<|.rg<|.go 1<|.cg (.tuple []) (vF 280<|aQ A2.pre m2 (.ak c2 13) A2.steps u2 bj) (vQ 280<|aQ A1.pre m1 (.ak c1 13) A1.steps u1 bq)<|.en<|.st 2<|(Ae 2 A2 m2 (.ak c2 13) u2 bj 280 281))<|yo LM 28 272 (vR lk) [] (aQ a.pre n (.ak c 13) a.steps u fs) (.agg [(u8<|.ofNat 1),i0,i0]) k0 k1<|jL LM 50 272 (vR iU) [] (aQ a.pre n (.ak c 13) a.steps u fs) (IL to op nn N L aE n2 N2 L2 bd el) k0 k3 ct k2<|ai BG<|Ad (fs:=fs) (n:=n) ab dR dR<|ai BF<|dq ((((0+n):Nat):Int) - 1) (((0+n):Nat):Int)<|ai (ke fy dR (jj (l:=(fs.take n)) (z:=((((0+n):Nat):Int) - 1)) ab dR) 1 1 rfl)<|ai BE<|dq ((((0+n):Nat):Int) - 1) (((0+n):Nat):Int)<|ai (qc fy dR (jj (l:=(fs.take n)) (z:=((((0+n):Nat):Int) - 1)) ab dR) (c':=(AU fs n)) (r:=[(i6<|((av (fs.take n)<|(((0+n):Nat):Int) - 1).ah+1))]) 1 rfl rfl rfl)<|jL LM 51 276 (vR jr) [(.agg [(u8<|op),(i6 nn),(.U N 0 L)])] (IM a n u fs) (i6 z) k5 k6 k4 ct<|ax (z≠0) bh fun _=>(ai (show 0<=(((0+n):Nat):Int) from ab)<|ai (show(((0+n):Nat):Int)<=(((0+n):Nat):Int) from ab)<|ai (show(((0+n):Nat):Int)<=Int.ofNat (iR (0+n)<|.ak (0+n) 13) from(show(((0+n):Nat):Int)<=(((0+n):Nat):Int) from by omega))<|Hf (fs:=((fs.take n).set ((((0+n):Nat):Int) - 1).toNat<|AU fs n)) (n:=(((0+n):Nat):Int).toNat) (f:=(⟨el,0,0,false,[0,0,0,0,0,0,0,0],none⟩:Fr)) (cs:=(NN el)) (show aH (⟨el,0,0,false,[0,0,0,0,0,0,0,0],none⟩:Fr)=(NN el) from rfl) ab dR dR<|vV LM 62 280 (dH eJ) [] (IK a n u fs el) (aQ A1.pre m1 (.ak c1 13) A1.steps u1 bq) k7 k8 k9 Pr)
end V6
end
section
open Go Go.Rn Go.RowKit Go.Proofs
namespace V7
open cq gw eH gU fx gY eX cz dj cO cT fm eR fM fO fU gh fV gi gO gP gZ hU iH iX jI jJ lD lU kF my
noncomputable abbrev AW(fs:List Fr)(n:Nat):Fr:=({(av (fs.take n)<|(((0+n):Nat):Int) - 1) with ah:=((av (fs.take n)<|(((0+n):Nat):Int) - 1).ah+1),turns:=(av (fs.take n)<|(((0+n):Nat):Int) - 1).turns}:Fr)
noncomputable abbrev IN(a:MN)(n:Nat)(u:AV)(fs:List Fr)(bd:List St)(z:Int):VS:=aQ a.pre ((((0+n):Nat):Int).toNat+1) (.ak ((((0+n):Nat):Int).toNat+1) 13) (a.steps+1) u<|((fs.take n).set ((((0+n):Nat):Int) - 1).toNat<|AW fs n).take (((0+n):Nat):Int).toNat++[(⟨bd,0,((dY (cK z<|0)<|8) - 1),false,[0,0,0,0,0,0,0,0],none⟩:Fr)]
noncomputable abbrev IP(to op nn:Int)(N L:Nat)(aE n2:Int)(N2 L2:Nat)(bd el:List St):AV:=.tuple [(.agg [(u8<|.ofNat 5),(i6 to),(u8<|op),(i6 nn),(.U N 0 L),(u8<|aE),(i6 n2),(.U N2 0 L2),(.U (nm (bd.map aM).flatten) 0 bd.length),(.U (nm (el.map aM).flatten) 0 el.length)]),(.bool true)]
noncomputable abbrev NO(bd:List St)(z:Int):List AV:=[(.U (nm (bd.map aM).flatten) 0 bd.length),i0,(i6<|((dY (cK z (0:Int)) (8:Int)) - 1)),(.bool false),i0,i0,i0,i0,i0,i0,i0,i0,(.slice none 0<|.known 0)]
noncomputable abbrev IQ(a:MN)(n:Nat)(u:AV)(fs:List Fr):VS:=aQ a.pre (0+n) (.ak (0+n) 13) (a.steps+1) u<|(fs.take n).set ((((0+n):Nat):Int) - 1).toNat<|AW fs n
theorem afI{B:aJ}{a:MN}{n c:Nat}{u:AV}{fs:List Fr}{A1:MN}{m1 c1:Nat}{u1:AV}{bq:List Fr}{A2:MN}{m2 c2:Nat}{u2:AV}{bj:List Fr}{N L N2 L2:Nat}{to op nn aE n2 z wi t:Int}{bd el ol fb:List St}{fa ft y0 y1 y2 y3 y4 y5 y6 y7:Int}{fo:Bool}{ub:AV}(mc:Mt LM B)(h1:1<=n)(hn:n<=fs.length)(hc:n<=c)(hf:fs.length<=1000000)(hR:fs.length*13<=top)(aD:0<=(av (fs.take n)<|((0+n:Nat):Int) - 1).ah/\(av (fs.take n)<|((0+n:Nat):Int) - 1).ah<=1000000)(cF:0<=a.steps/\a.steps<=1000000000000)(hlen:bj.length<=1000000)(nO:(AV.U A2.G A2.q A2.lg).bZ=true)(hz:0<(dY (cK z<|0)<|8)/\(dY (cK z<|0)<|8)<=8)(k0:bA 10 (aQ a.pre n (.ak c 13) a.steps u fs)=true)(k1:vR lk (aQ a.pre n (.ak c 13) a.steps u fs) []=some (.agg [(u8<|.ofNat 1),i0,i0]))(k2:((IP to op nn N L aE n2 N2 L2 bd el):AV).hi=true)(k3:vR iU (aQ a.pre n (.ak c 13) a.steps u fs) []=some (IP to op nn N L aE n2 N2 L2 bd el))(k4:([.agg [.int .u8 op,.int .i64 nn,.U N 0 L]]:List AV).all AV.hi=true)(k5:bA 10 (IQ a n u fs)=true)(k6:vR jr (IQ a n u fs) [(.agg [(u8<|op),(i6 nn),(.U N 0 L)])]=some (i6 z))(k7:bA 10 (IN a n u fs bd z)=true)(k8:dH eJ (IN a n u fs bd z) []=some (.tuple [],(aQ A1.pre m1 (.ak c1 13) A1.steps u1 bq)))(k9:bA 10 (aQ A1.pre m1 (.ak c1 13) A1.steps u1 bq)=true)(rV:dH eJ (aQ A1.pre m1 (.ak c1 13) A1.steps u1 bq) []=some (.tuple [],(aQ A2.pre m2 (.ak c2 13) A2.steps u2 bj)))(yd:bA 10 (aQ A2.pre m2 (.ak c2 13) A2.steps u2 bj)=true)(H:l9 B (az Tryz.f41) (aQ A2.pre m2 (.ak c2 13) A2.steps u2 bj) (sj 41 2 38<|dF 41 [1,1,1,1,1,1,1,1,1])<|pS A2 m2 (.ak c2 13) u2 bj):l9 B (az Tryz.f41) (aQ A2.pre m2 (.ak c2 13) A2.steps u2 bj) (sF 41 Tryz.f41 [(.ptr<|some (270,0))])<|aq (ar++bu (dC 270 3<|aQ a.pre n (.ak c 13) a.steps u fs)) 273:=by have ht:top=549755813888:=rfl;exact Af mc H (.st 8<|.rg<|.go 1<|.cg (.agg [(u8<|.ofNat 1),i0,i0]) (vG 272) (vQ 272<|aQ a.pre n (.ak c 13) a.steps u fs)<|.go 3<|.en<|.st 6<|.rg<|.go 1<|.cg (IP to op nn N L aE n2 N2 L2 bd el) (vG 272) (vQ 272<|aQ a.pre n (.ak c 13) a.steps u fs)<|.go 6<|.en<|.st 1<|.rg<|.go 4<|.vl (i6<|a.steps+1)<|.go 3<|.en<|.st 1<|.rg<|.go 1<|.il<|.st 1<|.rg<|.go 4<|.il<|.st 8<|.rg<|.go 2<|.ao [] (((fs).map aH).flatten) ((((fs.take n)).map aH).flatten)<|.go 1<|.en<|.rt 1<|.go 1<|.en<|.st 1<|.rg<|.go 3<|.vl (i6<|(((0+n):Nat):Int) - 1)<|.ix<|.go 1<|.ld [(i6<|(av (fs.take n)<|(((0+n):Nat):Int) - 1).ah)]<|.vl (i6<|(av (fs.take n)<|(((0+n):Nat):Int) - 1).ah+1)<|.ix<|.go 1<|.l6 (aN aH<|(fs.take n).set ((((0+n):Nat):Int) - 1).toNat<|AW fs n)<|.en<|.rt 2<|.en<|.st 1<|.rg<|.go 6<|.il<|.st 3<|.rg<|.go 3<|.cg (i6 z) (vG 276) (vQ 276<|IQ a n u fs)<|.vl (i6<|(cK z (0:Int)))<|.vl (i6<|(dY (cK z (0:Int)) (8:Int)))<|.go 1<|.en<|.st 1<|.rg<|.go 1<|.fk (.en<|.st 1<|.rg<|.go 4<|.vl (i6<|(dY (cK z (0:Int)) (8:Int)) - 1)<|.go 1<|.il<|.st 3<|.rg<|.go 15<|.s3<|.go 2<|.an (((((fs.take n).set ((((0+n):Nat):Int) - 1).toNat<|AW fs n)).map aH).flatten) (NO bd z) ((((((fs.take n).set ((((0+n):Nat):Int) - 1).toNat<|AW fs n).take (((0+n):Nat):Int).toNat++[(⟨bd,0,((dY (cK z<|0)<|8) - 1),false,[0,0,0,0,0,0,0,0],none⟩:Fr)])).map aH).flatten)<|.go 3<|.en<|.rg<|.go 1<|.cg (.tuple []) (vF 280<|aQ A1.pre m1 (.ak c1 13) A1.steps u1 bq) (vQ 280<|IN a n u fs bd z)<|.en<|.rt 1<|.en<|.rt 1<|.en<|.st 1<|.rg<|.go 1<|.cg (.tuple []) (vF 280<|aQ A2.pre m2 (.ak c2 13) A2.steps u2 bj) (vQ 280<|aQ A1.pre m1 (.ak c1 13) A1.steps u1 bq)<|.en<|.st 2<|(Ae 2 A2 m2 (.ak c2 13) u2 bj 280 281))<|.no)<|yo LM 28 272 (vR lk) [] (aQ a.pre n (.ak c 13) a.steps u fs) (.agg [(u8<|.ofNat 1),i0,i0]) k0 k1<|jL LM 50 272 (vR iU) [] (aQ a.pre n (.ak c 13) a.steps u fs) (IP to op nn N L aE n2 N2 L2 bd el) k0 k3 ct k2<|ai BG<|Ad (fs:=fs) (n:=n) ab dR dR<|ai BF<|dq ((((0+n):Nat):Int) - 1) (((0+n):Nat):Int)<|ai (ke fy dR (jj (l:=(fs.take n)) (z:=((((0+n):Nat):Int) - 1)) ab dR) 1 1 rfl)<|ai BE<|dq ((((0+n):Nat):Int) - 1) (((0+n):Nat):Int)<|ai (qc fy dR (jj (l:=(fs.take n)) (z:=((((0+n):Nat):Int) - 1)) ab dR) (c':=(AW fs n)) (r:=[(i6<|((av (fs.take n)<|(((0+n):Nat):Int) - 1).ah+1))]) 1 rfl rfl rfl)<|jL LM 51 276 (vR jr) [(.agg [(u8<|op),(i6 nn),(.U N 0 L)])] (IQ a n u fs) (i6 z) k5 k6 k4 ct<|ai (congrArg (AV.int .i64) (show(match decide ((0:Int)>z) with|true=>(0:Int)|false=>z)=cK z (0:Int) from rfl))<|ai (congrArg (AV.int .i64) (show(match decide ((8:Int)<(cK z (0:Int))) with|true=>(8:Int)|false=>(cK z (0:Int)))=dY (cK z (0:Int)) (8:Int) from rfl))<|ax ((dY (cK z (0:Int)) (8:Int))>0) (fun _=>(ai (wI<|(dY (cK z (0:Int)) (8:Int)) - 1)<|ai (show 0<=(((0+n):Nat):Int) from ab)<|ai (show(((0+n):Nat):Int)<=(((0+n):Nat):Int) from ab)<|ai (show(((0+n):Nat):Int)<=Int.ofNat (iR (0+n)<|.ak (0+n) 13) from(show(((0+n):Nat):Int)<=(((0+n):Nat):Int) from by omega))<|Hf (fs:=((fs.take n).set ((((0+n):Nat):Int) - 1).toNat<|AW fs n)) (n:=(((0+n):Nat):Int).toNat) (f:=(⟨bd,0,((dY (cK z<|0)<|8) - 1),false,[0,0,0,0,0,0,0,0],none⟩:Fr)) (cs:=(NO bd z)) (show aH (⟨bd,0,((dY (cK z<|0)<|8) - 1),false,[0,0,0,0,0,0,0,0],none⟩:Fr)=(NO bd z) from rfl) ab dR dR<|vV LM 62 280 (dH eJ) [] (IN a n u fs bd z) (aQ A1.pre m1 (.ak c1 13) A1.steps u1 bq) k7 k8 k9 Pr)) bh
end V7
end
section
open Go Go.Rn Go.RowKit Go.Proofs
namespace V8
open cq gw eH gU fx gY eX cz dj cO cT fm eR fM fO fU gh fV gi gO gP gZ hU iH iX jI jJ lD lU kF my
noncomputable abbrev AX(a:MN)(n:Nat)(u:AV)(fs:List Fr):VS:=aQ a.pre (0+n) (.ak (0+n) 13) (a.steps+1) u<|(fs.take n).set ((((0+n):Nat):Int) - 1).toNat ({(av (fs.take n)<|(((0+n):Nat):Int) - 1) with ah:=((av (fs.take n)<|(((0+n):Nat):Int) - 1).ah+1),turns:=(av (fs.take n)<|(((0+n):Nat):Int) - 1).turns}:Fr)
noncomputable abbrev IS(to op nn:Int)(N L:Nat)(aE n2:Int)(N2 L2:Nat)(bd el:List St):AV:=.tuple [(.agg [(u8<|.ofNat 5),(i6 to),(u8<|op),(i6 nn),(.U N 0 L),(u8<|aE),(i6 n2),(.U N2 0 L2),(.U (nm (bd.map aM).flatten) 0 bd.length),(.U (nm (el.map aM).flatten) 0 el.length)]),(.bool true)]
theorem afJ{B:aJ}{a:MN}{n c:Nat}{u:AV}{fs:List Fr}{A1:MN}{m1 c1:Nat}{u1:AV}{bq:List Fr}{A2:MN}{m2 c2:Nat}{u2:AV}{bj:List Fr}{N L N2 L2:Nat}{to op nn aE n2 z wi t:Int}{bd el ol fb:List St}{fa ft y0 y1 y2 y3 y4 y5 y6 y7:Int}{fo:Bool}{ub:AV}(mc:Mt LM B)(h1:1<=n)(hn:n<=fs.length)(hc:n<=c)(hf:fs.length<=1000000)(hR:fs.length*13<=top)(aD:0<=(av (fs.take n)<|((0+n:Nat):Int) - 1).ah/\(av (fs.take n)<|((0+n:Nat):Int) - 1).ah<=1000000)(cF:0<=a.steps/\a.steps<=1000000000000)(hlen:bq.length<=1000000)(nO:(AV.U A1.G A1.q A1.lg).bZ=true)(hz:(dY (cK z<|0)<|8)<=0)(k0:bA 10 (aQ a.pre n (.ak c 13) a.steps u fs)=true)(k1:vR lk (aQ a.pre n (.ak c 13) a.steps u fs) []=some (.agg [(u8<|.ofNat 1),i0,i0]))(k2:((IS to op nn N L aE n2 N2 L2 bd el):AV).hi=true)(k3:vR iU (aQ a.pre n (.ak c 13) a.steps u fs) []=some (IS to op nn N L aE n2 N2 L2 bd el))(k4:([.agg [.int .u8 op,.int .i64 nn,.U N 0 L]]:List AV).all AV.hi=true)(k5:bA 10 (AX a n u fs)=true)(k6:vR jr (AX a n u fs) [(.agg [(u8<|op),(i6 nn),(.U N 0 L)])]=some (i6 z))(k7:dH eJ (AX a n u fs) []=some (.tuple [],(aQ A1.pre m1 (.ak c1 13) A1.steps u1 bq)))(k8:bA 10 (aQ A1.pre m1 (.ak c1 13) A1.steps u1 bq)=true)(H:l9 B (az Tryz.f41) (aQ A1.pre m1 (.ak c1 13) A1.steps u1 bq) (sj 41 2 38<|dF 41 [1,1,1,1,1,1,1,1,1])<|pS A1 m1 (.ak c1 13) u1 bq):l9 B (az Tryz.f41) (aQ A1.pre m1 (.ak c1 13) A1.steps u1 bq) (sF 41 Tryz.f41 [(.ptr<|some (270,0))])<|aq (ar++bu (dC 270 3<|aQ a.pre n (.ak c 13) a.steps u fs)) 273:=by have ht:top=549755813888:=rfl;exact Af mc H (.st 8<|.rg<|.go 1<|.cg (.agg [(u8<|.ofNat 1),i0,i0]) (vG 272) (vQ 272<|aQ a.pre n (.ak c 13) a.steps u fs)<|.go 3<|.en<|.st 6<|.rg<|.go 1<|.cg (IS to op nn N L aE n2 N2 L2 bd el) (vG 272) (vQ 272<|aQ a.pre n (.ak c 13) a.steps u fs)<|.go 6<|.en<|.st 1<|.rg<|.go 4<|.vl (i6<|a.steps+1)<|.go 3<|.en<|.st 1<|.rg<|.go 1<|.il<|.st 1<|.rg<|.go 4<|.il<|.st 8<|.rg<|.go 2<|.ao [] (((fs).map aH).flatten) ((((fs.take n)).map aH).flatten)<|.go 1<|.en<|.rt 1<|.go 1<|.en<|.st 1<|.rg<|.go 3<|.vl (i6<|(((0+n):Nat):Int) - 1)<|.ix<|.go 1<|.ld [(i6<|(av (fs.take n)<|(((0+n):Nat):Int) - 1).ah)]<|.vl (i6<|(av (fs.take n)<|(((0+n):Nat):Int) - 1).ah+1)<|.ix<|.go 1<|.l6 (aN aH<|(fs.take n).set ((((0+n):Nat):Int) - 1).toNat ({(av (fs.take n)<|(((0+n):Nat):Int) - 1) with ah:=((av (fs.take n)<|(((0+n):Nat):Int) - 1).ah+1),turns:=(av (fs.take n)<|(((0+n):Nat):Int) - 1).turns}:Fr))<|.en<|.rt 2<|.en<|.st 1<|.rg<|.go 6<|.il<|.st 3<|.rg<|.go 3<|.cg (i6 z) (vG 276) (vQ 276<|AX a n u fs)<|.vl (i6<|(cK z (0:Int)))<|.vl (i6<|(dY (cK z (0:Int)) (8:Int)))<|.go 1<|.en<|.st 1<|.rg<|.go 1<|.fk (.no)<|.en<|.rt 3<|.en<|.st 1<|.rg<|.go 1<|.cg (.tuple []) (vF 276<|aQ A1.pre m1 (.ak c1 13) A1.steps u1 bq) (vQ 276<|AX a n u fs)<|.en<|.st 2<|(Ae 2 A1 m1 (.ak c1 13) u1 bq 276 278))<|yo LM 28 272 (vR lk) [] (aQ a.pre n (.ak c 13) a.steps u fs) (.agg [(u8<|.ofNat 1),i0,i0]) k0 k1<|jL LM 50 272 (vR iU) [] (aQ a.pre n (.ak c 13) a.steps u fs) (IS to op nn N L aE n2 N2 L2 bd el) k0 k3 ct k2<|ai BG<|Ad (fs:=fs) (n:=n) ab dR dR<|ai BF<|dq ((((0+n):Nat):Int) - 1) (((0+n):Nat):Int)<|ai (ke fy dR (jj (l:=(fs.take n)) (z:=((((0+n):Nat):Int) - 1)) ab dR) 1 1 rfl)<|ai BE<|dq ((((0+n):Nat):Int) - 1) (((0+n):Nat):Int)<|ai (qc fy dR (jj (l:=(fs.take n)) (z:=((((0+n):Nat):Int) - 1)) ab dR) (c':=({(av (fs.take n)<|(((0+n):Nat):Int) - 1) with ah:=((av (fs.take n)<|(((0+n):Nat):Int) - 1).ah+1),turns:=(av (fs.take n)<|(((0+n):Nat):Int) - 1).turns}:Fr)) (r:=[(i6<|((av (fs.take n)<|(((0+n):Nat):Int) - 1).ah+1))]) 1 rfl rfl rfl)<|jL LM 51 276 (vR jr) [(.agg [(u8<|op),(i6 nn),(.U N 0 L)])] (AX a n u fs) (i6 z) k5 k6 k4 ct<|ai (congrArg (AV.int .i64) (show(match decide ((0:Int)>z) with|true=>(0:Int)|false=>z)=cK z (0:Int) from rfl))<|ai (congrArg (AV.int .i64) (show(match decide ((8:Int)<(cK z (0:Int))) with|true=>(8:Int)|false=>(cK z (0:Int)))=dY (cK z (0:Int)) (8:Int) from rfl))<|ax ((dY (cK z (0:Int)) (8:Int))>0) bh fun _=>(vV LM 62 276 (dH eJ) [] (AX a n u fs) (aQ A1.pre m1 (.ak c1 13) A1.steps u1 bq) k5 k7 k8<|Em 41 2 38 (dF 41 [1,1,1,1,1,1,1,1,1]) A1 m1 (.ak c1 13) u1 bq 276 278 hlen nO)
end V8
end
section
open Go Go.Rn Go.RowKit Go.Proofs
namespace WS
open cq gw eH gU fx gY eX cz dj cO cT fm eR fM fO fU gh fV gi gO gP gZ hU iH iX jI jJ lD lU kF my
noncomputable abbrev Df(fs:List Fr)(n:Nat):Fr:=({(av (fs.take n)<|(((0+n):Nat):Int) - 1) with ah:=((av (fs.take n)<|(((0+n):Nat):Int) - 1).ah+1),turns:=(av (fs.take n)<|(((0+n):Nat):Int) - 1).turns}:Fr)
noncomputable abbrev Jt(a:MN)(n:Nat)(ub:AV)(fs:List Fr)(bd el:List St):VS:=aQ a.pre ((((0+n):Nat):Int).toNat+1) (.ak ((((0+n):Nat):Int).toNat+1) 13) (a.steps+1) ub<|((fs.take n).set ((((0+n):Nat):Int) - 1).toNat<|Df fs n).take (((0+n):Nat):Int).toNat++[(⟨bd,0,0,true,[a.x0,a.x1,a.x2,a.x3,a.x4,a.x5,a.x6,a.x7],(some el)⟩:Fr)]
noncomputable abbrev Ju(to op nn:Int)(N L:Nat)(aE n2:Int)(N2 L2:Nat)(bd el:List St):AV:=.tuple [(.agg [(u8<|.ofNat 7),(i6 to),(u8<|op),(i6 nn),(.U N 0 L),(u8<|aE),(i6 n2),(.U N2 0 L2),(.U (nm (bd.map aM).flatten) 0 bd.length),(.U (nm (el.map aM).flatten) 0 el.length)]),(.bool true)]
noncomputable abbrev On(bd:List St)(a:MN)(el:List St):List AV:=[(.U (nm (bd.map aM).flatten) 0 bd.length),i0,i0,(.bool true),(i6 a.x0),(i6 a.x1),(i6 a.x2),(i6 a.x3),(i6 a.x4),(i6 a.x5),(i6 a.x6),(i6 a.x7),(.U (nm (el.map aM).flatten) 0 el.length)]
theorem ahr{B:aJ}{a:MN}{n c:Nat}{u:AV}{fs:List Fr}{A1:MN}{m1 c1:Nat}{u1:AV}{bq:List Fr}{A2:MN}{m2 c2:Nat}{u2:AV}{bj:List Fr}{N L N2 L2:Nat}{to op nn aE n2 z wi t:Int}{bd el ol fb:List St}{fa ft y0 y1 y2 y3 y4 y5 y6 y7:Int}{fo:Bool}{ub:AV}(mc:Mt LM B)(h1:1<=n)(hn:n<=fs.length)(hc:n<=c)(hf:fs.length<=1000000)(hR:fs.length*13<=top)(aD:0<=(av (fs.take n)<|((0+n:Nat):Int) - 1).ah/\(av (fs.take n)<|((0+n:Nat):Int) - 1).ah<=1000000)(cF:0<=a.steps/\a.steps<=1000000000000)(hlen:bj.length<=1000000)(nO:(AV.U A2.G A2.q A2.lg).bZ=true)(k0:bA 10 (aQ a.pre n (.ak c 13) a.steps u fs)=true)(k1:vR lk (aQ a.pre n (.ak c 13) a.steps u fs) []=some (.agg [(u8<|.ofNat 1),i0,i0]))(k2:((Ju to op nn N L aE n2 N2 L2 bd el):AV).hi=true)(k3:vR iU (aQ a.pre n (.ak c 13) a.steps u fs) []=some (Ju to op nn N L aE n2 N2 L2 bd el))(k4:fj (dX bW Jn) u []=some ((.int .i64 0:AV),ub))(k5:bA 10 (Jt a n ub fs bd el)=true)(k6:dH eJ (Jt a n ub fs bd el) []=some (.tuple [],(aQ A1.pre m1 (.ak c1 13) A1.steps u1 bq)))(k7:bA 10 (aQ A1.pre m1 (.ak c1 13) A1.steps u1 bq)=true)(k8:dH eJ (aQ A1.pre m1 (.ak c1 13) A1.steps u1 bq) []=some (.tuple [],(aQ A2.pre m2 (.ak c2 13) A2.steps u2 bj)))(k9:bA 10 (aQ A2.pre m2 (.ak c2 13) A2.steps u2 bj)=true)(H:l9 B (az Tryz.f41) (aQ A2.pre m2 (.ak c2 13) A2.steps u2 bj) (sj 41 2 38<|dF 41 [1,1,1,1,1,1,1,1,1])<|pS A2 m2 (.ak c2 13) u2 bj):l9 B (az Tryz.f41) (aQ A2.pre m2 (.ak c2 13) A2.steps u2 bj) (sF 41 Tryz.f41 [(.ptr<|some (270,0))])<|aq (ar++bu (dC 270 3<|aQ a.pre n (.ak c 13) a.steps u fs)) 273:=by have ht:top=549755813888:=rfl;exact Af mc H (.st 8<|.rg<|.go 1<|.cg (.agg [(u8<|.ofNat 1),i0,i0]) (vG 272) (vQ 272<|aQ a.pre n (.ak c 13) a.steps u fs)<|.go 3<|.en<|.st 6<|.rg<|.go 1<|.cg (Ju to op nn N L aE n2 N2 L2 bd el) (vG 272) (vQ 272<|aQ a.pre n (.ak c 13) a.steps u fs)<|.go 6<|.en<|.st 1<|.rg<|.go 4<|.vl (i6<|a.steps+1)<|.go 3<|.en<|.st 1<|.rg<|.go 1<|.il<|.st 1<|.rg<|.go 4<|.il<|.st 8<|.rg<|.go 2<|.ao [] (((fs).map aH).flatten) ((((fs.take n)).map aH).flatten)<|.go 1<|.en<|.rt 1<|.go 1<|.en<|.st 1<|.rg<|.go 3<|.vl (i6<|(((0+n):Nat):Int) - 1)<|.ix<|.go 1<|.ld [(i6<|(av (fs.take n)<|(((0+n):Nat):Int) - 1).ah)]<|.vl (i6<|(av (fs.take n)<|(((0+n):Nat):Int) - 1).ah+1)<|.ix<|.go 1<|.l6 (aN aH<|(fs.take n).set ((((0+n):Nat):Int) - 1).toNat<|Df fs n)<|.en<|.rt 2<|.en<|.st 1<|.rg<|.go 6<|.il<|.st 3<|.rg<|.go 4<|.kt i0 ub<|.en<|.rg<|.go 10<|.il<|.st 3<|.rg<|.go 15<|.s3<|.go 2<|.an (((((fs.take n).set ((((0+n):Nat):Int) - 1).toNat<|Df fs n)).map aH).flatten) (On bd a el) ((((((fs.take n).set ((((0+n):Nat):Int) - 1).toNat<|Df fs n).take (((0+n):Nat):Int).toNat++[(⟨bd,0,0,true,[a.x0,a.x1,a.x2,a.x3,a.x4,a.x5,a.x6,a.x7],(some el)⟩:Fr)])).map aH).flatten)<|.go 3<|.en<|.rg<|.go 1<|.cg (.tuple []) (vF 280<|aQ A1.pre m1 (.ak c1 13) A1.steps u1 bq) (vQ 280<|Jt a n ub fs bd el)<|.en<|.rt 1<|.en<|.rt 1<|.en<|.st 1<|.rg<|.go 1<|.cg (.tuple []) (vF 280<|aQ A2.pre m2 (.ak c2 13) A2.steps u2 bj) (vQ 280<|aQ A1.pre m1 (.ak c1 13) A1.steps u1 bq)<|.en<|.st 2<|(Ae 2 A2 m2 (.ak c2 13) u2 bj 280 281))<|yo LM 28 272 (vR lk) [] (aQ a.pre n (.ak c 13) a.steps u fs) (.agg [(u8<|.ofNat 1),i0,i0]) k0 k1<|jL LM 50 272 (vR iU) [] (aQ a.pre n (.ak c 13) a.steps u fs) (Ju to op nn N L aE n2 N2 L2 bd el) k0 k3 ct k2<|ai BG<|Ad (fs:=fs) (n:=n) ab dR dR<|ai BF<|dq ((((0+n):Nat):Int) - 1) (((0+n):Nat):Int)<|ai (ke fy dR (jj (l:=(fs.take n)) (z:=((((0+n):Nat):Int) - 1)) ab dR) 1 1 rfl)<|ai BE<|dq ((((0+n):Nat):Int) - 1) (((0+n):Nat):Int)<|ai (qc fy dR (jj (l:=(fs.take n)) (z:=((((0+n):Nat):Int) - 1)) ab dR) (c':=(Df fs n)) (r:=[(i6<|((av (fs.take n)<|(((0+n):Nat):Int) - 1).ah+1))]) 1 rfl rfl rfl)<|ai k4<|ai (show 0<=(((0+n):Nat):Int) from ab)<|ai (show(((0+n):Nat):Int)<=(((0+n):Nat):Int) from ab)<|ai (show(((0+n):Nat):Int)<=Int.ofNat (iR (0+n)<|.ak (0+n) 13) from(show(((0+n):Nat):Int)<=(((0+n):Nat):Int) from by omega))<|Hf (fs:=((fs.take n).set ((((0+n):Nat):Int) - 1).toNat<|Df fs n)) (n:=(((0+n):Nat):Int).toNat) (f:=(⟨bd,0,0,true,[a.x0,a.x1,a.x2,a.x3,a.x4,a.x5,a.x6,a.x7],(some el)⟩:Fr)) (cs:=(On bd a el)) (show aH (⟨bd,0,0,true,[a.x0,a.x1,a.x2,a.x3,a.x4,a.x5,a.x6,a.x7],(some el)⟩:Fr)=(On bd a el) from rfl) ab dR dR<|vV LM 62 280 (dH eJ) [] (Jt a n ub fs bd el) (aQ A1.pre m1 (.ak c1 13) A1.steps u1 bq) k5 k6 k7<|vV LM 62 280 (dH eJ) [] (aQ A1.pre m1 (.ak c1 13) A1.steps u1 bq) (aQ A2.pre m2 (.ak c2 13) A2.steps u2 bj) k7 k8 k9<|Em 41 2 38 (dF 41 [1,1,1,1,1,1,1,1,1]) A2 m2 (.ak c2 13) u2 bj 280 281 hlen nO
end WS
end
section
open Go Go.Rn Go.RowKit Go.Proofs
namespace WT
open cq gw eH gU fx gY eX cz dj cO cT fm eR fM fO fU gh fV gi gO gP gZ hU iH iX jI jJ lD lU kF my
noncomputable abbrev yZ(fs:List Fr)(n:Nat):Fr:=({(av (fs.take n)<|(((0+n):Nat):Int) - 1) with ah:=((av (fs.take n)<|(((0+n):Nat):Int) - 1).ah+1),turns:=(av (fs.take n)<|(((0+n):Nat):Int) - 1).turns}:Fr)
noncomputable abbrev Jv(a:MN)(y0 y1 y2 y3 y4 y5 y6 y7 wi:Int)(ub:AV)(fs:List Fr)(n:Nat)(ol:List St):VS:=aQ [(i6 a.vars),(.U a.G a.q a.lg),(i6 y0),(i6 y1),(i6 y2),(i6 y3),(i6 y4),(i6 y5),(i6 y6),(i6 y7)] ((((wi).toNat:Nat):Int).toNat+1) (.ak ((((wi).toNat:Nat):Int).toNat+1) 13) (a.steps+1) ub<|((fs.take n).set ((((0+n):Nat):Int) - 1).toNat<|yZ fs n).take (((wi).toNat:Nat):Int).toNat++[(⟨ol,0,0,false,[0,0,0,0,0,0,0,0],none⟩:Fr)]
noncomputable abbrev Jw(to op nn:Int)(N L:Nat)(aE n2:Int)(N2 L2:Nat)(bd el:List St):AV:=.tuple [(.agg [(u8<|.ofNat 6),(i6 to),(u8<|op),(i6 nn),(.U N 0 L),(u8<|aE),(i6 n2),(.U N2 0 L2),(.U (nm (bd.map aM).flatten) 0 bd.length),(.U (nm (el.map aM).flatten) 0 el.length)]),(.bool true)]
noncomputable abbrev Jx(a:MN)(n:Nat)(u:AV)(fs:List Fr):VS:=aQ a.pre (0+n) (.ak (0+n) 13) (a.steps+1) u<|(fs.take n).set ((((0+n):Nat):Int) - 1).toNat<|yZ fs n
noncomputable abbrev Oo(ol:List St):List AV:=[(.U (nm (ol.map aM).flatten) 0 ol.length),i0,i0,(.bool false),i0,i0,i0,i0,i0,i0,i0,i0,(.slice none 0<|.known 0)]
theorem ahs{B:aJ}{a:MN}{n c:Nat}{u:AV}{fs:List Fr}{A1:MN}{m1 c1:Nat}{u1:AV}{bq:List Fr}{A2:MN}{m2 c2:Nat}{u2:AV}{bj:List Fr}{N L N2 L2:Nat}{to op nn aE n2 z wi t:Int}{bd el ol fb:List St}{fa ft y0 y1 y2 y3 y4 y5 y6 y7:Int}{fo:Bool}{ub:AV}(mc:Mt LM B)(h1:1<=n)(hn:n<=fs.length)(hc:n<=c)(hf:fs.length<=1000000)(hR:fs.length*13<=top)(aD:0<=(av (fs.take n)<|((0+n:Nat):Int) - 1).ah/\(av (fs.take n)<|((0+n:Nat):Int) - 1).ah<=1000000)(cF:0<=a.steps/\a.steps<=1000000000000)(hlen:bj.length<=1000000)(nO:(AV.U A2.G A2.q A2.lg).bZ=true)(hz:1<=wi/\wi<(n:Int))(k0:bA 10 (aQ a.pre n (.ak c 13) a.steps u fs)=true)(k1:vR lk (aQ a.pre n (.ak c 13) a.steps u fs) []=some (.agg [(u8<|.ofNat 1),i0,i0]))(k2:((Jw to op nn N L aE n2 N2 L2 bd el):AV).hi=true)(k3:vR iU (aQ a.pre n (.ak c 13) a.steps u fs) []=some (Jw to op nn N L aE n2 N2 L2 bd el))(k4:bA 10 (Jx a n u fs)=true)(k5:vR qY (Jx a n u fs) []=some (i6 wi))(k6:((fs.take n).set ((((0+n):Nat):Int) - 1).toNat<|yZ fs n)[wi.toNat]? =some (⟨fb,fa,ft,fo,[y0,y1,y2,y3,y4,y5,y6,y7],some ol⟩:Fr))(k7:fj (dX bW Jo) u []=some ((.int .i64 0:AV),ub))(k8:bA 10 (Jv a y0 y1 y2 y3 y4 y5 y6 y7 wi ub fs n ol)=true)(k9:dH eJ (Jv a y0 y1 y2 y3 y4 y5 y6 y7 wi ub fs n ol) []=some (.tuple [],(aQ A1.pre m1 (.ak c1 13) A1.steps u1 bq)))(rV:bA 10 (aQ A1.pre m1 (.ak c1 13) A1.steps u1 bq)=true)(yd:dH eJ (aQ A1.pre m1 (.ak c1 13) A1.steps u1 bq) []=some (.tuple [],(aQ A2.pre m2 (.ak c2 13) A2.steps u2 bj)))(k12:bA 10 (aQ A2.pre m2 (.ak c2 13) A2.steps u2 bj)=true)(H:l9 B (az Tryz.f41) (aQ A2.pre m2 (.ak c2 13) A2.steps u2 bj) (sj 41 2 38<|dF 41 [1,1,1,1,1,1,1,1,1])<|pS A2 m2 (.ak c2 13) u2 bj):l9 B (az Tryz.f41) (aQ A2.pre m2 (.ak c2 13) A2.steps u2 bj) (sF 41 Tryz.f41 [(.ptr<|some (270,0))])<|aq (ar++bu (dC 270 3<|aQ a.pre n (.ak c 13) a.steps u fs)) 273:=by have ht:top=549755813888:=rfl;exact Af mc H (.st 8<|.rg<|.go 1<|.cg (.agg [(u8<|.ofNat 1),i0,i0]) (vG 272) (vQ 272<|aQ a.pre n (.ak c 13) a.steps u fs)<|.go 3<|.en<|.st 6<|.rg<|.go 1<|.cg (Jw to op nn N L aE n2 N2 L2 bd el) (vG 272) (vQ 272<|aQ a.pre n (.ak c 13) a.steps u fs)<|.go 6<|.en<|.st 1<|.rg<|.go 4<|.vl (i6<|a.steps+1)<|.go 3<|.en<|.st 1<|.rg<|.go 1<|.il<|.st 1<|.rg<|.go 4<|.il<|.st 8<|.rg<|.go 2<|.ao [] (((fs).map aH).flatten) ((((fs.take n)).map aH).flatten)<|.go 1<|.en<|.rt 1<|.go 1<|.en<|.st 1<|.rg<|.go 3<|.vl (i6<|(((0+n):Nat):Int) - 1)<|.ix<|.go 1<|.ld [(i6<|(av (fs.take n)<|(((0+n):Nat):Int) - 1).ah)]<|.vl (i6<|(av (fs.take n)<|(((0+n):Nat):Int) - 1).ah+1)<|.ix<|.go 1<|.l6 (aN aH<|(fs.take n).set ((((0+n):Nat):Int) - 1).toNat<|yZ fs n)<|.en<|.rt 2<|.en<|.st 1<|.rg<|.go 6<|.il<|.st 3<|.rg<|.go 1<|.cg (i6 wi) (vG 276) (vQ 276<|Jx a n u fs)<|.go 1<|.en<|.st 1<|.rg<|.go 5<|.ix<|.ld [(.U (nm (fb.map aM).flatten) 0 fb.length),(i6 fa),(i6 ft),(.bool fo),(i6 y0),(i6 y1),(i6 y2),(i6 y3),(i6 y4),(i6 y5),(i6 y6),(i6 y7),(.U (nm (ol.map aM).flatten) 0 ol.length)]<|.go 2<|.en<|.st 1<|.rg<|.go 6<|.so<|.go 3<|.en<|.st 1<|.rg<|.go 4<|.kt i0 ub<|.en<|.st 2<|.rg<|.go 4<|.il<|.st 3<|.rg<|.go 15<|.s3<|.go 2<|.an (((((fs.take n).set ((((0+n):Nat):Int) - 1).toNat<|yZ fs n)).map aH).flatten) (Oo ol) ((((((fs.take n).set ((((0+n):Nat):Int) - 1).toNat<|yZ fs n).take (((wi).toNat:Nat):Int).toNat++[(⟨ol,0,0,false,[0,0,0,0,0,0,0,0],none⟩:Fr)])).map aH).flatten)<|.go 3<|.en<|.rg<|.go 1<|.cg (.tuple []) (vF 281<|aQ A1.pre m1 (.ak c1 13) A1.steps u1 bq) (vQ 281<|Jv a y0 y1 y2 y3 y4 y5 y6 y7 wi ub fs n ol)<|.en<|.rt 1<|.en<|.rt 1<|.en<|.st 1<|.rg<|.go 1<|.cg (.tuple []) (vF 281<|aQ A2.pre m2 (.ak c2 13) A2.steps u2 bj) (vQ 281<|aQ A1.pre m1 (.ak c1 13) A1.steps u1 bq)<|.en<|.st 2<|(Ae 2 A2 m2 (.ak c2 13) u2 bj 281 282))<|yo LM 28 272 (vR lk) [] (aQ a.pre n (.ak c 13) a.steps u fs) (.agg [(u8<|.ofNat 1),i0,i0]) k0 k1<|jL LM 50 272 (vR iU) [] (aQ a.pre n (.ak c 13) a.steps u fs) (Jw to op nn N L aE n2 N2 L2 bd el) k0 k3 ct k2<|ai BG<|Ad (fs:=fs) (n:=n) ab dR dR<|ai BF<|dq ((((0+n):Nat):Int) - 1) (((0+n):Nat):Int)<|ai (ke fy dR (jj (l:=(fs.take n)) (z:=((((0+n):Nat):Int) - 1)) ab dR) 1 1 rfl)<|ai BE<|dq ((((0+n):Nat):Int) - 1) (((0+n):Nat):Int)<|ai (qc fy dR (jj (l:=(fs.take n)) (z:=((((0+n):Nat):Int) - 1)) ab dR) (c':=(yZ fs n)) (r:=[(i6<|((av (fs.take n)<|(((0+n):Nat):Int) - 1).ah+1))]) 1 rfl rfl rfl)<|yo LM 52 276 (vR qY) [] (Jx a n u fs) (i6 wi) k4 k5<|dq wi (((0+n):Nat):Int)<|ai (ke fy dR k6 0 13 rfl)<|ai (show(0:Int)=0 from rfl)<|ai (show 0<=wi from ab)<|ai (show wi<=Int.ofNat (iR (0+n)<|.ak (0+n) 13) from(show wi<=(((0+n):Nat):Int) from by omega))<|ai k7<|ai (show 0<=(((wi).toNat:Nat):Int) from ab)<|ai (show(((wi).toNat:Nat):Int)<=(((wi).toNat:Nat):Int) from ab)<|ai (show(((wi).toNat:Nat):Int)<=Int.ofNat (iR ((wi).toNat)<|.ak (0+n) 13) from(show(((wi).toNat:Nat):Int)<=(((0+n):Nat):Int) from by omega))<|Hf (fs:=((fs.take n).set ((((0+n):Nat):Int) - 1).toNat<|yZ fs n)) (n:=(((wi).toNat:Nat):Int).toNat) (f:=(⟨ol,0,0,false,[0,0,0,0,0,0,0,0],none⟩:Fr)) (cs:=(Oo ol)) (show aH (⟨ol,0,0,false,[0,0,0,0,0,0,0,0],none⟩:Fr)=(Oo ol) from rfl) ab dR dR<|vV LM 62 281 (dH eJ) [] (Jv a y0 y1 y2 y3 y4 y5 y6 y7 wi ub fs n ol) (aQ A1.pre m1 (.ak c1 13) A1.steps u1 bq) k8 k9 rV<|vV LM 62 281 (dH eJ) [] (aQ A1.pre m1 (.ak c1 13) A1.steps u1 bq) (aQ A2.pre m2 (.ak c2 13) A2.steps u2 bj) rV yd k12<|Em 41 2 38 (dF 41 [1,1,1,1,1,1,1,1,1]) A2 m2 (.ak c2 13) u2 bj 281 282 hlen nO
end WT
end
