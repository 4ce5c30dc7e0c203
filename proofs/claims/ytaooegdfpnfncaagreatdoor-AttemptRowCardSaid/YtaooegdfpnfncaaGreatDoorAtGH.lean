import Derived.Test.YtaooegdfpnfncaaGreatDoorAtGG
import Derived.Test.YtaooegdfpnfncaaGreatDoorAtGF
import Derived.Test.YtaooegdfpnfncaaGreatDoorRnGE
import Derived.Test.YtaooegdfpnfncaaGreatDoorRnGC
import Derived.Test.YtaooegdfpnfncaaGreatDoorRnGD
set_option maxRecDepth 100000
set_option maxHeartbeats 8000000
set_option linter.unusedSimpArgs false
set_option linter.unusedVariables false
section
open Go Go.Rn Go.RowKit Go.Proofs
namespace XR
open cr fQ fc hI gK jr fF cU dM dk dB gF fT ia ig iv iF iw iG iT iU jI jO kL lv mm jV oq pv kK pw
noncomputable abbrev G8(fs:List Fr)(n:Nat):Fr:=({(aB (fs.take n)<|(((0+n):Nat):Int) - 1) with au:=((aB (fs.take n)<|(((0+n):Nat):Int) - 1).au+1),turns:=(aB (fs.take n)<|(((0+n):Nat):Int) - 1).turns}:Fr)
noncomputable abbrev Kl(a:MN)(n:Nat)(u:AV)(fs:List Fr)(bd:List St)(z:Int):VS:=bj a.pre ((((0+n):Nat):Int).toNat+1) (.ar ((((0+n):Nat):Int).toNat+1) 13) (a.steps+1) u<|((fs.take n).set ((((0+n):Nat):Int) - 1).toNat<|G8 fs n).take (((0+n):Nat):Int).toNat++[(⟨bd,0,((eS (cS z<|0)<|8) - 1),false,[0,0,0,0,0,0,0,0],none⟩:Fr)]
noncomputable abbrev Km(to op nn:Int)(N L:Nat)(a9 n2:Int)(N2 L2:Nat)(bd el:List St):AV:=.tuple [(.agg [(u8<|.ofNat 5),(i6 to),(u8<|op),(i6 nn),(.ab N 0 L),(u8<|a9),(i6 n2),(.ab N2 0 L2),(.ab (nm (bd.map ba).flatten) 0 bd.length),(.ab (nm (el.map ba).flatten) 0 el.length)]),(.bool true)]
noncomputable abbrev Py(bd:List St)(z:Int):List AV:=[(.ab (nm (bd.map ba).flatten) 0 bd.length),i0,(i6<|((eS (cS z (0:Int)) (8:Int)) - 1)),(.bool false),i0,i0,i0,i0,i0,i0,i0,i0,(.slice none 0<|.known 0)]
noncomputable abbrev Kn(a:MN)(n:Nat)(u:AV)(fs:List Fr):VS:=bj a.pre (0+n) (.ar (0+n) 13) (a.steps+1) u<|(fs.take n).set ((((0+n):Nat):Int) - 1).toNat<|G8 fs n
theorem ahD{B:aI}{a:MN}{n c:Nat}{u:AV}{fs:List Fr}{A1:MN}{m1 c1:Nat}{u1:AV}{bL:List Fr}{A2:MN}{m2 c2:Nat}{u2:AV}{bE:List Fr}{N L N2 L2:Nat}{to op nn a9 n2 z:Int}{bd el:List St}(mc:Mt LM B)(h1:1<=n)(hn:n<=fs.length)(hc:n<=c)(hf:fs.length<=1000000)(hR:fs.length*13<=top)(ay:yR fs n)(cQ:0<=a.steps/\a.steps<=1000000000000)(hlen:bE.length<=1000000)(pq:(AV.ab A2.G A2.q A2.lg).cq=true)(hz:0<(eS (cS z<|0)<|8)/\(eS (cS z<|0)<|8)<=8)(k0:bR 10 (bj a.pre n (.ar c 13) a.steps u fs)=true)(k1:vR lR (bj a.pre n (.ar c 13) a.steps u fs) []=some (.agg [(u8<|.ofNat 1),i0,i0]))(k2:((Km to op nn N L a9 n2 N2 L2 bd el):AV).hi=true)(k3:vR jj (bj a.pre n (.ar c 13) a.steps u fs) []=some (Km to op nn N L a9 n2 N2 L2 bd el))(k4:([.agg [.int .u8 op,.int .i64 nn,.ab N 0 L]]:List AV).all AV.hi=true)(k5:bR 10 (Kn a n u fs)=true)(k6:vR jH (Kn a n u fs) [(.agg [(u8<|op),(i6 nn),(.ab N 0 L)])]=some (i6 z))(k7:bR 10 (Kl a n u fs bd z)=true)(k8:ey fh (Kl a n u fs bd z) []=some (.tuple [],(bj A1.pre m1 (.ar c1 13) A1.steps u1 bL)))(k9:bR 10 (bj A1.pre m1 (.ar c1 13) A1.steps u1 bL)=true)(td:ey fh (bj A1.pre m1 (.ar c1 13) A1.steps u1 bL) []=some (.tuple [],(bj A2.pre m2 (.ar c2 13) A2.steps u2 bE)))(za:bR 10 (bj A2.pre m2 (.ar c2 13) A2.steps u2 bE)=true)(H:iJ B (aA Tryz.f49) (bj A2.pre m2 (.ar c2 13) A2.steps u2 bE) (mV 49 2 38<|dt 49 [1,1,1,1,1,1,1,1,1])<|nQ A2 m2 (.ar c2 13) u2 bE):iJ B (aA Tryz.f49) (bj A2.pre m2 (.ar c2 13) A2.steps u2 bE) (sF 49 Tryz.f49 [(.ptr<|some (270,0))])<|aj (aq++bQ (dQ 270 3<|bj a.pre n (.ar c 13) a.steps u fs)) 273:=by have ht:top=549755813888:=rfl;exact Dy mc H (Dz a n c u fs (.agg [(u8<|.ofNat 1),i0,i0]) (Km to op nn N L a9 n2 N2 L2 bd el) 6<|.en<|.rt 2<|.en<|.st 1<|.rg<|.go 6<|.il<|.st 3<|.rg<|.go 3<|.cg (i6 z) (vG 276) (vQ 276<|Kn a n u fs)<|.vl (i6<|(cS z (0:Int)))<|.vl (i6<|(eS (cS z (0:Int)) (8:Int)))<|.go 1<|.en<|.st 1<|.rg<|.go 1<|.fk (.en<|.st 1<|.rg<|.go 4<|.vl (i6<|(eS (cS z (0:Int)) (8:Int)) - 1)<|.go 1<|.il<|.st 3<|.rg<|.go 15<|.s3<|.go 2<|.an (((((fs.take n).set ((((0+n):Nat):Int) - 1).toNat<|G8 fs n)).map aS).flatten) (Py bd z) ((((((fs.take n).set ((((0+n):Nat):Int) - 1).toNat<|G8 fs n).take (((0+n):Nat):Int).toNat++[(⟨bd,0,((eS (cS z<|0)<|8) - 1),false,[0,0,0,0,0,0,0,0],none⟩:Fr)])).map aS).flatten)<|.go 3<|.en<|.rg<|.go 1<|.cg (.tuple []) (vF 280<|bj A1.pre m1 (.ar c1 13) A1.steps u1 bL) (vQ 280<|Kl a n u fs bd z)<|.en<|.rt 1<|.en<|.rt 1<|.en<|.st 1<|.rg<|.go 1<|.cg (.tuple []) (vF 280<|bj A2.pre m2 (.ar c2 13) A2.steps u2 bE) (vQ 280<|bj A1.pre m1 (.ar c1 13) A1.steps u1 bL)<|.en<|.st 2<|(Dx 2 A2 m2 (.ar c2 13) u2 bE 280 281))<|.no)<|Be LM 38 272 (vR lR) [] (bj a.pre n (.ar c 13) a.steps u fs) (.agg [(u8<|.ofNat 1),i0,i0]) k0 k1<|ks LM 60 272 (vR jj) [] (bj a.pre n (.ar c 13) a.steps u fs) (Km to op nn N L a9 n2 N2 L2 bd el) k0 k3 cn k2<|ai (wI<|a.steps+1)<|Dw (fs:=fs) (n:=n) ah nM nM<|DA h1 hn hf ay<|ks LM 61 276 (vR jH) [(.agg [(u8<|op),(i6 nn),(.ab N 0 L)])] (Kn a n u fs) (i6 z) k5 k6 k4 cn<|ai (congrArg (AV.int .i64) (show(match decide ((0:Int)>z) with|true=>(0:Int)|false=>z)=cS z (0:Int) from rfl))<|ai (congrArg (AV.int .i64) (show(match decide ((8:Int)<(cS z (0:Int))) with|true=>(8:Int)|false=>(cS z (0:Int)))=eS (cS z (0:Int)) (8:Int) from rfl))<|ax ((eS (cS z (0:Int)) (8:Int))>0) (fun _=>(ai (wI<|(eS (cS z (0:Int)) (8:Int)) - 1)<|ai (show 0<=(((0+n):Nat):Int) from ah)<|ai (show(((0+n):Nat):Int)<=(((0+n):Nat):Int) from ah)<|ai (show(((0+n):Nat):Int)<=Int.ofNat (jC (0+n)<|.ar (0+n) 13) from(show(((0+n):Nat):Int)<=(((0+n):Nat):Int) from by omega))<|MV (fs:=((fs.take n).set ((((0+n):Nat):Int) - 1).toNat<|G8 fs n)) (n:=(((0+n):Nat):Int).toNat) (f:=(⟨bd,0,((eS (cS z<|0)<|8) - 1),false,[0,0,0,0,0,0,0,0],none⟩:Fr)) (cs:=(Py bd z)) (show aS (⟨bd,0,((eS (cS z<|0)<|8) - 1),false,[0,0,0,0,0,0,0,0],none⟩:Fr)=(Py bd z) from rfl) ah nM nM<|xk LM 72 280 (ey fh) [] (Kl a n u fs bd z) (bj A1.pre m1 (.ar c1 13) A1.steps u1 bL) k7 k8 k9<|xk LM 72 280 (ey fh) [] (bj A1.pre m1 (.ar c1 13) A1.steps u1 bL) (bj A2.pre m2 (.ar c2 13) A2.steps u2 bE) k9 td za Yq)) eN
end XR
end
section
open Go Go.Rn Go.RowKit Go.Proofs
namespace XS
open cr fQ fc hI gK jr fF cU dM dk dB gF fT ia ig iv iF iw iG iT iU jI jO kL lv mm jV oq pv kK pw
noncomputable abbrev BU(a:MN)(n:Nat)(u:AV)(fs:List Fr):VS:=bj a.pre (0+n) (.ar (0+n) 13) (a.steps+1) u<|(fs.take n).set ((((0+n):Nat):Int) - 1).toNat ({(aB (fs.take n)<|(((0+n):Nat):Int) - 1) with au:=((aB (fs.take n)<|(((0+n):Nat):Int) - 1).au+1),turns:=(aB (fs.take n)<|(((0+n):Nat):Int) - 1).turns}:Fr)
noncomputable abbrev Ko(to op nn:Int)(N L:Nat)(a9 n2:Int)(N2 L2:Nat)(bd el:List St):AV:=.tuple [(.agg [(u8<|.ofNat 5),(i6 to),(u8<|op),(i6 nn),(.ab N 0 L),(u8<|a9),(i6 n2),(.ab N2 0 L2),(.ab (nm (bd.map ba).flatten) 0 bd.length),(.ab (nm (el.map ba).flatten) 0 el.length)]),(.bool true)]
theorem ahE{B:aI}{a:MN}{n c:Nat}{u:AV}{fs:List Fr}{A1:MN}{m1 c1:Nat}{u1:AV}{bL:List Fr}{N L N2 L2:Nat}{to op nn a9 n2 z:Int}{bd el:List St}(mc:Mt LM B)(h1:1<=n)(hn:n<=fs.length)(hc:n<=c)(hf:fs.length<=1000000)(hR:fs.length*13<=top)(ay:yR fs n)(cQ:0<=a.steps/\a.steps<=1000000000000)(hlen:bL.length<=1000000)(pq:(AV.ab A1.G A1.q A1.lg).cq=true)(hz:(eS (cS z<|0)<|8)<=0)(k0:bR 10 (bj a.pre n (.ar c 13) a.steps u fs)=true)(k1:vR lR (bj a.pre n (.ar c 13) a.steps u fs) []=some (.agg [(u8<|.ofNat 1),i0,i0]))(k2:((Ko to op nn N L a9 n2 N2 L2 bd el):AV).hi=true)(k3:vR jj (bj a.pre n (.ar c 13) a.steps u fs) []=some (Ko to op nn N L a9 n2 N2 L2 bd el))(k4:([.agg [.int .u8 op,.int .i64 nn,.ab N 0 L]]:List AV).all AV.hi=true)(k5:bR 10 (BU a n u fs)=true)(k6:vR jH (BU a n u fs) [(.agg [(u8<|op),(i6 nn),(.ab N 0 L)])]=some (i6 z))(k7:ey fh (BU a n u fs) []=some (.tuple [],(bj A1.pre m1 (.ar c1 13) A1.steps u1 bL)))(k8:bR 10 (bj A1.pre m1 (.ar c1 13) A1.steps u1 bL)=true)(H:iJ B (aA Tryz.f49) (bj A1.pre m1 (.ar c1 13) A1.steps u1 bL) (mV 49 2 38<|dt 49 [1,1,1,1,1,1,1,1,1])<|nQ A1 m1 (.ar c1 13) u1 bL):iJ B (aA Tryz.f49) (bj A1.pre m1 (.ar c1 13) A1.steps u1 bL) (sF 49 Tryz.f49 [(.ptr<|some (270,0))])<|aj (aq++bQ (dQ 270 3<|bj a.pre n (.ar c 13) a.steps u fs)) 273:=by have ht:top=549755813888:=rfl;exact Dy mc H (Dz a n c u fs (.agg [(u8<|.ofNat 1),i0,i0]) (Ko to op nn N L a9 n2 N2 L2 bd el) 6<|.en<|.rt 2<|.en<|.st 1<|.rg<|.go 6<|.il<|.st 3<|.rg<|.go 3<|.cg (i6 z) (vG 276) (vQ 276<|BU a n u fs)<|.vl (i6<|(cS z (0:Int)))<|.vl (i6<|(eS (cS z (0:Int)) (8:Int)))<|.go 1<|.en<|.st 1<|.rg<|.go 1<|.fk (.no)<|.en<|.rt 3<|.en<|.st 1<|.rg<|.go 1<|.cg (.tuple []) (vF 276<|bj A1.pre m1 (.ar c1 13) A1.steps u1 bL) (vQ 276<|BU a n u fs)<|.en<|.st 2<|(Dx 2 A1 m1 (.ar c1 13) u1 bL 276 278))<|Be LM 38 272 (vR lR) [] (bj a.pre n (.ar c 13) a.steps u fs) (.agg [(u8<|.ofNat 1),i0,i0]) k0 k1<|ks LM 60 272 (vR jj) [] (bj a.pre n (.ar c 13) a.steps u fs) (Ko to op nn N L a9 n2 N2 L2 bd el) k0 k3 cn k2<|ai (wI<|a.steps+1)<|Dw (fs:=fs) (n:=n) ah nM nM<|DA h1 hn hf ay<|ks LM 61 276 (vR jH) [(.agg [(u8<|op),(i6 nn),(.ab N 0 L)])] (BU a n u fs) (i6 z) k5 k6 k4 cn<|ai (congrArg (AV.int .i64) (show(match decide ((0:Int)>z) with|true=>(0:Int)|false=>z)=cS z (0:Int) from rfl))<|ai (congrArg (AV.int .i64) (show(match decide ((8:Int)<(cS z (0:Int))) with|true=>(8:Int)|false=>(cS z (0:Int)))=eS (cS z (0:Int)) (8:Int) from rfl))<|ax ((eS (cS z (0:Int)) (8:Int))>0) eN fun _=>(xk LM 72 276 (ey fh) [] (BU a n u fs) (bj A1.pre m1 (.ar c1 13) A1.steps u1 bL) k5 k7 k8<|F4 49 2 38 (dt 49 [1,1,1,1,1,1,1,1,1]) A1 m1 (.ar c1 13) u1 bL 276 278 hlen pq)
end XS
end
section
open Go Go.Rn Go.RowKit Go.Proofs
namespace YL
open cr fQ fc hI gK jr fF cU dM dk dB gF fT ia ig iv iF iw iG iT iU jI jO kL lv mm jV oq pv kK pw
noncomputable abbrev K7(a:MN)(n:Nat)(ub:AV)(fs:List Fr)(bd el:List St):VS:=bj a.pre ((((0+n):Nat):Int).toNat+1) (.ar ((((0+n):Nat):Int).toNat+1) 13) (a.steps+1) ub<|((fs.take n).set ((((0+n):Nat):Int) - 1).toNat ({(aB (fs.take n)<|(((0+n):Nat):Int) - 1) with au:=((aB (fs.take n)<|(((0+n):Nat):Int) - 1).au+1),turns:=(aB (fs.take n)<|(((0+n):Nat):Int) - 1).turns}:Fr)).take (((0+n):Nat):Int).toNat++[(⟨bd,0,0,true,[a.x0,a.x1,a.x2,a.x3,a.x4,a.x5,a.x6,a.x7],(some el)⟩:Fr)]
noncomputable abbrev K8(to op nn:Int)(N L:Nat)(a9 n2:Int)(N2 L2:Nat)(bd el:List St):AV:=.tuple [(.agg [(u8<|.ofNat 7),(i6 to),(u8<|op),(i6 nn),(.ab N 0 L),(u8<|a9),(i6 n2),(.ab N2 0 L2),(.ab (nm (bd.map ba).flatten) 0 bd.length),(.ab (nm (el.map ba).flatten) 0 el.length)]),(.bool true)]
noncomputable abbrev P4(bd:List St)(a:MN)(el:List St):List AV:=[(.ab (nm (bd.map ba).flatten) 0 bd.length),i0,i0,(.bool true),(i6 a.x0),(i6 a.x1),(i6 a.x2),(i6 a.x3),(i6 a.x4),(i6 a.x5),(i6 a.x6),(i6 a.x7),(.ab (nm (el.map ba).flatten) 0 el.length)]
noncomputable abbrev P5(fs:List Fr)(n:Nat):Fr:=({(aB (fs.take n)<|(((0+n):Nat):Int) - 1) with au:=((aB (fs.take n)<|(((0+n):Nat):Int) - 1).au+1),turns:=(aB (fs.take n)<|(((0+n):Nat):Int) - 1).turns}:Fr)
theorem ajq{B:aI}{a:MN}{n c:Nat}{u:AV}{fs:List Fr}{A1:MN}{m1 c1:Nat}{u1:AV}{bL:List Fr}{A2:MN}{m2 c2:Nat}{u2:AV}{bE:List Fr}{N L N2 L2:Nat}{to op nn a9 n2 z:Int}{bd el:List St}{ub:AV}(mc:Mt LM B)(h1:1<=n)(hn:n<=fs.length)(hc:n<=c)(hf:fs.length<=1000000)(hR:fs.length*13<=top)(ay:yR fs n)(cQ:0<=a.steps/\a.steps<=1000000000000)(hlen:bE.length<=1000000)(pq:(AV.ab A2.G A2.q A2.lg).cq=true)(k0:bR 10 (bj a.pre n (.ar c 13) a.steps u fs)=true)(k1:vR lR (bj a.pre n (.ar c 13) a.steps u fs) []=some (.agg [(u8<|.ofNat 1),i0,i0]))(k2:((K8 to op nn N L a9 n2 N2 L2 bd el):AV).hi=true)(k3:vR jj (bj a.pre n (.ar c 13) a.steps u fs) []=some (K8 to op nn N L a9 n2 N2 L2 bd el))(k4:gQ (eW cv KZ) u []=some ((.int .i64 0:AV),ub))(k5:bR 10 (K7 a n ub fs bd el)=true)(k6:ey fh (K7 a n ub fs bd el) []=some (.tuple [],(bj A1.pre m1 (.ar c1 13) A1.steps u1 bL)))(k7:bR 10 (bj A1.pre m1 (.ar c1 13) A1.steps u1 bL)=true)(k8:ey fh (bj A1.pre m1 (.ar c1 13) A1.steps u1 bL) []=some (.tuple [],(bj A2.pre m2 (.ar c2 13) A2.steps u2 bE)))(k9:bR 10 (bj A2.pre m2 (.ar c2 13) A2.steps u2 bE)=true)(H:iJ B (aA Tryz.f49) (bj A2.pre m2 (.ar c2 13) A2.steps u2 bE) (mV 49 2 38<|dt 49 [1,1,1,1,1,1,1,1,1])<|nQ A2 m2 (.ar c2 13) u2 bE):iJ B (aA Tryz.f49) (bj A2.pre m2 (.ar c2 13) A2.steps u2 bE) (sF 49 Tryz.f49 [(.ptr<|some (270,0))])<|aj (aq++bQ (dQ 270 3<|bj a.pre n (.ar c 13) a.steps u fs)) 273:=by have ht:top=549755813888:=rfl;exact Dy mc H (Dz a n c u fs (.agg [(u8<|.ofNat 1),i0,i0]) (K8 to op nn N L a9 n2 N2 L2 bd el) 6<|.en<|.rt 2<|.en<|.st 1<|.rg<|.go 6<|.il<|.st 3<|.rg<|.go 4<|.kt i0 ub<|.en<|.rg<|.go 10<|.il<|.st 3<|.rg<|.go 15<|.s3<|.go 2<|.an (((((fs.take n).set ((((0+n):Nat):Int) - 1).toNat<|P5 fs n)).map aS).flatten) (P4 bd a el) ((((((fs.take n).set ((((0+n):Nat):Int) - 1).toNat<|P5 fs n).take (((0+n):Nat):Int).toNat++[(⟨bd,0,0,true,[a.x0,a.x1,a.x2,a.x3,a.x4,a.x5,a.x6,a.x7],(some el)⟩:Fr)])).map aS).flatten)<|.go 3<|.en<|.rg<|.go 1<|.cg (.tuple []) (vF 280<|bj A1.pre m1 (.ar c1 13) A1.steps u1 bL) (vQ 280<|K7 a n ub fs bd el)<|.en<|.rt 1<|.en<|.rt 1<|.en<|.st 1<|.rg<|.go 1<|.cg (.tuple []) (vF 280<|bj A2.pre m2 (.ar c2 13) A2.steps u2 bE) (vQ 280<|bj A1.pre m1 (.ar c1 13) A1.steps u1 bL)<|.en<|.st 2<|(Dx 2 A2 m2 (.ar c2 13) u2 bE 280 281))<|Be LM 38 272 (vR lR) [] (bj a.pre n (.ar c 13) a.steps u fs) (.agg [(u8<|.ofNat 1),i0,i0]) k0 k1<|ks LM 60 272 (vR jj) [] (bj a.pre n (.ar c 13) a.steps u fs) (K8 to op nn N L a9 n2 N2 L2 bd el) k0 k3 cn k2<|ai (wI<|a.steps+1)<|Dw (fs:=fs) (n:=n) ah nM nM<|DA h1 hn hf ay<|ai k4<|ai (show 0<=(((0+n):Nat):Int) from ah)<|ai (show(((0+n):Nat):Int)<=(((0+n):Nat):Int) from ah)<|ai (show(((0+n):Nat):Int)<=Int.ofNat (jC (0+n)<|.ar (0+n) 13) from(show(((0+n):Nat):Int)<=(((0+n):Nat):Int) from by omega))<|MV (fs:=((fs.take n).set ((((0+n):Nat):Int) - 1).toNat<|P5 fs n)) (n:=(((0+n):Nat):Int).toNat) (f:=(⟨bd,0,0,true,[a.x0,a.x1,a.x2,a.x3,a.x4,a.x5,a.x6,a.x7],(some el)⟩:Fr)) (cs:=(P4 bd a el)) (show aS (⟨bd,0,0,true,[a.x0,a.x1,a.x2,a.x3,a.x4,a.x5,a.x6,a.x7],(some el)⟩:Fr)=(P4 bd a el) from rfl) ah nM nM<|xk LM 72 280 (ey fh) [] (K7 a n ub fs bd el) (bj A1.pre m1 (.ar c1 13) A1.steps u1 bL) k5 k6 k7<|xk LM 72 280 (ey fh) [] (bj A1.pre m1 (.ar c1 13) A1.steps u1 bL) (bj A2.pre m2 (.ar c2 13) A2.steps u2 bE) k7 k8 k9 Yq
end YL
end
section
open Go Go.Rn Go.RowKit Go.Proofs
namespace YM
open cr fQ fc hI gK jr fF cU dM dk dB gF fT ia ig iv iF iw iG iT iU jI jO kL lv mm jV oq pv kK pw
noncomputable abbrev ED(fs:List Fr)(n:Nat):Fr:=({(aB (fs.take n)<|(((0+n):Nat):Int) - 1) with au:=((aB (fs.take n)<|(((0+n):Nat):Int) - 1).au+1),turns:=(aB (fs.take n)<|(((0+n):Nat):Int) - 1).turns}:Fr)
noncomputable abbrev K9(a:MN)(y0 y1 y2 y3 y4 y5 y6 y7 wi:Int)(ub:AV)(fs:List Fr)(n:Nat)(ol:List St):VS:=bj [(i6 a.vars),(.ab a.G a.q a.lg),(i6 y0),(i6 y1),(i6 y2),(i6 y3),(i6 y4),(i6 y5),(i6 y6),(i6 y7)] ((((wi).toNat:Nat):Int).toNat+1) (.ar ((((wi).toNat:Nat):Int).toNat+1) 13) (a.steps+1) ub<|((fs.take n).set ((((0+n):Nat):Int) - 1).toNat<|ED fs n).take (((wi).toNat:Nat):Int).toNat++[(⟨ol,0,0,false,[0,0,0,0,0,0,0,0],none⟩:Fr)]
noncomputable abbrev Lc(to op nn:Int)(N L:Nat)(a9 n2:Int)(N2 L2:Nat)(bd el:List St):AV:=.tuple [(.agg [(u8<|.ofNat 6),(i6 to),(u8<|op),(i6 nn),(.ab N 0 L),(u8<|a9),(i6 n2),(.ab N2 0 L2),(.ab (nm (bd.map ba).flatten) 0 bd.length),(.ab (nm (el.map ba).flatten) 0 el.length)]),(.bool true)]
noncomputable abbrev Lf(a:MN)(n:Nat)(u:AV)(fs:List Fr):VS:=bj a.pre (0+n) (.ar (0+n) 13) (a.steps+1) u<|(fs.take n).set ((((0+n):Nat):Int) - 1).toNat<|ED fs n
noncomputable abbrev P6(ol:List St):List AV:=[(.ab (nm (ol.map ba).flatten) 0 ol.length),i0,i0,(.bool false),i0,i0,i0,i0,i0,i0,i0,i0,(.slice none 0<|.known 0)]
theorem ajr{B:aI}{a:MN}{n c:Nat}{u:AV}{fs:List Fr}{A1:MN}{m1 c1:Nat}{u1:AV}{bL:List Fr}{A2:MN}{m2 c2:Nat}{u2:AV}{bE:List Fr}{N L N2 L2:Nat}{to op nn a9 n2 z wi:Int}{bd el ol fb:List St}{fa ft y0 y1 y2 y3 y4 y5 y6 y7:Int}{fo:Bool}{ub:AV}(mc:Mt LM B)(h1:1<=n)(hn:n<=fs.length)(hc:n<=c)(hf:fs.length<=1000000)(hR:fs.length*13<=top)(ay:yR fs n)(cQ:0<=a.steps/\a.steps<=1000000000000)(hlen:bE.length<=1000000)(pq:(AV.ab A2.G A2.q A2.lg).cq=true)(hz:1<=wi/\wi<(n:Int))(k0:bR 10 (bj a.pre n (.ar c 13) a.steps u fs)=true)(k1:vR lR (bj a.pre n (.ar c 13) a.steps u fs) []=some (.agg [(u8<|.ofNat 1),i0,i0]))(k2:((Lc to op nn N L a9 n2 N2 L2 bd el):AV).hi=true)(k3:vR jj (bj a.pre n (.ar c 13) a.steps u fs) []=some (Lc to op nn N L a9 n2 N2 L2 bd el))(k4:bR 10 (Lf a n u fs)=true)(k5:vR sa (Lf a n u fs) []=some (i6 wi))(k6:((fs.take n).set ((((0+n):Nat):Int) - 1).toNat<|ED fs n)[wi.toNat]? =some (⟨fb,fa,ft,fo,[y0,y1,y2,y3,y4,y5,y6,y7],some ol⟩:Fr))(k7:gQ (eW cv K0) u []=some ((.int .i64 0:AV),ub))(k8:bR 10 (K9 a y0 y1 y2 y3 y4 y5 y6 y7 wi ub fs n ol)=true)(k9:ey fh (K9 a y0 y1 y2 y3 y4 y5 y6 y7 wi ub fs n ol) []=some (.tuple [],(bj A1.pre m1 (.ar c1 13) A1.steps u1 bL)))(td:bR 10 (bj A1.pre m1 (.ar c1 13) A1.steps u1 bL)=true)(za:ey fh (bj A1.pre m1 (.ar c1 13) A1.steps u1 bL) []=some (.tuple [],(bj A2.pre m2 (.ar c2 13) A2.steps u2 bE)))(k12:bR 10 (bj A2.pre m2 (.ar c2 13) A2.steps u2 bE)=true)(H:iJ B (aA Tryz.f49) (bj A2.pre m2 (.ar c2 13) A2.steps u2 bE) (mV 49 2 38<|dt 49 [1,1,1,1,1,1,1,1,1])<|nQ A2 m2 (.ar c2 13) u2 bE):iJ B (aA Tryz.f49) (bj A2.pre m2 (.ar c2 13) A2.steps u2 bE) (sF 49 Tryz.f49 [(.ptr<|some (270,0))])<|aj (aq++bQ (dQ 270 3<|bj a.pre n (.ar c 13) a.steps u fs)) 273:=by have ht:top=549755813888:=rfl;exact Dy mc H (Dz a n c u fs (.agg [(u8<|.ofNat 1),i0,i0]) (Lc to op nn N L a9 n2 N2 L2 bd el) 6<|.en<|.rt 2<|.en<|.st 1<|.rg<|.go 6<|.il<|.st 3<|.rg<|.go 1<|.cg (i6 wi) (vG 276) (vQ 276<|Lf a n u fs)<|.go 1<|.en<|.st 1<|.rg<|.go 5<|.ix<|.ld [(.ab (nm (fb.map ba).flatten) 0 fb.length),(i6 fa),(i6 ft),(.bool fo),(i6 y0),(i6 y1),(i6 y2),(i6 y3),(i6 y4),(i6 y5),(i6 y6),(i6 y7),(.ab (nm (ol.map ba).flatten) 0 ol.length)]<|.go 2<|.en<|.st 1<|.rg<|.go 6<|.so<|.go 3<|.en<|.st 1<|.rg<|.go 4<|.kt i0 ub<|.en<|.st 2<|.rg<|.go 4<|.il<|.st 3<|.rg<|.go 15<|.s3<|.go 2<|.an (((((fs.take n).set ((((0+n):Nat):Int) - 1).toNat<|ED fs n)).map aS).flatten) (P6 ol) ((((((fs.take n).set ((((0+n):Nat):Int) - 1).toNat<|ED fs n).take (((wi).toNat:Nat):Int).toNat++[(⟨ol,0,0,false,[0,0,0,0,0,0,0,0],none⟩:Fr)])).map aS).flatten)<|.go 3<|.en<|.rg<|.go 1<|.cg (.tuple []) (vF 281<|bj A1.pre m1 (.ar c1 13) A1.steps u1 bL) (vQ 281<|K9 a y0 y1 y2 y3 y4 y5 y6 y7 wi ub fs n ol)<|.en<|.rt 1<|.en<|.rt 1<|.en<|.st 1<|.rg<|.go 1<|.cg (.tuple []) (vF 281<|bj A2.pre m2 (.ar c2 13) A2.steps u2 bE) (vQ 281<|bj A1.pre m1 (.ar c1 13) A1.steps u1 bL)<|.en<|.st 2<|(Dx 2 A2 m2 (.ar c2 13) u2 bE 281 282))<|Be LM 38 272 (vR lR) [] (bj a.pre n (.ar c 13) a.steps u fs) (.agg [(u8<|.ofNat 1),i0,i0]) k0 k1<|ks LM 60 272 (vR jj) [] (bj a.pre n (.ar c 13) a.steps u fs) (Lc to op nn N L a9 n2 N2 L2 bd el) k0 k3 cn k2<|ai (wI<|a.steps+1)<|Dw (fs:=fs) (n:=n) ah nM nM<|DA h1 hn hf ay<|Be LM 62 276 (vR sa) [] (Lf a n u fs) (i6 wi) k4 k5<|eZ wi (((0+n):Nat):Int)<|ai (nr jy nM k6 0 13 rfl)<|ai (show(0:Int)=0 from rfl)<|ai (show 0<=wi from ah)<|ai (show wi<=Int.ofNat (jC (0+n)<|.ar (0+n) 13) from(show wi<=(((0+n):Nat):Int) from by omega))<|ai k7<|ai (show 0<=(((wi).toNat:Nat):Int) from ah)<|ai (show(((wi).toNat:Nat):Int)<=(((wi).toNat:Nat):Int) from ah)<|ai (show(((wi).toNat:Nat):Int)<=Int.ofNat (jC ((wi).toNat)<|.ar (0+n) 13) from(show(((wi).toNat:Nat):Int)<=(((0+n):Nat):Int) from by omega))<|MV (fs:=((fs.take n).set ((((0+n):Nat):Int) - 1).toNat<|ED fs n)) (n:=(((wi).toNat:Nat):Int).toNat) (f:=(⟨ol,0,0,false,[0,0,0,0,0,0,0,0],none⟩:Fr)) (cs:=(P6 ol)) (show aS (⟨ol,0,0,false,[0,0,0,0,0,0,0,0],none⟩:Fr)=(P6 ol) from rfl) ah nM nM<|xk LM 72 281 (ey fh) [] (K9 a y0 y1 y2 y3 y4 y5 y6 y7 wi ub fs n ol) (bj A1.pre m1 (.ar c1 13) A1.steps u1 bL) k8 k9 td<|xk LM 72 281 (ey fh) [] (bj A1.pre m1 (.ar c1 13) A1.steps u1 bL) (bj A2.pre m2 (.ar c2 13) A2.steps u2 bE) td za k12<|F4 49 2 38 (dt 49 [1,1,1,1,1,1,1,1,1]) A2 m2 (.ar c2 13) u2 bE 281 282 hlen pq
end YM
end
section
open Go Go.Rn Go.RowKit Go.Proofs
namespace YN
open cr fQ fc hI gK jr fF cU dM dk dB gF fT ia ig iv iF iw iG iT iU jI jO kL lv mm jV oq pv kK pw
noncomputable abbrev ym(a:MN)(to xx:Int)(n:Nat)(u:AV)(fs:List Fr):VS:=bj ((a.pre:List AV).set (2+to.toNat)<|i6 xx) (0+n) (.ar (0+n) 13) (a.steps+1) u<|(fs.take n).set ((((0+n):Nat):Int) - 1).toNat ({(aB (fs.take n)<|(((0+n):Nat):Int) - 1) with au:=((aB (fs.take n)<|(((0+n):Nat):Int) - 1).au+1),turns:=(aB (fs.take n)<|(((0+n):Nat):Int) - 1).turns}:Fr)
noncomputable abbrev Lg(to op nn:Int)(N L:Nat)(a9 n2:Int)(N2 L2:Nat)(bd el:List St):AV:=.tuple [(.agg [(u8<|.ofNat 2),(i6 to),(u8<|op),(i6 nn),(.ab N 0 L),(u8<|a9),(i6 n2),(.ab N2 0 L2),(.ab (nm (bd.map ba).flatten) 0 bd.length),(.ab (nm (el.map ba).flatten) 0 el.length)]),(.bool true)]
theorem ajs{B:aI}{a:MN}{n c:Nat}{u:AV}{fs:List Fr}{A1:MN}{m1 c1:Nat}{u1:AV}{bL:List Fr}{N L N2 L2:Nat}{to op nn a9 n2 z wi:Int}{bd el:List St}{xx:Int}(mc:Mt LM B)(h1:1<=n)(hn:n<=fs.length)(hc:n<=c)(hf:fs.length<=1000000)(hR:fs.length*13<=top)(ay:yR fs n)(cQ:0<=a.steps/\a.steps<=1000000000000)(hlen:bL.length<=1000000)(pq:(AV.ab A1.G A1.q A1.lg).cq=true)(h0:0<=to)(h8:to<8)(k0:bR 10 (bj a.pre n (.ar c 13) a.steps u fs)=true)(k1:vR lR (bj a.pre n (.ar c 13) a.steps u fs) []=some (.agg [(u8<|.ofNat 2),(i6 wi),i0]))(k2:((Lg to op nn N L a9 n2 N2 L2 bd el):AV).hi=true)(k3:vR jj (bj a.pre n (.ar c 13) a.steps u fs) []=some (Lg to op nn N L a9 n2 N2 L2 bd el))(k4:bR 10 (ym a to xx n u fs)=true)(k5:ey fh (ym a to xx n u fs) []=some (.tuple [],(bj A1.pre m1 (.ar c1 13) A1.steps u1 bL)))(k6:bR 10 (bj A1.pre m1 (.ar c1 13) A1.steps u1 bL)=true)(H:iJ B (aA Tryz.f55) (bj A1.pre m1 (.ar c1 13) A1.steps u1 bL) (mV 55 4 38<|dt 55 [1,1,1,1,1,1,1,1])<|nQ A1 m1 (.ar c1 13) u1 bL):iJ B (aA Tryz.f55) (bj A1.pre m1 (.ar c1 13) A1.steps u1 bL) (sF 55 Tryz.f55 [(.ptr<|some (270,0)),(i6 xx)])<|aj (aq++bQ (dQ 270 3<|bj a.pre n (.ar c 13) a.steps u fs)) 273:=by have ht:top=549755813888:=rfl;exact Dy mc H (Dz a n c u fs (.agg [(u8<|.ofNat 2),(i6 wi),i0]) (Lg to op nn N L a9 n2 N2 L2 bd el) 4<|.en<|.rt 2<|.en<|.st 1<|.rg<|.go 6<|.De<|.s8 (aJ kG<|((a.row (.ptr<|some (271,0)) (.slice (some (275,0)) ((0+n))<|.ar (0+n) 13)<|i6<|(a.steps+1)):List AV).set (2+to.toNat)<|i6 xx)<|.en<|.st 1<|.rg<|.go 1<|.cg (.tuple []) (LD 270 dW eC 3 270 271 275<|bj A1.pre m1 (.ar c1 13) A1.steps u1 bL) (HJ 270 dW eC 3 270 271 275<|ym a to xx n u fs)<|.en<|.st 2<|(Dx 4 A1 m1 (.ar c1 13) u1 bL 275 276))<|Be LM 38 272 (vR lR) [] (bj a.pre n (.ar c 13) a.steps u fs) (.agg [(u8<|.ofNat 2),(i6 wi),i0]) k0 k1<|ks LM 60 272 (vR jj) [] (bj a.pre n (.ar c 13) a.steps u fs) (Lg to op nn N L a9 n2 N2 L2 bd el) k0 k3 cn k2<|ai (wI<|a.steps+1)<|Dw (fs:=fs) (n:=n) ah nM nM<|DA h1 hn hf ay<|eZ to (Int.ofNat 8)<|ai (OM (c':=(i6 xx)) (show((a.row (.ptr<|some (271,0)) (.slice (some (275,0)) ((0+n))<|.ar (0+n) 13)<|i6<|(a.steps+1)):List AV).length<=top from aL.1 uF) (VT (a.row (.ptr<|some (271,0)) (.slice (some (275,0)) ((0+n))<|.ar (0+n) 13)<|i6<|(a.steps+1)) (k:=2+to.toNat) ah) rfl)<|ai (Pt (P:=pg) (F:=FU) (sp:=sp LM) (g:=72) (U:=270) (h0:=dW) (ns:=eC) (rest:=[]) (n:=5) (kp:=10) (k:=3) (val:=ey fh) (a:=270) (r1:=271) (r2:=275) (st:=(ym a to xx n u fs)) (br:=(bj A1.pre m1 (.ar c1 13) A1.steps u1 bL)) (y:=.tuple []) cn cn cn cn (by simp only[List.length_set];rfl) k4 k5 cn k6)<|ai (show true=true/\true=true/\(some (aJ kG<|((a.row (.ptr<|some (271,0)) (.slice (some (275,0)) ((0+n))<|.ar (0+n) 13)<|i6<|(a.steps+1)):List AV).set (2+to.toNat)<|i6 xx):Option ae)=some (bu<|dZ ((ym a to xx n u fs)).R 271 275)/\(some (.tok 3 ((ym a to xx n u fs)).u):Option ae)=some (.tok 3 ((ym a to xx n u fs)).u)/\some (bu ((ym a to xx n u fs)).row)=some (bu ((ym a to xx n u fs)).row) from⟨rfl,rfl,congrArg some<|VU (pre:=a.pre) (post:=[(i6<|(a.steps+1))]) (len:=(0+n)) (i:=(2+to.toNat)) (r1:=271) (r2:=275) (cap:=(.ar (0+n) 13)) (c:=(i6 xx)) (by show(2+to.toNat)<10;omega),rfl,rfl⟩)<|F4 55 4 38 (dt 55 [1,1,1,1,1,1,1,1]) A1 m1 (.ar c1 13) u1 bL 275 276 hlen pq
end YN
end
section
open Go Go.Rn Go.RowKit Go.Proofs
namespace px
open cr fQ fc hI fF cU dM dk dB gF fT ia ig iv iF iw iG iT iU jI jO kL lv mm jV gK jr
variable {fs:List Fr} {f:Fr}
def lZ:Nat->List Fr->bB->Option (List Fr×bB)
 |0,_,_=>none
 |_+1,[],b=>some ([],b)
 |k+1,f::r,b=>
  if f.au<(f.block.length:Int) then some (f::r,b)
  else if 0<f.turns then if 0<(f.block.length:Int) then some ({f with au:=0,turns:=f.turns - 1}::r,b) else lZ k ({f with au:=0,turns:=f.turns - 1}::r) b
  else if f.aU=true then(if 2<=b.length then lZ k r (gU b) else none)
  else lZ k r b
def below:List Fr->Option (Fr×List Fr)
 |[]=>none
 |f::r=>if f.aU=true then some (f,r) else below r
theorem OW{n:Nat}{r:List Fr}(hn:n<=fs.length)(h:(fs.take n).reverse=f::r):∃m,n=m+1/\m<fs.length/\fs[m]? =some f/\(fs.take m).reverse=r:=by
 cases n with
 |zero=>simp at h
 |succ m=>
  have hm:m<fs.length:=by omega
  rw[List.take_add_one,List.getElem?_eq_getElem hm] at h;simp only[Option.toList,List.reverse_append,List.reverse_cons,List.reverse_nil,List.nil_append,List.cons_append,List.cons.injEq] at h;exact⟨m,rfl,hm,by rw[List.getElem?_eq_getElem hm,h.1],h.2⟩
theorem aeg{m:Nat}(h:fs[m]? =some f):(fs.take<|m+1).reverse=f::(fs.take m).reverse:=by rw[List.take_add_one,h];simp only[Option.toList,List.reverse_append,List.reverse_cons,List.reverse_nil,List.nil_append,List.cons_append]
theorem OX{m:Nat}(h:fs[m]? =some f):aB fs (m:Int)=f:=by unfold aB;rw[List.getD_eq_getElem?_getD,show((m:Int)).toNat=m by omega,h];rfl
theorem Vm{m:Nat}(h:fs[m]? =some f):aB fs (((m+1:Nat):Int) - 1)=f:=by rw[show(((m+1:Nat):Int) - 1)=(m:Int) by omega];exact OX h
theorem take_set{m:Nat}(g:Fr)(hm:m<fs.length):((fs.set m g).take<|m+1).reverse=g::(fs.take m).reverse:=by rw[aeg (f:=g)<|by rw[List.getElem?_set_self hm]];congr 2;rw[List.take_set_of_le<|Nat.le_refl m]
theorem JF:∀(k n:Nat) (fs:List Fr) (b:bB) (st br:List Fr) (b':bB),lZ k st b=some (br,b')->n<=fs.length->(fs.take n).reverse=st->∃n' dc,oT k n fs b=some (n',dc,b')/\n'<=n/\dc.length=fs.length/\(dc.take n').reverse=br
 |0,_,_,_,_,_,_,h,_,_=>by cases h
 |k+1,n,fs,b,st,br,b',h,hn,e=>by
  cases st with
  |nil=>
   have n0:n=0:=by have:=congrArg List.length e;rw[List.length_reverse,List.length_take] at this;simp only[List.length_nil] at this;omega
   unfold lZ at h;injection h with h;injection h with h1 h2
   subst h1;subst h2;exact⟨n,fs,by unfold oT;rw[if_pos n0],Nat.le_refl _,rfl,e⟩
  |cons f r=>
   obtain⟨m,rfl,hm,hf,hr⟩:=OW hn e;have ef:=Vm hf;have em:(((m+1:Nat):Int) - 1).toNat=m:=by omega
   unfold lZ at h;unfold oT;rw[if_neg ah];simp only[ef,em];by_cases c1:f.au<(f.block.length:Int)
   ·rw[if_pos c1] at h ⊢;injection h with h;injection h with h1 h2
    subst h1;subst h2;exact⟨m+1,fs,rfl,Nat.le_refl _,rfl,e⟩
   ·rw[if_neg c1] at h ⊢;by_cases c2:0<f.turns
    ·rw[if_pos c2] at h ⊢;have e2:=take_set {f with au:=0,turns:=f.turns - 1} hm;rw[hr] at e2;by_cases c3:0<(f.block.length:Int)
     ·rw[if_pos c3] at h ⊢;injection h with h;injection h with h1 h2
      subst h1;subst h2;exact⟨m+1,_,rfl,Nat.le_refl _,List.length_set,e2⟩
     ·rw[if_neg c3] at h ⊢;obtain⟨n',dc,a1,a2,a3,a4⟩:=JF k (m+1) _ b _ _ _ h (by rw[List.length_set];exact hn) e2;exact⟨n',dc,a1,a2,a3.trans List.length_set,a4⟩
    ·rw[if_neg c2] at h ⊢;by_cases c4:f.aU=true
     ·rw[if_pos c4] at h ⊢;by_cases c5:2<=b.length
      ·rw[if_pos c5] at h ⊢;obtain⟨n',dc,a1,a2,a3,a4⟩:=JF k m fs _ _ _ _ h ah hr;exact⟨n',dc,a1,by omega,a3,a4⟩
      ·rw[if_neg c5] at h;cases h
     ·rw[if_neg c4] at h ⊢;obtain⟨n',dc,a1,a2,a3,a4⟩:=JF k m fs _ _ _ _ h ah hr;exact⟨n',dc,a1,by omega,a3,a4⟩
theorem OY:∀(n:Nat) (fs:List Fr) (st:List Fr),n<=fs.length->(fs.take n).reverse=st->(below st=none->kz fs n= -1)/\(∀g r,below st=some (g,r)->∃i:Nat,kz fs n=(i:Int)/\i<n/\fs[i]? =some g/\(fs.take i).reverse=r)
 |0,fs,st,hn,e=>by rw[List.take_zero] at e;subst e;exact⟨fun _=>rfl,fun g r h=>by cases h⟩
 |n+1,fs,st,hn,e=>by
  cases st with
  |nil=>have:=congrArg List.length e;rw[List.length_reverse,List.length_take] at this;simp only[List.length_nil] at this;omega
  |cons f r=>
   obtain⟨m,MC,hm,hf,hr⟩:=OW hn e;have MC:n=m:=by omega
   subst MC;have ef:=OX hf;obtain⟨h1,h2⟩:=OY n fs r ah hr;unfold below kz;rw[ef];by_cases c:f.aU=true
   ·rw[if_pos c,if_pos c];refine⟨fun h=>(by cases h),fun g r' h=>?_⟩;injection h with h;injection h with e1 e2
    subst e1;subst e2;exact⟨n,rfl,by omega,hf,hr⟩
   ·rw[if_neg c,if_neg c];refine⟨h1,fun g r' h=>?_⟩;obtain⟨i,a1,a2,a3,a4⟩:=h2 g r' h;exact⟨i,a1,by omega,a3,a4⟩
theorem DP:∀(k:Nat) (st:List Fr) (b:bB) (br:List Fr) (b':bB),lZ k st b=some (br,b')->br=[]\/∃f r,br=f::r/\f.au<(f.block.length:Int)
 |0,_,_,_,_,h=>by cases h
 |k+1,[],b,br,b',h=>by
  unfold lZ at h;injection h with h;injection h with h1 h2
  exact .inl h1.symm
 |k+1,f::r,b,br,b',h=>by
  unfold lZ at h;by_cases c1:f.au<(f.block.length:Int)
  ·rw[if_pos c1] at h;injection h with h;injection h with h1 h2
   exact .inr ⟨f,r,h1.symm,c1⟩
  ·rw[if_neg c1] at h;by_cases c2:0<f.turns
   ·rw[if_pos c2] at h;by_cases c3:0<(f.block.length:Int)
    ·rw[if_pos c3] at h;injection h with h;injection h with h1 h2
     exact .inr ⟨_,r,h1.symm,c3⟩
    ·rw[if_neg c3] at h;exact DP k _ b _ _ h
   ·rw[if_neg c2] at h;by_cases c4:f.aU=true
    ·rw[if_pos c4] at h;by_cases c5:2<=b.length
     ·rw[if_pos c5] at h;exact DP k _ _ _ _ h
     ·rw[if_neg c5] at h;cases h
    ·rw[if_neg c4] at h;exact DP k _ _ _ _ h
theorem aaP{k:Nat}{st:List Fr}{b:bB}{br:List Fr}{b':bB}(h:lZ k st b=some (br,b')):lZ 1 br b'=some (br,b'):=by
 rcases DP k st b br b' h with rfl|⟨f,r,rfl,hf⟩
 ·rfl
 ·unfold lZ;rw[if_pos hf]
def gd(a:dR)(e:Ex):Int:=(Ak e a.l a.aG).1
def Z8:List Int:=[0,0,0,0,0,0,0,0]
def mD(z:Int):Int:=eS (cS z 0) 8
def fin(a:dR)(st:List Fr)(b:bB):Option dR:=match lZ 1000 st b with
 |some p=>some {a with fs:=p.1.reverse,b:=p.2}
 |none=>none
def E7(a:dR):Option dR:=match a.fs.reverse with
 |[]=>none
 |f::r=>match f.block[f.au.toNat]? with
  |none=>none
  |some (.mk kind to ea eb bd el)=>
   if kind=1 then fin {a with l:=a.l.set to.toNat<|gd a ea,steps:=a.steps+1} ({f with au:=f.au+1}::r) a.b
   else if kind=2 then fin {a with l:=a.l.set to.toNat (lu a.b<|iV (gd a ea) a.vars).1,steps:=a.steps+1} ({f with au:=f.au+1}::r) a.b
   else if kind=3 then fin {a with steps:=a.steps+1} ({f with au:=f.au+1}::r) (mH a.b (iV (gd a ea) a.vars)<|gd a eb)
   else if kind=4 then fin {a with steps:=a.steps+1} (⟨if gd a ea≠0 then bd else el,0,0,false,Z8,none⟩::{f with au:=f.au+1}::r) a.b
   else if kind=5 then(if 0<mD (gd a ea) then fin {a with steps:=a.steps+1} (⟨bd,0,mD (gd a ea) - 1,false,Z8,none⟩::{f with au:=f.au+1}::r) a.b else fin {a with steps:=a.steps+1} ({f with au:=f.au+1}::r) a.b)
   else if kind=6 then(match below (f::r) with
    |some (⟨_,_,_,_,kept,some ol⟩,r')=>fin {a with l:=kept,steps:=a.steps+1} (⟨ol,0,0,false,Z8,none⟩::r') a.b.dropLast
    |_=>none)
   else if kind=7 then fin {a with steps:=a.steps+1} (⟨bd,0,0,true,a.l,some el⟩::{f with au:=f.au+1}::r) (a.b++[[]])
   else none
def BV(a:dR)(x:Int):Option dR:=match a.fs.reverse with
 |[]=>none
 |f::r=>match f.block[f.au.toNat]? with
  |none=>none
  |some (.mk _ to _ _ _ _)=>fin {a with l:=a.l.set to.toNat x,steps:=a.steps+1} ({f with au:=f.au+1}::r) a.b
def fU(a:dR):Int×Int×Int:=match a.fs.reverse with
 |[]=>(3,0,0)
 |f::r=>match f.block[f.au.toNat]? with
  |none=>(0,0,0)
  |some (.mk kind _ ea _ _ _)=>if kind=8 then(3,0,gd a ea) else if kind=6/\below (f::r)=none then(4,0,0) else if kind=2/\(lu a.b<|iV (gd a ea) a.vars).2=false then(2,iV (gd a ea) a.vars,0) else(1,0,0)
end px
end
section
open Go Go.Rn Go.RowKit Go.Proofs
namespace sI
open cr fQ fc hI fF cU dM dk dB gF fT ia ig iv iF iw iG iT iU jI jO kL lv mm jV gK jr oq pv kK pw px YK QC XR XS YL YM YN
variable {fs bL bE:List Fr} {c n1 c1 m2 c2:Nat} {b:bB} {a A1 A2:MN} {B:aI} {wi:Int}
noncomputable section
def jP(fs:List Fr)(n:Nat):List Fr:=(fs.take n).set ((((0+n):Nat):Int) - 1).toNat ({(aB (fs.take n)<|(((0+n):Nat):Int) - 1) with au:=((aB (fs.take n)<|(((0+n):Nat):Int) - 1).au+1),turns:=(aB (fs.take n)<|(((0+n):Nat):Int) - 1).turns}:Fr)
abbrev uk(fs:List Fr)(k:Nat)(f:Fr):List Fr:=fs.take k++[f]
abbrev rS(k to op nn:Int)(la:List Ex)(a9 n2:Int)(lb:List Ex)(bd el:List St):List AV:=[.int .u8 k,.int .i64 to,.int .u8 op,.int .i64 nn,.ab (nm<|dz la) 0 la.length,.int .u8 a9,.int .i64 n2,.ab (nm<|dz lb) 0 lb.length,.ab (nm (bd.map ba).flatten) 0 bd.length,.ab (nm (el.map ba).flatten) 0 el.length]
section
variable {k to op nn a9 n2:Int} {la lb:List Ex} {bd el:List St}
theorem lF:ba (St.mk k to (.mk op nn la) (.mk a9 n2 lb) bd el)=(rS k to op nn la a9 n2 lb bd el):=by rw[U4,aM,aM];rfl
theorem CQ{a':MN}{n n' c':Nat}{dc:List Fr}{b':bB}{q:Int×Int×Int}(m0:eA a n c fs b)(h6:n<=6)(b6:b.length<=6)(hs:sr fs n<|some<|St.mk k to (.mk op nn la) (.mk a9 n2 lb) bd el)(jW:wF a (kz fs n) b (some<|St.mk k to (.mk op nn la) (.mk a9 n2 lb) bd el)=q)(mp:eA a' n' c' dc b'):
 vR lR (dy a n c fs b) []=some (AN q)/\vR jj (dy a n c fs b) []=some (.tuple [.agg<|rS k to op nn la a9 n2 lb bd el,.bool true])/\vR jH (dy a' n' c' dc b') [.agg [.int .u8 op,.int .i64 nn,.ab (nm<|dz la) 0 la.length]]=some (i6<|fq a'<|.mk op nn la)/\([.agg [.int .u8 op,.int .i64 nn,.ab (nm<|dz la) 0 la.length]]:List AV).all AV.hi=true/\(AV.tuple [.agg<|rS k to op nn la a9 n2 lb bd el,.bool true]:AV).hi=true/\([.agg<|rS k to op nn la a9 n2 lb bd el]:List AV).all AV.hi=true:=by
 have hN:=Wl m0 hs;have hK:=ahB m0 h6 b6 hs;rw[jW] at hK;have hv:=K5 mp<|.mk op nn la;have hA:=Ez<|.mk op nn la;have hH:=Xx<|St.mk k to (.mk op nn la) (.mk a9 n2 lb) bd el;unfold E4 at hN;simp only[lF] at hN hH;simp only[aM] at hv hA;exact⟨hK,hN,hv,hA,by show([_,AV.bool true].all AV.wV)=true;rw[List.all_cons,show(AV.agg _).wV=true from hH];rfl,by rw[List.all_cons,hH];rfl⟩
end
structure JH (a:MN) (n c:Nat) (fs:List Fr) (b:bB) (k to op nn:Int) (la:List Ex) (a9 n2:Int) (lb:List Ex) (bd el:List St) (q:Int×Int×Int):Prop where
 m0:eA a n c fs b
 h1:1<=n
 h6:n<=6
 b6:b.length<=6
 hs:sr fs n<|some<|St.mk k to (.mk op nn la) (.mk a9 n2 lb) bd el
 jW:wF a (kz fs n) b (some<|St.mk k to (.mk op nn la) (.mk a9 n2 lb) bd el)=q
 ay:yR fs n
 cQ:0<=a.steps/\a.steps<=1000000000000
 mp:eA {a with steps:=a.steps+1} (0+n) (0+n) (jP fs n) b
noncomputable abbrev Cg(a:MN)(n c:Nat)(fs:List Fr)(b:bB):AS:=aj (aq++bQ (dQ 270 3<|dy a n c fs b)) 273
theorem j1{ka:Int}{kb:VS->List AV->AV×VS->Prop}{kc:Nat}(hk:(ka=1/\kb=AL/\kc=74)\/(ka=2/\kb=Ap/\kc=75)\/(ka=3/\kb=z9/\kc=76)){n:Nat}{b1 b2:bB}{to op nn a9 n2:Int}{la lb:List Ex}{bd el:List St}(mc:Mt LM B)(J:JH a n c fs b ka to op nn la a9 n2 lb bd el (1,0,0))(m1:eA A1 n1 c1 bL b1)(nj:eA A2 m2 c2 bE b2)(hX:ey kb (dy {a with steps:=a.steps+1} (0+n) (0+n) (jP fs n) b) [.agg<|ba<|St.mk ka to (.mk op nn la) (.mk a9 n2 lb) bd el]=some (.tuple [],(dy A1 n1 c1 bL b1)))(rD:ey fh (dy A1 n1 c1 bL b1) []=some (.tuple [],(dy A2 m2 c2 bE b2))):av pg B 271 (ij 270 3 pg (aA Tryz.f49) (.int .i64 0)<|dy A2 m2 c2 bE b2) (sF 49 Tryz.f49 [(.ptr<|some (270,0))])<|Cg a n c fs b:=by
 obtain⟨m0,h1,h6,b6,hs,jW,ay,cQ,mp⟩:=J;obtain⟨hK,hN,hv,hA,hB,tf⟩:=CQ m0 h6 b6 hs jW mp;rw[lF] at hX;exact step1 hk (a:=a) (n:=n) (c:=c) (u:=cv b) (fs:=fs) (A1:=A1) (m1:=n1) (c1:=c1) (u1:=cv b1) (bL:=bL) (A2:=A2) (m2:=m2) (c2:=c2) (u2:=cv b2) (bE:=bE) (N:=nm<|dz la) (L:=la.length) (N2:=nm<|dz lb) (L2:=lb.length) (to:=to) (op:=op) (nn:=nn) (a9:=a9) (n2:=n2) (bd:=bd) (el:=el) (z:=(fq a<|.mk op nn la)) (wi:=0) (t:=0) (ol:=[]) (fb:=[]) (fa:=0) (ft:=0) (fo:=false) (ub:=.tuple []) (y0:=0) (y1:=0) (y2:=0) (y3:=0) (y4:=0) (y5:=0) (y6:=0) (y7:=0) mc h1 m0.nP m0.rM m0.len CH ay cQ nj.len nj.aG.cq
  w6
  w6
  w6
  w6
  w6
  w6
  w6
  w6
  w6
  w6
  (E5 mc)
theorem j4{n:Nat}{b1 b2:bB}{to op nn a9 n2:Int}{la lb:List Ex}{bd el X:List St}{tk:Bool}(mc:Mt LM B)(J:JH a n c fs b 4 to op nn la a9 n2 lb bd el (1,0,0))(m1:eA A1 n1 c1 bL b1)(nj:eA A2 m2 c2 bE b2)(mE:eA {a with steps:=a.steps+1} (0+n+1) (0+n+1) (uk (jP fs n) (0+n) ⟨X,0,0,false,Z8,none⟩) b)(hE:ey fh (dy {a with steps:=a.steps+1} (0+n+1) (0+n+1) (uk (jP fs n) (0+n) ⟨X,0,0,false,Z8,none⟩) b) []=some (.tuple [],(dy A1 n1 c1 bL b1)))(rD:ey fh (dy A1 n1 c1 bL b1) []=some (.tuple [],(dy A2 m2 c2 bE b2)))(hz:zB tk<|fq a<|.mk op nn la)(hX:X=xB tk bd el):av pg B 271 (ij 270 3 pg (aA Tryz.f49) (.int .i64 0)<|dy A2 m2 c2 bE b2) (sF 49 Tryz.f49 [(.ptr<|some (270,0))])<|Cg a n c fs b:=by
 obtain⟨m0,h1,h6,b6,hs,jW,ay,cQ,mp⟩:=J;obtain⟨hK,hN,hv,hA,hB,tf⟩:=CQ m0 h6 b6 hs jW mp;exact ahC (a:=a) (n:=n) (c:=c) (u:=cv b) (fs:=fs) (A1:=A1) (m1:=n1) (c1:=c1) (u1:=cv b1) (bL:=bL) (A2:=A2) (m2:=m2) (c2:=c2) (u2:=cv b2) (bE:=bE) (N:=nm<|dz la) (L:=la.length) (N2:=nm<|dz lb) (L2:=lb.length) (to:=to) (op:=op) (nn:=nn) (a9:=a9) (n2:=n2) (bd:=bd) (el:=el) (tk:=tk) (X:=X) (z:=(fq a<|.mk op nn la)) mc h1 m0.nP m0.rM m0.len CH ay cQ nj.len nj.aG.cq hz hX
  ku
  ku
  ku
  ku
  ku
  ku
  ku
  ku
  ku
  ku
  ku
  ku
  (E5 mc)
theorem j5t{n:Nat}{b1 b2:bB}{to op nn a9 n2:Int}{la lb:List Ex}{bd el:List St}(mc:Mt LM B)(J:JH a n c fs b 5 to op nn la a9 n2 lb bd el (1,0,0))(m1:eA A1 n1 c1 bL b1)(nj:eA A2 m2 c2 bE b2)(mE:eA {a with steps:=a.steps+1} (0+n+1) (0+n+1) (uk (jP fs n) (0+n) ⟨bd,0,(mD<|fq a<|.mk op nn la) - 1,false,Z8,none⟩) b)(hE:ey fh (dy {a with steps:=a.steps+1} (0+n+1) (0+n+1) (uk (jP fs n) (0+n) ⟨bd,0,(mD<|fq a<|.mk op nn la) - 1,false,Z8,none⟩) b) []=some (.tuple [],(dy A1 n1 c1 bL b1)))(rD:ey fh (dy A1 n1 c1 bL b1) []=some (.tuple [],(dy A2 m2 c2 bE b2)))(hz:0<mD (fq a<|.mk op nn la)/\mD (fq a<|.mk op nn la)<=8):av pg B 271 (ij 270 3 pg (aA Tryz.f49) (.int .i64 0)<|dy A2 m2 c2 bE b2) (sF 49 Tryz.f49 [(.ptr<|some (270,0))])<|Cg a n c fs b:=by
 obtain⟨m0,h1,h6,b6,hs,jW,ay,cQ,mp⟩:=J;obtain⟨hK,hN,hv,hA,hB,tf⟩:=CQ m0 h6 b6 hs jW mp;exact ahD (a:=a) (n:=n) (c:=c) (u:=cv b) (fs:=fs) (A1:=A1) (m1:=n1) (c1:=c1) (u1:=cv b1) (bL:=bL) (A2:=A2) (m2:=m2) (c2:=c2) (u2:=cv b2) (bE:=bE) (N:=nm<|dz la) (L:=la.length) (N2:=nm<|dz lb) (L2:=lb.length) (to:=to) (op:=op) (nn:=nn) (a9:=a9) (n2:=n2) (bd:=bd) (el:=el) (z:=(fq a<|.mk op nn la)) mc h1 m0.nP m0.rM m0.len CH ay cQ nj.len nj.aG.cq hz
  ku
  ku
  ku
  ku
  ku
  ku
  ku
  ku
  ku
  ku
  ku
  ku
  (E5 mc)
theorem j5o{n:Nat}{b1:bB}{to op nn a9 n2:Int}{la lb:List Ex}{bd el:List St}(mc:Mt LM B)(J:JH a n c fs b 5 to op nn la a9 n2 lb bd el (1,0,0))(m1:eA A1 n1 c1 bL b1)(jt:mD (fq a<|.mk op nn la)<=0)(rD:ey fh (dy {a with steps:=a.steps+1} (0+n) (0+n) (jP fs n) b) []=some (.tuple [],(dy A1 n1 c1 bL b1))):av pg B 271 (ij 270 3 pg (aA Tryz.f49) (.int .i64 0)<|dy A1 n1 c1 bL b1) (sF 49 Tryz.f49 [(.ptr<|some (270,0))])<|Cg a n c fs b:=by
 obtain⟨m0,h1,h6,b6,hs,jW,ay,cQ,mp⟩:=J;obtain⟨hK,hN,hv,hA,hB,tf⟩:=CQ m0 h6 b6 hs jW mp;exact ahE (a:=a) (n:=n) (c:=c) (u:=cv b) (fs:=fs) (A1:=A1) (m1:=n1) (c1:=c1) (u1:=cv b1) (bL:=bL) (N:=nm<|dz la) (L:=la.length) (N2:=nm<|dz lb) (L2:=lb.length) (to:=to) (op:=op) (nn:=nn) (a9:=a9) (n2:=n2) (bd:=bd) (el:=el) (z:=(fq a<|.mk op nn la)) mc h1 m0.nP m0.rM m0.len CH ay cQ m1.len m1.aG.cq jt
  zg
  zg
  zg
  zg
  zg
  zg
  zg
  zg
  zg
  (E5 mc)
theorem j7{n:Nat}{b1 b2:bB}{to op nn a9 n2:Int}{la lb:List Ex}{bd el:List St}(mc:Mt LM B)(J:JH a n c fs b 7 to op nn la a9 n2 lb bd el (1,0,0))(m1:eA A1 n1 c1 bL b1)(nj:eA A2 m2 c2 bE b2)(mE:eA {a with steps:=a.steps+1} (0+n+1) (0+n+1) (uk (jP fs n) (0+n) ⟨bd,0,0,true,a.l,some el⟩)<|b++[[]])(hE:ey fh (dy {a with steps:=a.steps+1} (0+n+1) (0+n+1) (uk (jP fs n) (0+n) ⟨bd,0,0,true,a.l,some el⟩)<|b++[[]]) []=some (.tuple [],(dy A1 n1 c1 bL b1)))(rD:ey fh (dy A1 n1 c1 bL b1) []=some (.tuple [],(dy A2 m2 c2 bE b2)))(ZX:b.length<7):av pg B 271 (ij 270 3 pg (aA Tryz.f49) (.int .i64 0)<|dy A2 m2 c2 bE b2) (sF 49 Tryz.f49 [(.ptr<|some (270,0))])<|Cg a n c fs b:=by
 obtain⟨m0,h1,h6,b6,hs,jW,ay,cQ,mp⟩:=J;obtain⟨hK,hN,hv,hA,hB,tf⟩:=CQ m0 h6 b6 hs jW mp;have hD:gQ (eW cv KZ) (cv b) []=some ((.int .i64 0:AV),cv<|b++[[]]):=by
  unfold gQ;rw[BP xJ];show(match ([]:List AV).all AV.hi with
   |true=>((if List.length b<7 then some ((AV.int .i64 0:AV),b++[[]]) else none).map (fun p:AV×bB=>((p.1,cv p.2):AV×AV))).bind fun p:AV×AV=>match p.1.hi with
    |true=>some p
    |false=>none
   |false=>none)=_
  rw[if_pos ZX];rfl
 exact ajq (a:=a) (n:=n) (c:=c) (u:=cv b) (fs:=fs) (A1:=A1) (m1:=n1) (c1:=c1) (u1:=cv b1) (bL:=bL) (A2:=A2) (m2:=m2) (c2:=c2) (u2:=cv b2) (bE:=bE) (N:=nm<|dz la) (L:=la.length) (N2:=nm<|dz lb) (L2:=lb.length) (to:=to) (op:=op) (nn:=nn) (a9:=a9) (n2:=n2) (bd:=bd) (el:=el) (z:=(fq a<|.mk op nn la)) (ub:=cv<|b++[[]]) mc h1 m0.nP m0.rM m0.len CH ay cQ nj.len nj.aG.cq
  wZ
  wZ
  wZ
  wZ
  wZ
  wZ
  wZ
  wZ
  wZ
  wZ
  (E5 mc)
theorem j6{n:Nat}{b1 b2:bB}{to op nn a9 n2 y0 y1 y2 y3 y4 y5 y6 y7 fa ft:Int}{la lb:List Ex}{bd el ol fb:List St}{fo:Bool}(mc:Mt LM B)(J:JH a n c fs b 6 to op nn la a9 n2 lb bd el (1,0,0))(m1:eA A1 n1 c1 bL b1)(nj:eA A2 m2 c2 bE b2)(mE:eA {a with steps:=a.steps+1,x0:=y0,x1:=y1,x2:=y2,x3:=y3,x4:=y4,x5:=y5,x6:=y6,x7:=y7} (wi.toNat+1) (wi.toNat+1) (uk (jP fs n) wi.toNat ⟨ol,0,0,false,Z8,none⟩) b.dropLast)(hE:ey fh (dy {a with steps:=a.steps+1,x0:=y0,x1:=y1,x2:=y2,x3:=y3,x4:=y4,x5:=y5,x6:=y6,x7:=y7} (wi.toNat+1) (wi.toNat+1) (uk (jP fs n) wi.toNat ⟨ol,0,0,false,Z8,none⟩) b.dropLast) []=some (.tuple [],(dy A1 n1 c1 bL b1)))(rD:ey fh (dy A1 n1 c1 bL b1) []=some (.tuple [],(dy A2 m2 c2 bE b2)))(hwi:kz (jP fs n) (0+n)=wi)(hz:1<=wi/\wi<(n:Int))(bH:(jP fs n)[wi.toNat]? =some (⟨fb,fa,ft,fo,[y0,y1,y2,y3,y4,y5,y6,y7],some ol⟩:Fr))(yZ:2<=b.length):av pg B 271 (ij 270 3 pg (aA Tryz.f49) (.int .i64 0)<|dy A2 m2 c2 bE b2) (sF 49 Tryz.f49 [(.ptr<|some (270,0))])<|Cg a n c fs b:=by
 obtain⟨m0,h1,h6,b6,hs,jW,ay,cQ,mp⟩:=J;obtain⟨hK,hN,hv,hA,hB,tf⟩:=CQ m0 h6 b6 hs jW mp;have hW:=Uz mp ah;rw[hwi] at hW;have hD:gQ (eW cv K0) (cv b) []=some ((.int .i64 0:AV),cv b.dropLast):=by
  unfold gQ;rw[BP xJ];show(match ([]:List AV).all AV.hi with
   |true=>((if 2<=List.length b/\List.length b<=6 then some ((AV.int .i64 0:AV),b.dropLast) else none).map (fun p:AV×bB=>((p.1,cv p.2):AV×AV))).bind fun p:AV×AV=>match p.1.hi with
    |true=>some p
    |false=>none
   |false=>none)=_
  rw[if_pos ⟨yZ,b6⟩];rfl
 exact ajr (a:=a) (n:=n) (c:=c) (u:=cv b) (fs:=fs) (A1:=A1) (m1:=n1) (c1:=c1) (u1:=cv b1) (bL:=bL) (A2:=A2) (m2:=m2) (c2:=c2) (u2:=cv b2) (bE:=bE) (N:=nm<|dz la) (L:=la.length) (N2:=nm<|dz lb) (L2:=lb.length) (to:=to) (op:=op) (nn:=nn) (a9:=a9) (n2:=n2) (bd:=bd) (el:=el) (z:=(fq a<|.mk op nn la)) (wi:=wi) (ol:=ol) (fb:=fb) (fa:=fa) (ft:=ft) (fo:=fo) (ub:=cv b.dropLast) (y0:=y0) (y1:=y1) (y2:=y2) (y3:=y3) (y4:=y4) (y5:=y5) (y6:=y6) (y7:=y7) mc h1 m0.nP m0.rM m0.len CH ay cQ nj.len nj.aG.cq hz
  rE
  rE
  rE
  rE
  rE
  rE
  rE
  rE
  rE
  rE
  rE
  rE
  rE
  (E5 mc)
theorem jA{n:Nat}{b1:bB}{to op nn a9 n2 xx:Int}{la lb:List Ex}{bd el:List St}(mc:Mt LM B)(J:JH a n c fs b 2 to op nn la a9 n2 lb bd el (2,wi,0))(m1:eA A1 n1 c1 bL b1)(h0:0<=to)(h8:to<8)(mx:eA (MN.iu {a with steps:=a.steps+1} to xx) (0+n) (0+n) (jP fs n) b)(rD:ey fh (dy (MN.iu {a with steps:=a.steps+1} to xx) (0+n) (0+n) (jP fs n) b) []=some (.tuple [],(dy A1 n1 c1 bL b1))):av pg B 271 (ij 270 3 pg (aA Tryz.f55) (.int .i64 0)<|dy A1 n1 c1 bL b1) (sF 55 Tryz.f55 [(.ptr<|some (270,0)),(i6 xx)])<|Cg a n c fs b:=by
 obtain⟨m0,h1,h6,b6,hs,jW,ay,cQ,mp⟩:=J;obtain⟨hK,hN,hv,hA,hB,tf⟩:=CQ m0 h6 b6 hs jW mp;have hx:= @P3 {a with steps:=a.steps+1} (0+n) (0+n) (jP fs n) b to xx h0 h8;unfold iU.wv at hx;rw[←hx] at rD;have Zt:=mx.bR;rw[←hx] at Zt;exact ajs (a:=a) (n:=n) (c:=c) (u:=cv b) (fs:=fs) (A1:=A1) (m1:=n1) (c1:=c1) (u1:=cv b1) (bL:=bL) (N:=nm<|dz la) (L:=la.length) (N2:=nm<|dz lb) (L2:=lb.length) (to:=to) (op:=op) (nn:=nn) (a9:=a9) (n2:=n2) (bd:=bd) (el:=el) (z:=(fq a<|.mk op nn la)) (wi:=wi) (xx:=xx) mc h1 m0.nP m0.rM m0.len CH ay cQ m1.len m1.aG.cq h0 h8
  Dj
  Dj
  Dj
  Dj
  Dj
  Dj
  Dj
  (ajp mc)
end
end sI
end
section
open Go Go.Rn Go.RowKit Go.Proofs
namespace qu
open cr fQ fc hI fF cU dM dk dB gF fT ia ig iv iF iw iG iT iU jI jO kL lv mm jV gK jr oq pv kK pw px sI
variable {fs br st:List Fr} {b b':bB} {A:MN} {s:AS} {rs:List ResultVar} {k:Nat} {P:Program} {B:aI}
theorem Rf{n m:Nat}{Q Q':Tr AV->List Nat->Option Code->AS->Prop}{fr:AF}(hm:m<=n)(h:∀t d j s,Q t d j s->Q' t d j s)(H:av P B n Q fr s):av P B m Q' fr s:=by intro ρ w b a cs q1 q2 q3;obtain⟨aQ,j,s1,σ,a',w',e1,e2,e3,e4⟩:=H ρ w b a cs q1 q2 q3;exact⟨aQ,j,s1,σ,a',w',h _ _ _ _ e1,by omega,fun k hk ht=>e3 k ah ht,e4⟩
theorem YO{R R':AV->AS->Prop}(h:∀y s,R y s->R' y s):∀t d j s,Rn.Fin P rs R t d j s->Rn.Fin P rs R' t d j s:=by intro t d j s q;obtain⟨v,s2,a,b⟩:=q;exact⟨v,s2,a,h _ _ b⟩
noncomputable def mn(a:dR):MN:=⟨a.vars,nm (a.aG.map Ai).flatten,0,a.aG.length,a.aG,a.l.getD 0 0,a.l.getD 1 0,a.l.getD 2 0,a.l.getD 3 0,a.l.getD 4 0,a.l.getD 5 0,a.l.getD 6 0,a.l.getD 7 0,a.steps⟩
theorem YP{a:dR}(h:a.l.length=8):(mn a).l=a.l:=(K3 a.l h).symm
theorem LF{a:dR}(h:a.l.length=8)(e:Ex):fq (mn a) e=gd a e:=by unfold fq gd;rw[YP h];rfl
theorem Vn(a:dR)(cf:List Fr)(c:Nat):dQ 270 3 (dy (mn a) a.fs.length c (a.fs++cf) a.b)=pe a cf c:=rfl
structure Good (a:dR):Prop where
 ok:B6 a
 oB:iy a.fs
 jc:a.fs.length<=6
 b6:a.b.length<=6
 steps:0<=a.steps/\a.steps<=1000000000000
 au:∀f∈a.fs,0<=f.au/\f.au<=1000000
theorem iy.app{l m:List Fr}(h:iy l)(k:iy m):iy<|l++m:=fun f hf=>by
 rcases List.mem_append.1 hf with q|q
 ·exact h f q
 ·exact k f q
theorem iy.take{l:List Fr}(h:iy l)(n:Nat):iy<|l.take n:=fun f hf=>h f<|List.mem_of_mem_take hf
section
variable {a:dR} {cf:List Fr} {c:Nat} {f:Fr} {r:List Fr} {m:Nat}
theorem Good.fO(h:Good a)(hj:ye a cf c):eA (mn a) a.fs.length c (a.fs++cf) a.b:=⟨dj.aD MD a.aG,h.ok.2.1,iy.app h.oB hj.2.2,by rw[List.length_append];omega,hj.1,hj.2.1,h.ok.2.2.2.2⟩
theorem Jw:∀{k n:Nat} {fs:List Fr} {b:bB} {n':Nat} {dc:List Fr} {b':bB},oT k n fs b=some (n',dc,b')->n<=fs.length->iy fs->fy b->iy dc/\fy b'
 |0,_,_,_,_,_,_,h,_,_,_=>by cases h
 |k+1,n,fs,b,n',dc,b',h,hn,hf,hb=>by
  unfold oT at h;by_cases n0:n=0
  ·rw[if_pos n0] at h;injection h with h;injection h with e1 h;injection h with e2 e3
   subst e2;subst e3;exact⟨hf,hb⟩
  ·rw[if_neg n0] at h;simp only at h;have ay:=hf.at<|(n:Int) - 1;have hk:=hf.kept (z:=(n:Int) - 1) ah ah;by_cases c1:(aB fs<|(n:Int) - 1).au<(((aB fs<|(n:Int) - 1).block.length:Nat):Int)
   ·rw[if_pos c1] at h;injection h with h;injection h with e1 h;injection h with e2 e3
    subst e2;subst e3;exact⟨hf,hb⟩
   ·rw[if_neg c1] at h;by_cases c2:0<(aB fs<|(n:Int) - 1).turns
    ·rw[if_pos c2] at h;have hs:iy<|fs.set ((n:Int) - 1).toNat {aB fs ((n:Int) - 1) with au:=0,turns:=(aB fs<|(n:Int) - 1).turns - 1}:=hf.set ⟨⟨by show 0<=_ - 1;omega,by show _ - 1<=1000000;omega⟩,hk⟩;by_cases c3:0<(((aB fs<|(n:Int) - 1).block.length:Nat):Int)
     ·rw[if_pos c3] at h;injection h with h;injection h with e1 h;injection h with e2 e3
      subst e2;subst e3;exact⟨hs,hb⟩
     ·rw[if_neg c3] at h;exact Jw h (by rw[List.length_set];exact hn) hs hb
    ·rw[if_neg c2] at h;by_cases c4:(aB fs<|(n:Int) - 1).aU=true
     ·rw[if_pos c4] at h;by_cases c5:2<=b.length
      ·rw[if_pos c5] at h;exact Jw h ah hf<|JW hb c5
      ·rw[if_neg c5] at h;cases h
     ·rw[if_neg c4] at h;exact Jw h ah hf hb
structure jT (A:MN) (n c:Nat) (fs:List Fr) (b:bB) (br:List Fr) (b':bB) (n':Nat) (dc:List Fr):Prop where
 fO:eA A n' c dc b'
 run:ey fh (dy A n c fs b) []=some (.tuple [],dy A n' c dc b')
 eq:(dc.take n').reverse=br
 len:dc.length=fs.length
 le:n'<=n
theorem tV{n c:Nat}(m:eA A n c fs b)(e:(fs.take n).reverse=st)(h:lZ k st b=some (br,b')):∃n' dc,jT A n c fs b br b' n' dc:=by
 obtain⟨n',dc,a1,a2,a3,a4⟩:=JF k n fs b st br b' h m.nP e;obtain⟨q1,q2⟩:=Jw a1 m.nP m.oB m.buf;have fC:n'<=dc.length:=by rw[a3];have:=m.nP;omega
 exact⟨n',dc,⟨m.aG,q2,q1,fC,by have:=m.rM;omega,by rw[a3];exact m.len,m.vars⟩,ac1 m a1,a4,a3,a2⟩
theorem jT.again{n c:Nat}{n':Nat}{dc:List Fr}(h:lZ k st b=some (br,b'))(d:jT A n c fs b br b' n' dc):∃n2 bE,jT A n' c dc b' br b' n2 bE:=tV d.fO d.eq<|aaP h
theorem vW{fr:AF}{n c:Nat}{y:AV}{a':dR}(hA:A=mn a')(hb:b=a'.b)(ok:B6 a')(m:eA A n c fs b)(e:(fs.take n).reverse=a'.fs.reverse)(H:av pg B 271 (ij 270 3 pg rs y<|dy A n c fs b) fr s):av pg B 271 (mj XT pg rs 4 y<|eK a') fr s:=by
 subst hA;subst hb;have e:fs.take n=a'.fs:=List.reverse_inj.1 e;have hl:a'.fs.length=n:=by rw[←e,List.length_take];have:=m.nP;omega
 have e2:fs=a'.fs++fs.drop n:=by rw[←e,List.take_append_drop]
 refine Rf (Nat.le_refl _) (YO fun y1 s' q=>⟨q.1,pe a' (fs.drop n) c,XT.CJ a' ok _ c ⟨by rw[hl];exact m.rM,by rw[←e2];exact m.len,fun f hf=>m.oB f<|List.mem_of_mem_drop hf⟩,?_⟩) H;have hx:=q.2;rw[←Vn,hl, ←e2];exact hx
structure yz (a:dR) (cf:List Fr) (f:Fr) (r:List Fr) (m:Nat):Prop where
 n:a.fs.length=m+1
 get:(a.fs++cf)[m]? =some f
 rest:((a.fs++cf).take m).reverse=r
 all:((a.fs++cf).take<|m+1).reverse=f::r
 mem:f∈a.fs
theorem P7(h:a.fs.reverse=f::r):∃m,yz a cf f r m:=by
 have e:(a.fs++cf).take a.fs.length=a.fs:=List.take_left;have e2:((a.fs++cf).take a.fs.length).reverse=f::r:=by rw[e];exact h
 obtain⟨m,h1,h2,h3,h4⟩:=OW (by rw[List.length_append];omega) e2;refine⟨m,h1,h3,h4,by rw[←h1];exact e2,?_⟩;have:f∈a.fs.reverse:=by rw[h];exact List.mem_cons_self
 exact List.mem_reverse.1 this
theorem Pz(t:yz a cf f r m)(h0:0<=f.au){s:St}(hs:f.block[f.au.toNat]? =some s):sr (a.fs++cf) a.fs.length<|some s:=by
 have e:AM (a.fs++cf) a.fs.length=f:=by unfold AM;rw[t.n];exact Vm t.get
 exact .inr ⟨by rw[t.n];omega,by rw[e];exact h0,s,by rw[e];exact hs,rfl⟩
theorem Kp(t:yz a cf f r m):aB ((a.fs++cf).take a.fs.length) (((0+a.fs.length:Nat):Int) - 1)=f/\jP (a.fs++cf) a.fs.length=((a.fs++cf).take a.fs.length).set m {f with au:=f.au+1}:=by
 have e0:((((0+a.fs.length):Nat):Int) - 1)=(m:Int):=by rw[t.n];omega
 have hg:((a.fs++cf).take a.fs.length)[m]? =some f:=by rw[List.getElem?_take_of_lt (by rw[t.n];omega)];exact t.get
 have e:aB ((a.fs++cf).take a.fs.length) (((0+a.fs.length:Nat):Int) - 1)=f:=by rw[e0];exact OX hg
 refine⟨e,?_⟩;unfold jP;rw[e,e0];rfl
theorem vE(t:yz a cf f r m):(jP (a.fs++cf) a.fs.length).length=a.fs.length/\((jP (a.fs++cf) a.fs.length).take<|0+a.fs.length).reverse={f with au:=f.au+1}::r/\jP (a.fs++cf) a.fs.length=(jP (a.fs++cf) a.fs.length).take (0+a.fs.length):=by
 have e:(a.fs++cf).take a.fs.length=a.fs:=List.take_left;have el:(jP (a.fs++cf) a.fs.length).length=a.fs.length:=by rw[(Kp t).2,e,List.length_set]
 refine⟨el,?_,by rw[List.take_of_length_le (by rw[el];omega)]⟩;rw[(Kp t).2,e,Nat.zero_add,t.n,take_set _ (by rw[t.n];omega)];have:=t.rest;rw[List.take_append_of_le_length (by rw[t.n];omega)] at this;rw[this]
theorem Good.mp(h:Good a)(hj:ye a cf c)(t:yz a cf f r m):eA {mn a with steps:=a.steps+1} (0+a.fs.length) (0+a.fs.length) (jP (a.fs++cf) a.fs.length) a.b:=by obtain⟨p1,p2,p3⟩:=vE t;refine⟨(h.fO hj).aG,h.ok.2.1,?_,by rw[p1];omega,Nat.le_refl _,by rw[p1];have:=h.jc;omega,(h.fO hj).vars⟩;rw[(Kp t).2];exact(iy.take (h.fO hj).oB _).set<|h.oB f t.mem
theorem Good.ay(h:Good a)(t:yz a cf f r m):0<=(aB ((a.fs++cf).take a.fs.length)<|((0+a.fs.length:Nat):Int) - 1).au/\(aB ((a.fs++cf).take a.fs.length)<|((0+a.fs.length:Nat):Int) - 1).au<=1000000:=by rw[(Kp t).1];exact h.au f t.mem
theorem P8(h:Good a)(t:yz a cf f r m)(cQ:a.fs.reverse=f::r)(s:St)(hs:f.block[f.au.toNat]? =some s):wF (mn a) (kz (a.fs++cf) a.fs.length) a.b (some s)=fU a:=by
 obtain⟨kind,to,ea,eb,bd,el⟩:=s;have hw:=OY a.fs.length (a.fs++cf) (f::r) (by rw[List.length_append];omega) (by rw[t.n];exact t.all);unfold fU;rw[GH,cQ];simp only[hs,LF h.ok.1];have ev:(mn a).vars=a.vars:=rfl;rw[ev];by_cases c8:kind=8
 ·rw[if_pos c8,if_pos c8]
 ·rw[if_neg c8,if_neg c8];cases hb:below (f::r) with
  |none=>
   have e:=hw.1 hb;rw[e];by_cases c6:kind=6
   ·rw[if_pos ⟨c6,by omega⟩,if_pos ⟨c6,rfl⟩]
   ·simp only[c6,false_and,if_false]
  |some p=>obtain⟨i,e,_⟩:=hw.2 p.1 p.2 hb;rw[e,if_neg (show ¬(kind=6/\(i:Int)<0) from fun q=>by have:=q.2;omega),if_neg (show ¬(kind=6/\some p=none) from fun q=>by cases q.2)]
end
end qu
end
section
open Go Go.Rn Go.RowKit Go.Proofs
namespace wG
open QC cr fQ fc hI fF cU dM dk dB gF fT ia ig iv iF iw iG iT iU jI jO kL lv mm jV gK jr oq pv kK pw px sI qu
variable {b b':bB} {fs:List Fr} {s:Int} {A:MN}
theorem len8{l:List Int}(h:l.length=8):∃a b c d e f g i,l=[a,b,c,d,e,f,g,i]:=⟨_,_,_,_,_,_,_,_,K3 l h⟩
theorem PA{a:dR}(h:a.l.length=8){to z:Int}(h0:0<=to)(h8:to<8):MN.iu {mn a with steps:=s} to z=mn ⟨a.vars,a.aG,a.l.set to.toNat z,b,fs,s⟩:=by obtain⟨vars,aG,l,b0,fs0,st⟩:=a;obtain⟨x0,x1,x2,x3,x4,x5,x6,x7,rfl⟩:=len8 h;rcases Wn h0 h8 with rfl|rfl|rfl|rfl|rfl|rfl|rfl|rfl<;>rfl
theorem JY{A':MN}{n c k:Nat}{g:Fr}(m:eA A n c fs b)(hk:k<=fs.length)(hl:fs.length<=1000)(e1:A'.G=A.G/\A'.q=A.q/\A'.lg=A.lg/\A'.aG=A.aG/\A'.vars=A.vars)(hg:(0<=g.turns/\g.turns<=1000000)/\g.kept.length=8)(hb:fy b'):
 eA A' (k+1) (k+1) (uk fs k g) b'/\((uk fs k g).take<|k+1).reverse=g::(fs.take k).reverse:=by
 have hlen:(uk fs k g).length=k+1:=by rw[List.length_append,List.length_take];simp only[List.length_cons,List.length_nil];omega
 obtain⟨q1,q2,q3,q4,q5⟩:=e1;refine⟨⟨by rw[q1,q2,q3,q4];exact m.aG,hb,iy.app (iy.take m.oB k) fun f hf=>?_,by rw[hlen];omega,Nat.le_refl _,by rw[hlen];omega,by rw[q5];exact m.vars⟩,?_⟩
 ·rw[List.mem_singleton] at hf;subst hf;exact hg
 ·rw[List.take_of_length_le (by rw[hlen];omega)];simp only[List.reverse_append,List.reverse_cons,List.reverse_nil,List.nil_append,List.cons_append]
structure vH (a:dR) (f:Fr) (r:List Fr) (kind to:Int):Prop where
 au:0<=f.au
 to:kind=1\/kind=2->0<=to/\to<8
 ajt:kind=6->∀g r',below (f::r)=some (g,r')->r'≠[]/\2<=a.b.length
theorem xT{a a':dR}{st:List Fr}(h:fin a st b=some a'):∃br b',lZ 1000 st b=some (br,b')/\a'={a with fs:=br.reverse,b:=b'}:=by
 unfold fin at h;split at h
 ·rename_i p e;injection h with h;exact⟨p.1,p.2,e,h.symm⟩
 ·cases h
theorem xU{a:dR}(h:B6 a){l:List Int}{br:List Fr}{n c n':Nat}{dc:List Fr}(d:jT A n c fs b br b' n' dc)(hl:l.length=8)(hn:n<=1000):B6 ⟨a.vars,a.aG,l,b',br.reverse,s⟩:=by refine⟨hl,d.fO.buf,?_,h.2.2.2.1,h.2.2.2.2⟩;show br.reverse.length<=1000;rw[←d.eq,List.reverse_reverse,List.length_take];have:=d.le;omega
theorem UA{f f1:Fr}{r:List Fr}(ho:f1.aU=f.aU):below (f1::r)=if f.aU=true then some (f1,r) else below r:=by show(if f1.aU=true then some (f1,r) else below r)=_;rw[ho]
theorem Vo(z:Int):mD z<=8:=by
 unfold mD eS;split<;>rename_i q
 ·omega
 ·have:=of_decide_eq_false q;omega
noncomputable abbrev LS:bV:=[Re,mI,iN,jG,lp,mC,zR,Rb,Qz,P0,PW,PX]
section
variable {B:aI} {a a':dR} {cf:List Fr} {c m:Nat} {f:Fr} {r:List Fr} {kind to:Int} {ea eb:Ex} {bd el:List St}
abbrev Aq(B:aI)(a:dR)(cf:List Fr)(c:Nat)(a':dR):Prop:=av pg B 271 (mj XT pg (aA Tryz.f49) 4 (.int .i64 0)<|eK a') (sF 49 Tryz.f49 [.ptr<|some (270,0)])<|aj (aq++bQ (pe a cf c)) 273
theorem Bf(h:Good a)(e:Ex):fq {mn a with steps:=a.steps+1} e=gd a e/\fq (mn a) e=gd a e:=⟨LF h.ok.1 _,LF h.ok.1 _⟩
theorem jh{op nn a9 n2:Int}{la lb:List Ex}{q:Int×Int×Int}(h:Good a)(hj:ye a cf c)(t:yz a cf f r m)(cQ:a.fs.reverse=f::r)(hs:f.block[f.au.toNat]? =some (.mk kind to (.mk op nn la) (.mk a9 n2 lb) bd el))(hd:vH a f r kind to)(hk:fU a=q):JH (mn a) a.fs.length c (a.fs++cf) a.b kind to op nn la a9 n2 lb bd el q:=by have n6:=h.jc;exact⟨h.fO hj,by rw[t.n];omega,h.jc,h.b6,Pz t hd.au hs,(P8 h t cQ _ hs).trans hk,h.ay t,h.steps,h.mp hj t⟩
variable (mc:Mt LS B) (h:Good a) (hj:ye a cf c) (t:yz a cf f r m) (cQ:a.fs.reverse=f::r)
include mc h hj t cQ
theorem afW(hs:f.block[f.au.toNat]? =some (.mk 1 to ea eb bd el))(hd:vH a f r 1 to)(hk:fU a=(1,0,0))(hf:fin {a with l:=a.l.set to.toNat<|gd a ea,steps:=a.steps+1} ({f with au:=f.au+1}::r) a.b=some a'):
 Aq B a cf c a':=by
 obtain⟨br,b',e1,rfl⟩:=xT hf;have h0:=(hd.to<|.inl rfl);have mp:=h.mp hj t;obtain⟨p1,p2,p3⟩:=vE t;obtain⟨op,nn,la⟩:=ea;obtain⟨a9,n2,lb⟩:=eb;obtain⟨n',dc,d⟩:=tV (mp.iu (i:=to) (z:=gd a<|.mk op nn la)) p2 e1;obtain⟨ev,_⟩:=Bf h<|.mk op nn la;have hX:=ahA mp (kind:=1) (ea:=.mk op nn la) (eb:=.mk a9 n2 lb) (bd:=bd) (el:=el) h0.1 h0.2;rw[ev] at hX;have key:=j1 (.inl ⟨rfl,rfl,rfl⟩) mc (jh h hj t cQ hs hd hk) mp.iu d.fO hX d.run;exact vW (PA h.ok.1 h0.1 h0.2) rfl (xU h.ok d (by rw[List.length_set];exact h.ok.1) (by have:=h.jc;omega)) d.fO H9 key
theorem afX(hs:f.block[f.au.toNat]? =some (.mk 2 to ea eb bd el))(hd:vH a f r 2 to)(hk:fU a=(1,0,0))(hf:fin {a with l:=a.l.set to.toNat (lu a.b<|iV (gd a ea) a.vars).1,steps:=a.steps+1} ({f with au:=f.au+1}::r) a.b=some a'):
 Aq B a cf c a':=by
 obtain⟨br,b',e1,rfl⟩:=xT hf;have mp:=h.mp hj t;obtain⟨p1,p2,p3⟩:=vE t;have n6:=h.jc;obtain⟨op,nn,la⟩:=ea;obtain⟨a9,n2,lb⟩:=eb;obtain⟨ev,zu⟩:=Bf h<|.mk op nn la;have h0:=(hd.to<|.inr rfl);obtain⟨n',dc,d⟩:=tV (mp.iu (i:=to) (z:=(lu a.b<|iV (gd a<|.mk op nn la) a.vars).1)) p2 e1;have hX:=afU mp h.b6 (kind:=2) (ea:=.mk op nn la) (eb:=.mk a9 n2 lb) (bd:=bd) (el:=el) h0.1 h0.2;rw[ev] at hX;have key:=j1 (.inr<|.inl ⟨rfl,rfl,rfl⟩) mc (jh h hj t cQ hs hd hk) mp.iu d.fO hX d.run;exact vW (PA h.ok.1 h0.1 h0.2) rfl (xU h.ok d (by rw[List.length_set];exact h.ok.1) ah) d.fO H9 key
theorem afY(hs:f.block[f.au.toNat]? =some (.mk 3 to ea eb bd el))(hd:vH a f r 3 to)(hk:fU a=(1,0,0))(hf:fin {a with steps:=a.steps+1} ({f with au:=f.au+1}::r) (mH a.b (iV (gd a ea) a.vars)<|gd a eb)=some a'):
 Aq B a cf c a':=by
 obtain⟨br,b',e1,rfl⟩:=xT hf;have mp:=h.mp hj t;obtain⟨p1,p2,p3⟩:=vE t;have n6:=h.jc;obtain⟨op,nn,la⟩:=ea;obtain⟨a9,n2,lb⟩:=eb;obtain⟨ev,zu⟩:=Bf h<|.mk op nn la;have ev2:fq {mn a with steps:=a.steps+1} (.mk a9 n2 lb)=gd a (.mk a9 n2 lb):=LF h.ok.1 _;have mb:eA {mn a with steps:=a.steps+1} (0+a.fs.length) (0+a.fs.length) (jP (a.fs++cf) a.fs.length)<|mH a.b (iV (gd a<|.mk op nn la) a.vars)<|gd a<|.mk a9 n2 lb:=⟨mp.aG,Oq mp.buf _ _,mp.oB,mp.nP,mp.rM,mp.len,mp.vars⟩;obtain⟨n',dc,d⟩:=tV mb p2 e1;have hX:=aef mp h.b6 (kind:=3) (to:=to) (ea:=.mk op nn la) (eb:=.mk a9 n2 lb) (bd:=bd) (el:=el);rw[ev,ev2] at hX;have key:=j1 (.inr<|.inr ⟨rfl,rfl,rfl⟩) mc (jh h hj t cQ hs hd hk) mb d.fO hX d.run;exact vW rfl rfl (xU h.ok d h.ok.1 ah) d.fO H9 key
theorem Wp{X:List St}{tk:Bool}(hs:f.block[f.au.toNat]? =some (.mk 4 to ea eb bd el))(hd:vH a f r 4 to)(hk:fU a=(1,0,0))(hz:zB tk<|gd a ea)(hX:X=xB tk bd el)(hf:fin {a with steps:=a.steps+1} (⟨X,0,0,false,Z8,none⟩::{f with au:=f.au+1}::r) a.b=some a'):
 Aq B a cf c a':=by
 obtain⟨br,b',e1,rfl⟩:=xT hf;have mp:=h.mp hj t;obtain⟨p1,p2,p3⟩:=vE t;have n6:=h.jc;obtain⟨op,nn,la⟩:=ea;obtain⟨a9,n2,lb⟩:=eb;obtain⟨ev,zu⟩:=Bf h<|.mk op nn la;obtain⟨mE,eE⟩:=JY (A':={mn a with steps:=a.steps+1}) (k:=0+a.fs.length) (b':=a.b) (g:=⟨X,0,0,false,Z8,none⟩) mp yM yM ⟨rfl,rfl,rfl,rfl,rfl⟩ ⟨⟨by show(0:Int)<=0;omega,by show(0:Int)<=1000000;omega⟩,rfl⟩ mp.buf;rw[p2] at eE;obtain⟨n1,bL,d⟩:=tV mE eE e1;obtain⟨n',dc,d2⟩:=d.again e1;have key:=j4 (tk:=tk) mc (jh h hj t cQ hs hd hk) d.fO d2.fO mE d.run d2.run (by rw[zu];exact hz) hX;exact vW rfl rfl (xU h.ok d h.ok.1 ah) d2.fO L8 key
theorem aeh(hs:f.block[f.au.toNat]? =some (.mk 5 to ea eb bd el))(hd:vH a f r 5 to)(hk:fU a=(1,0,0))(hz:0<mD (gd a ea))(hf:fin {a with steps:=a.steps+1} (⟨bd,0,mD (gd a ea) - 1,false,Z8,none⟩::{f with au:=f.au+1}::r) a.b=some a'):
 Aq B a cf c a':=by
 obtain⟨br,b',e1,rfl⟩:=xT hf;have mp:=h.mp hj t;obtain⟨p1,p2,p3⟩:=vE t;have n6:=h.jc;obtain⟨op,nn,la⟩:=ea;obtain⟨a9,n2,lb⟩:=eb;obtain⟨ev,zu⟩:=Bf h<|.mk op nn la;have h8:=Vo<|gd a<|.mk op nn la;obtain⟨mE,eE⟩:=JY (A':={mn a with steps:=a.steps+1}) (k:=0+a.fs.length) (b':=a.b) (g:=⟨bd,0,mD (gd a<|.mk op nn la) - 1,false,Z8,none⟩) mp yM yM ⟨rfl,rfl,rfl,rfl,rfl⟩ ⟨⟨by show 0<=mD _ - 1;omega,by show mD _ - 1<=1000000;omega⟩,rfl⟩ mp.buf;rw[p2] at eE;obtain⟨n1,bL,d⟩:=tV mE eE e1;obtain⟨n',dc,d2⟩:=d.again e1;rw[←zu] at mE d hz h8;have key:=j5t mc (jh h hj t cQ hs hd hk) d.fO d2.fO mE d.run d2.run ⟨hz,h8⟩;exact vW rfl rfl (xU h.ok d h.ok.1 ah) d2.fO L8 key
theorem aei(hs:f.block[f.au.toNat]? =some (.mk 5 to ea eb bd el))(hd:vH a f r 5 to)(hk:fU a=(1,0,0))(hz:¬(0<mD (gd a ea)))(hf:fin {a with steps:=a.steps+1} ({f with au:=f.au+1}::r) a.b=some a'):
 Aq B a cf c a':=by
 obtain⟨br,b',e1,rfl⟩:=xT hf;have mp:=h.mp hj t;obtain⟨p1,p2,p3⟩:=vE t;have n6:=h.jc;obtain⟨op,nn,la⟩:=ea;obtain⟨a9,n2,lb⟩:=eb;obtain⟨ev,zu⟩:=Bf h<|.mk op nn la;obtain⟨n',dc,d⟩:=tV mp p2 e1;have key:=j5o mc (jh h hj t cQ hs hd hk) d.fO (by rw[zu];omega) d.run;exact vW rfl rfl (xU h.ok d h.ok.1 ah) d.fO H9 key
theorem afZ(hs:f.block[f.au.toNat]? =some (.mk 7 to ea eb bd el))(hd:vH a f r 7 to)(hk:fU a=(1,0,0))(hf:fin {a with steps:=a.steps+1} (⟨bd,0,0,true,a.l,some el⟩::{f with au:=f.au+1}::r) (a.b++[[]])=some a'):
 Aq B a cf c a':=by
 obtain⟨br,b',e1,rfl⟩:=xT hf;have mp:=h.mp hj t;obtain⟨p1,p2,p3⟩:=vE t;have n6:=h.jc;obtain⟨op,nn,la⟩:=ea;obtain⟨a9,n2,lb⟩:=eb;obtain⟨ev,zu⟩:=Bf h<|.mk op nn la;have h6:a.b.length<7:=by have:=h.b6;omega
 obtain⟨mE,eE⟩:=JY (A':={mn a with steps:=a.steps+1}) (k:=0+a.fs.length) (b':=a.b++[[]]) (g:=⟨bd,0,0,true,a.l,some el⟩) mp yM yM ⟨rfl,rfl,rfl,rfl,rfl⟩ ⟨⟨by show(0:Int)<=0;omega,by show(0:Int)<=1000000;omega⟩,h.ok.1⟩<|Pu mp.buf h6;rw[p2] at eE;obtain⟨n1,bL,d⟩:=tV mE eE e1;obtain⟨n',dc,d2⟩:=d.again e1;rw[←YP h.ok.1] at mE d;have key:=j7 mc (jh h hj t cQ hs hd hk) d.fO d2.fO mE d.run d2.run h6;exact vW rfl rfl (xU h.ok d h.ok.1 ah) d2.fO L8 key
theorem af0(hs:f.block[f.au.toNat]? =some (.mk 6 to ea eb bd el))(hd:vH a f r 6 to)(hk:fU a=(1,0,0)){fb ol:List St}{fa ft:Int}{fo:Bool}{kept:List Int}{r':List Fr}(Bg:below (f::r)=some (⟨fb,fa,ft,fo,kept,some ol⟩,r'))(hf:fin {a with l:=kept,steps:=a.steps+1} (⟨ol,0,0,false,Z8,none⟩::r') a.b.dropLast=some a'):
 Aq B a cf c a':=by
 obtain⟨br,b',e1,rfl⟩:=xT hf;have mp:=h.mp hj t;obtain⟨p1,p2,p3⟩:=vE t;have n6:=h.jc;obtain⟨op,nn,la⟩:=ea;obtain⟨a9,n2,lb⟩:=eb;obtain⟨ev,zu⟩:=Bf h<|.mk op nn la;obtain⟨hr,yZ⟩:=hd.ajt rfl _ _ Bg;have Rg:∃ZY,below ({f with au:=f.au+1}::r)=some ((⟨fb,ZY,ft,fo,kept,some ol⟩:Fr),r'):=by
  rw[UA (f1:={f with au:=f.au+1}) (f:=f) (r:=r) rfl];rw[UA (f1:=f) (f:=f) rfl] at Bg;by_cases c:f.aU=true
  ·rw[if_pos c] at Bg ⊢;injection Bg with Bg
   injection Bg with g1 g2
   subst g1;subst g2;exact⟨_,rfl⟩
  ·rw[if_neg c] at Bg ⊢;exact⟨_,Bg⟩
 obtain⟨ZY,Rg⟩:=Rg;obtain⟨_,hw⟩:=OY (0+a.fs.length) _ _ yM p2;obtain⟨i,w1,w2,w3,w4⟩:=hw _ _ Rg;have hi:1<=i:=by
  cases i with
  |zero=>exact absurd w4.symm (by rw[List.take_zero];exact hr)
  |succ i=>omega
 have Sk:kept.length=8:=(mp.oB _<|List.mem_of_getElem? w3).2;obtain⟨y0,y1,y2,y3,y4,y5,y6,y7,rfl⟩:=len8 Sk;have iz:((i:Int)).toNat=i:=by omega
 obtain⟨mE,eE⟩:=JY (A':={mn a with steps:=a.steps+1,x0:=y0,x1:=y1,x2:=y2,x3:=y3,x4:=y4,x5:=y5,x6:=y6,x7:=y7}) (k:=i) (b':=a.b.dropLast) (g:=⟨ol,0,0,false,Z8,none⟩) mp yM yM ⟨rfl,rfl,rfl,rfl,rfl⟩ ⟨⟨by show(0:Int)<=0;omega,by show(0:Int)<=1000000;omega⟩,rfl⟩<|Pv mp.buf yZ;rw[w4] at eE;obtain⟨n1,bL,d⟩:=tV mE eE e1;obtain⟨n',dc,d2⟩:=d.again e1;have hn:i+1<=1000:=by omega
 rw[←iz] at mE d w3;have key:=j6 (wi:=(i:Int)) mc (jh h hj t cQ hs hd hk) d.fO d2.fO mE d.run d2.run w1 ⟨by omega,by omega⟩ w3 yZ;exact vW rfl rfl (xU h.ok d2 rfl (by have:=d.le;omega)) d2.fO L8 key
end
end wG
end
section
open Go Go.Rn Go.RowKit Go.Proofs
namespace uO
open cr fQ fc hI fF cU dM dk dB gF fT ia ig iv iF iw iG iT iU jI jO kL lv mm jV gK jr oq pv kK pw px sI qu wG
variable {L:bV}
noncomputable section
structure P9 (a:dR):Prop where
 qq:Good a
 top:a.fs=[]\/∃f r s,a.fs.reverse=f::r/\0<=f.au/\f.block[f.au.toNat]? =some s
structure OZ (a:dR):Prop where
 qq:Good a
 ask:fU a=(1,0,0)
 top:∃f r kind to ea eb bd el,a.fs.reverse=f::r/\f.block[f.au.toNat]? =some (.mk kind to ea eb bd el)/\vH a f r kind to
structure Qa (a:dR):Prop where
 qq:Good a
 ask:∃v,fU a=(2,v,0)
 top:∃f r kind to ea eb bd el,a.fs.reverse=f::r/\0<=f.au/\f.block[f.au.toNat]? =some (.mk kind to ea eb bd el)/\0<=to/\to<8
section
variable {B:aI} {a a':dR} {cf:List Fr} {c:Nat}
theorem aej(mc:Mt LS B)(h:OZ a)(hj:ye a cf c)(hs:E7 a=some a'):
 av pg B 271 (mj XT pg (aA Tryz.f49) 4 (.int .i64 0)<|eK a') (sF 49 Tryz.f49 [.ptr<|some (270,0)]) (aj (aq++bQ (pe a cf c)) 273):=by
 obtain⟨hg,hk,f,r,kind,to,ea,eb,bd,el,cQ,hb,hd⟩:=h;obtain⟨m,t⟩:=P7 (cf:=cf) cQ;unfold E7 at hs;rw[cQ] at hs;simp only[hb] at hs;by_cases c1:kind=1
 ·subst c1;rw[if_pos rfl] at hs;exact afW mc hg hj t cQ hb hd hk hs
 rw[if_neg c1] at hs;by_cases c2:kind=2
 ·subst c2;rw[if_pos rfl] at hs;exact afX mc hg hj t cQ hb hd hk hs
 rw[if_neg c2] at hs;by_cases c3:kind=3
 ·subst c3;rw[if_pos rfl] at hs;exact afY mc hg hj t cQ hb hd hk hs
 rw[if_neg c3] at hs;by_cases c4:kind=4
 ·subst c4;rw[if_pos rfl] at hs;by_cases z:gd a ea=0
  ·rw[if_neg fun q=>q z] at hs;exact Wp (tk:=false) mc hg hj t cQ hb hd hk z rfl hs
  ·rw[if_pos z] at hs;exact Wp (tk:=true) mc hg hj t cQ hb hd hk z rfl hs
 rw[if_neg c4] at hs;by_cases c5:kind=5
 ·subst c5;rw[if_pos rfl] at hs;by_cases z:0<mD (gd a ea)
  ·rw[if_pos z] at hs;exact aeh mc hg hj t cQ hb hd hk z hs
  ·rw[if_neg z] at hs;exact aei mc hg hj t cQ hb hd hk z hs
 rw[if_neg c5] at hs;by_cases c6:kind=6
 ·subst c6;rw[if_pos rfl] at hs;split at hs
  ·rename_i e;exact af0 mc hg hj t cQ hb hd hk e hs
  ·cases hs
 rw[if_neg c6] at hs;by_cases c7:kind=7
 ·subst c7;rw[if_pos rfl] at hs;exact afZ mc hg hj t cQ hb hd hk hs
 rw[if_neg c7] at hs;cases hs
theorem af1(mc:Mt LS B)(h:Qa a)(hj:ye a cf c){x:Int}(hs:BV a x=some a'):
 av pg B 271 (mj XT pg (aA Tryz.f55) 4 (.int .i64 0)<|eK a') (sF 55 Tryz.f55 [.ptr<|some (270,0),.int .i64 x]) (aj (aq++bQ (pe a cf c)) 273):=by
 obtain⟨hg,⟨v,hk⟩,f,r,kind,to,ea,eb,bd,el,cQ,h0,hb,t0,t8⟩:=h;obtain⟨m,t⟩:=P7 (cf:=cf) cQ;have k2:kind=2:=by
  have hk:=hk;unfold fU at hk;rw[cQ] at hk;simp only[hb] at hk;split at hk
  ·injection hk with q;exact absurd q ah
  split at hk
  ·injection hk with q;exact absurd q ah
  split at hk
  ·rename_i q;exact q.1
  ·injection hk with q;exact absurd q ah
 subst k2;unfold BV at hs;rw[cQ] at hs;simp only[hb] at hs;obtain⟨br,b',e1,rfl⟩:=xT hs;have mp:=hg.mp hj t;obtain⟨p1,p2,p3⟩:=vE t;have n6:=hg.jc;obtain⟨n',dc,d⟩:=tV (mp.iu (i:=to) (z:=x)) p2 e1;have ha:=(P8 hg t cQ _ hb).trans hk;obtain⟨op,nn,la⟩:=ea;obtain⟨a9,n2,lb⟩:=eb;have key:=jA mc ⟨hg.fO hj,by rw[t.n];omega,hg.jc,hg.b6,Pz t h0 hb,ha,hg.ay t,hg.steps,mp⟩ d.fO t0 t8 mp.iu d.run;exact vW (PA hg.ok.1 t0 t8) rfl (xU hg.ok d (by rw[List.length_set];exact hg.ok.1) ah) d.fO H9 key
theorem af2(mc:Mt [mI,iN,jG,lp,mC] B)(h:P9 a)(hj:ye a cf c):
 av pg B 271 (mj XT pg (aA Tryz.f38) 4 (AN<|fU a)<|eK a) (sF 38 Tryz.f38 [.ptr<|some (270,0)]) (aj (aq++bQ (pe a cf c)) 273):=by
 have key:∃o,sr (a.fs++cf) a.fs.length o/\wF (mn a) (kz (a.fs++cf) a.fs.length) a.b o=fU a:=by
  rcases h.top with e|⟨f,r,s,cQ,h0,hb⟩
  ·refine⟨none,.inl ⟨by rw[e];rfl,rfl⟩,?_⟩;unfold fU;rw[e];rfl
  ·obtain⟨m,t⟩:=P7 (cf:=cf) cQ;exact⟨some s,Pz t h0 hb,P8 h.qq t cQ s hb⟩
 obtain⟨o,h1,h2⟩:=key;have hm:=h.qq.fO hj;have H:=Wo mc hm h.qq.jc h.qq.b6 h1;rw[h2] at H;refine vW (a':=a) rfl rfl h.qq.ok hm (by rw[List.take_left])<|Rf ah (fun _ _ _ _ q=>q) H
end
open Classical in
def E9(a:dR)(rest:List AV):Option<|AV×dR:=if rest=[]/\OZ a then(E7 a).map fun a'=>(.int .i64 0,a') else none
open Classical in
def CR(a:dR)(rest:List AV):Option<|AV×dR:=match rest with
 |[.int .i64 x]=>if Qa a then(BV a x).map fun a'=>(.int .i64 0,a') else none
 |_=>none
open Classical in
def mo(a:dR)(rest:List AV):Option<|AV×dR:=if rest=[]/\P9 a then some (AN<|fU a,a) else none
def XU:FuncId×KE:=(49,.tok 4<|eW eK E9)
def YQ:FuncId×KE:=(55,.tok 4<|eW eK CR)
theorem W6(hP:bC pg):aV LS:=afV hP<|OV hP<|Eh hP<|G5 hP<|JX hP<|NJ hP<|TM hP<|afQ hP<|aee hP<|acY hP<|acV hP<|acW hP cN
theorem PB{a:dR}{cf:List Fr}{c:Nat}:∀p∈pe a cf c,p.1<273:=fun p hp=>by simp only[pe,List.mem_cons,List.not_mem_nil,or_false] at hp;rcases hp with rfl|rfl|rfl<;>(show _<273;simp only;omega)
theorem aek(hP:bC pg)(h:aV L):aV<|XU::L:=by
 refine Eb rJ hP gL p7 ir gZ kI kl h (W6 hP) Tryz.func49 (body:=aW pg 49 []) aZ aZ fun v rest y v' e=>?_;obtain⟨a,a',rfl,e1,rfl⟩:=BF e;unfold E9 at e1;split at e1
 ·rename_i q;obtain⟨rfl,hd⟩:=q;cases hs:E7 a with
  |none=>rw[hs] at e1;cases e1
  |some a2=>
   rw[hs] at e1;injection e1 with e1;injection e1 with e2 e3
   subst e2;subst e3;refine⟨aL.1 aZ,fun L hx=>?_⟩;generalize hv:eK a=v at hx;cases hx with
   |CJ b hb cf c hj=>have:=DT _ _ hv;subst this;exact⟨273,by omega,aL.1 aZ,PB,fun B mc=>aej mc hd hj hs⟩
 ·cases e1
theorem af3(hP:bC pg)(h:aV L):aV<|YQ::L:=by
 refine Eb rJ hP gL p7 ir gZ kI kl h (W6 hP) Tryz.func55 (body:=aW pg 55 []) aZ aZ fun v rest y v' e=>?_;obtain⟨a,a',rfl,e1,rfl⟩:=BF e;unfold CR at e1;split at e1
 ·rename_i x;split at e1
  ·rename_i hd;cases hs:BV a x with
   |none=>rw[hs] at e1;cases e1
   |some a2=>
    rw[hs] at e1;injection e1 with e1;injection e1 with e2 e3
    subst e2;subst e3;refine⟨aL.1 aZ,fun L hx=>?_⟩;generalize hv:eK a=v at hx;cases hx with
    |CJ b hb cf c hj=>have:=DT _ _ hv;subst this;exact⟨273,by omega,aL.1 aZ,PB,fun B mc=>af1 mc hd hj hs⟩
  ·cases e1
 ·cases e1
end
end uO
end
section
open Go Go.Rn Go.RowKit Go.Proofs
namespace YR
open cr fQ fc hI LC yP yO EX fF cU dM dk dB gF fT ia ig iv iF iw iG iT iU jI jO kL lv mm jV gK jr oq pv kK pw px sI qu wG uO
variable {B:aI} {vars:Int} {tx:List St} {q G m2 c2:Nat} {aG:List Int} {u2:AV} {bE:List Fr} {A2:MN}
noncomputable abbrev Aa(tx:List St):AV:=.ab (nm (tx.map ba).flatten) 0 tx.length
theorem af4(mc:Mt [Fx,Ee,EY,o5 60,zR] B)(hv:vars<1\/vars>32):av pg B 270 (Rn.Fin pg (aA Tryz.f23) fun y _=>y= .tuple [.ptr none,.int .i64 1]) (sF 23 Tryz.f23 [(Aa tx),(i6 vars),(.ab G q aG.length)])<|aj aq 270:=wS mc (.st 5<|.rg<|.go 1<|.fk (.go 5<|.en<|.rt 4 .no)<|.go 2<|.fk (.go 2<|.en<|.rt 4 .no)<|.no)<|ax (vars<1) (fun _=>(show((.tuple [(.ptr none),(i6<|.ofNat 1)]):AV)= .tuple [.ptr none,.int .i64 1] from rfl)) fun _=>(ax (vars>32) (fun _=>(show((.tuple [(.ptr none),(i6<|.ofNat 1)]):AV)= .tuple [.ptr none,.int .i64 1] from rfl)) eN)
theorem ael(mc:Mt [Fx,Ee,EY,o5 60,zR] B)(uH:bp (aY An) [(Aa tx),.int .i64 (aG.length:Int)]=some (.bool false))(hv:1<=vars/\vars<=32):av pg B 270 (Rn.Fin pg (aA Tryz.f23) fun y _=>y= .tuple [.ptr none,.int .i64 4]) (sF 23 Tryz.f23 [(Aa tx),(i6 vars),(.ab G q aG.length)])<|aj aq 270:=wS mc (.st 5<|.rg<|.go 1<|.fk (.no)<|.go 2<|.fk (.no)<|.go 2<|.en<|.st 2<|.rg<|.go 3<|.kn (.bool false)<|.go 2<|.en<|.rt 4 .no)<|ax (vars<1) eN fun _=>(ax (vars>32) eN fun _=>(ai uH (show((.tuple [(.ptr none),(i6<|.ofNat 4)]):AV)= .tuple [.ptr none,.int .i64 4] from rfl)))
noncomputable abbrev EE(A2:MN)(m2 c2:Nat)(u2:AV)(bE:List Fr):List<|Nat×Option ae:=aq++[(270,some<|.cells 13 (Tr.fill (A2.row (.ptr<|some (271,0)) (.slice (some (272,0)) (m2)<|.ar c2 13)<|i6 A2.steps) 0 .nil) []),(271,some<|.tok 3 u2),(272,some<|aJ aS bE)]
theorem aju(mc:Mt [Fx,Ee,EY,o5 60,zR] B):av pg B 270 (Rn.Fin pg (aA Tryz.f23) fun y s'=>y= .tuple [.ptr<|some (270,0),.int .i64 0]/\∀m o,(m,o)∈dQ 270 3 (⟨⟨A2.pre,m2,(.ar c2 13),[(i6 A2.steps)]⟩,u2,(bE.map aS).flatten⟩:VS)->s'.h.get m=some o) (⟨23,aP [(6,(.ptr<|some (270,0))),(7,i0)],34,(dt 23 [1,1,1,1,1]),[],none⟩:AF)<|aj (EE A2 m2 c2 u2 bE) 273:=wS mc (.rt 1 .no)<|oe (st:=(⟨⟨A2.pre,m2,(.ar c2 13),[(i6 A2.steps)]⟩,u2,(bE.map aS).flatten⟩:VS)) (s:=aj (aq++[(270,some<|.cells 13 (Tr.fill (A2.row (.ptr<|some (271,0)) (.slice (some (272,0)) (m2)<|.ar c2 13)<|i6 A2.steps) 0 .nil) []),(271,(some<|.tok 3 u2)),(272,(some<|aJ aS bE))]) 273) (show((.tuple [(.ptr<|some (270,0)),i0]):AV)= .tuple [.ptr<|some (270,0),.int .i64 0] from rfl) cn cn cn
noncomputable abbrev Ch(vars:Int)(aG:List Int)(tx:List St):VS:=(⟨⟨[(i6 vars),(.ab (nm (aG.map aH).flatten) 0 aG.length),i0,i0,i0,i0,i0,i0,i0,i0],1,(.ar 1 13),[.int .i64 0]⟩,(cv [[]]),(([(⟨tx,0,0,false,[0,0,0,0,0,0,0,0],none⟩:Fr)]).map aS).flatten⟩:VS)
noncomputable abbrev Qb(u2:AV)(A2:MN)(m2 c2:Nat)(bE:List Fr):List<|Nat×Option ae:=aq++[(270,(some<|.tok 3 u2)),(271,some<|.cells 13 (Tr.fill (A2.row (.ptr<|some (270,0)) (.slice (some (274,0)) (m2)<|.ar c2 13)<|i6 A2.steps) 0 .nil) []),(274,(some<|aJ aS bE))]
theorem ahF(mc:Mt [Fx,Ee,EY,o5 60,zR] B)(uH:bp (aY An) [(Aa tx),.int .i64 (aG.length:Int)]=some (.bool true))(hv:1<=vars/\vars<=32)(nH:bp (aY Ca) [(.ab G q aG.length)]=some (.ab (nm (aG.map aH).flatten) 0 aG.length))(Sl:bp (aY<|qO 60) [(Aa tx)]=some (Aa tx))(IJ:lP Qy []=some (some<|cv [[]],fun p=>p))(hlen:bE.length<=1000000)(pq:(AV.ab A2.G A2.q A2.lg).cq=true)(k0:bR 10 (Ch vars aG tx)=true)(k1:ey fh (Ch vars aG tx) []=some (.tuple [],(⟨⟨A2.pre,m2,(.ar c2 13),[.int .i64 A2.steps]⟩,u2,(bE.map aS).flatten⟩:VS)))(k2:bR 10 (⟨⟨A2.pre,m2,(.ar c2 13),[.int .i64 A2.steps]⟩,u2,(bE.map aS).flatten⟩:VS)=true):av pg B 270 (Rn.Fin pg (aA Tryz.f23) fun y s'=>y= .tuple [.ptr<|some (270,0),.int .i64 0]/\∀m o,(m,o)∈dQ 270 3 (⟨⟨A2.pre,m2,(.ar c2 13),[(i6 A2.steps)]⟩,u2,(bE.map aS).flatten⟩:VS)->s'.h.get m=some o) (sF 23 Tryz.f23 [(Aa tx),(i6 vars),(.ab G q aG.length)])<|aj aq 270:=by have ht:top=549755813888:=rfl;exact wC mc (C:=(fun fr s1 _=>fr=(⟨23,aP [(6,(.ptr<|some (270,0))),(7,i0)],34,(dt 23 [1,1,1,1,1]),[],none⟩:AF)/\s1=(aj (EE A2 m2 c2 u2 bE) 273))) (fun fr s1 p hC=>by obtain⟨rfl,rfl⟩:=hC;exact aju mc) (.st 5<|.rg<|.go 1<|.fk (.no)<|.go 2<|.fk (.no)<|.go 2<|.en<|.st 2<|.rg<|.go 3<|.kn (.bool true)<|.go 2<|.en<|.st 4<|.rg<|.go 2<|.kn (.ab (nm (aG.map aH).flatten) 0 aG.length)<|.nt (some<|cv [[]]) (fun p=>p)<|.go 3<|.en<|.st 1<|.rg<|.go 2<|.kn (Aa tx)<|.go 1<|.il<|.st 4<|.rg<|.go 1<|.cg (.tuple []) (LD 270 dW eC 3 271 270 274 (⟨⟨A2.pre,m2,(.ar c2 13),[.int .i64 A2.steps]⟩,u2,(bE.map aS).flatten⟩:VS)) (HJ 270 dW eC 3 271 270 274<|Ch vars aG tx)<|.en<|.rt 1<|.en<|.st 2<|.rn [(6,(.ptr<|some (271,0))),(7,i0)] (Qb u2 A2 m2 c2 bE) [(6,(.ptr<|some (270,0))),(7,i0)] (EE A2 m2 c2 u2 bE) 275 273 .no)<|ax (vars<1) eN fun _=>(ax (vars>32) eN fun _=>(ai uH<|ai nH<|ai IJ<|ai Sl<|ai (Pt (P:=pg) (F:=FU) (sp:=sp [Fx,Ee,EY,o5 60,zR]) (g:=72) (U:=270) (h0:=dW) (ns:=eC) (rest:=[]) (n:=5) (kp:=10) (k:=3) (val:=ey fh) (a:=271) (r1:=270) (r2:=274) (st:=(Ch vars aG tx)) (br:=(⟨⟨A2.pre,m2,(.ar c2 13),[.int .i64 A2.steps]⟩,u2,(bE.map aS).flatten⟩:VS)) (y:=.tuple []) cn cn cn cn rfl k0 k1 cn k2)<|ahr (a:=bu<|dZ ((Ch vars aG tx)).R 270 274) (b:=.tok 3 ((Ch vars aG tx)).u) (c:=bu ((Ch vars aG tx)).row)<|ai (mS [(6,(.ptr<|some (271,0))),(7,i0)])<|ai (mO<|Qb u2 A2 m2 c2 bE)<|ai (show gY FU 270 275 [(6,(.ptr<|some (271,0))),(7,i0)] (Qb u2 A2 m2 c2 bE) [(6,(.ptr<|some (270,0))),(7,i0)] (EE A2 m2 c2 u2 bE) 273 from Cu (ps:=[(270,271),(271,270),(272,274)]) (lo:=270) (bG:=275) ah cn cn (fun r hr ht=>⟨⟨by unfold top;omega,_,(mi 0),((bA.ptr<|rq hr)).z⟩,⟨⟨by unfold top;omega,_,(mi 1),vi⟩,trivial⟩⟩) fun r hr ht=>⟨mw (mi 1) (rq hr) qM<|KX (l:=[(i6 A2.vars),(.ab A2.G A2.q A2.lg),(i6 A2.x0),(i6 A2.x1),(i6 A2.x2),(i6 A2.x3),(i6 A2.x4),(i6 A2.x5),(i6 A2.x6),(i6 A2.x7),(.ptr<|some (270,0)),(.slice (some (274,0)) (m2)<|.ar c2 13),(i6 A2.steps)]) (m:=[(i6 A2.vars),(.ab A2.G A2.q A2.lg),(i6 A2.x0),(i6 A2.x1),(i6 A2.x2),(i6 A2.x3),(i6 A2.x4),(i6 A2.x5),(i6 A2.x6),(i6 A2.x7),(.ptr<|some (271,0)),(.slice (some (272,0)) (m2)<|.ar c2 13),(i6 A2.steps)]) ⟨vi,⟨((Hk ht (by first|rfl|exact aL.2 (cV _)|assumption))).z,⟨vi,⟨vi,⟨vi,⟨vi,⟨vi,⟨vi,⟨vi,⟨vi,⟨((bA.ptr<|rq hr)).z,⟨((bA.slice<|rq hr)).z,⟨vi,trivial⟩⟩⟩⟩⟩⟩⟩⟩⟩⟩⟩⟩⟩,⟨mw (mi 0) (rq hr) (fm.refl _) G6,⟨mw (mi 2) (rq hr) (fm.refl _)<|G3 ht hlen,trivial⟩⟩⟩) (show(⟨23,aP [(6,(.ptr<|some (270,0))),(7,i0)],34,(dt 23 [1,1,1,1,1]),[],none⟩:AF)=(⟨23,aP [(6,(.ptr<|some (270,0))),(7,i0)],34,(dt 23 [1,1,1,1,1]),[],none⟩:AF)/\(aj (EE A2 m2 c2 u2 bE) 273)=(aj (EE A2 m2 c2 u2 bE) 273) from⟨rfl,rfl⟩)))
end YR
end
section
open Go Go.Rn Go.RowKit Go.Proofs
namespace Ar
open cr fQ fc hI LC yP oj n7 uK qV AJ yO EX fF cU dM dk dB gF fT ia ig iv iF iw iG iT iU jI jO kL lv mm jV gK jr oq pv kK pw px sI qu wG uO YR
variable {p:Option AV×(AV->AV)}
noncomputable section
theorem vX(l:List St):nm (bD l)=nm (l.map ba).flatten:=by rw[vy]
def Cw(tx:List St):Fr:=⟨tx,0,0,false,Z8,none⟩
def ng(e:Int)(p:AV):AV:=.tuple [p,.int .i64 e]
def As(args:List AV)(p:Option AV×(AV->AV)):Prop:=∃(tx:List St) (vars:Int) (aG:List Int) (G q:Nat),args=[.ab (nm (tx.map ba).flatten) 0 tx.length,.int .i64 vars,.ab G q aG.length]/\dj aH 1 (.ab G q aG.length) aG/\aG.length<=1000/\(((vars<1\/vars>32)/\p=(none,ng 1))\/((1<=vars/\vars<=32)/\sg 60 tx=true/\lq 60 tx=true/\∃b,AK tx (aG.length:Int) b/\((b=false/\p=(none,ng 4))\/(b=true/\qW 60 tx=true/\∃st bb,lZ 1000 [Cw tx] [[]]=some (st,bb)/\p=(some<|eK ⟨vars,aG,Z8,bb,st.reverse,0⟩,ng 0)))))
theorem aem{l:List St}{n:Int}{b b':Bool}(h:AK l n b)(h':AK l n b'):b=b':=by
 obtain⟨c1,c2,p,a1,a2,a3⟩:=h;obtain⟨c1',c2',p',b1,b2,b3⟩:=h';rw[a1] at b1;injection b1 with b1;injection b1 with _ q1 q2 _
 injection q1 with _ q1;injection q2 with _ q2
 rw[a2] at b2;injection b2 with b2
 rw[a3,b3,q1,q2,b2]
theorem As.bS{args:List AV}{p':Option AV×(AV->AV)}(h:As args p)(h':As args p'):p=p':=by
 obtain⟨tx,vars,aG,G,q,rfl,i1,_,h⟩:=h;obtain⟨tx',vars',Yy,G',q',e,i2,_,h'⟩:=h';simp only[List.cons.injEq,AV.ab.injEq,AV.int.injEq,true_and,_root_.and_true] at e;obtain⟨⟨e1,e2⟩,rfl,rfl,rfl,e3⟩:=e;rw[←vX, ←vX] at e1;have e1:=tL _ _<|ud (lW _) (lW _) e1;subst e1;rw[←e3] at i2;have e4:=dj.inj rW i1 (by rw[e3] at i2 ⊢;exact i2);subst e4;rcases h with⟨a,rfl⟩|⟨a,_,_,b,m,h⟩<;>rcases h' with⟨a',rfl⟩|⟨a',_,_,b',m',h'⟩
 ·rfl
 ·omega
 ·omega
 ·have eb:=aem m m';subst eb;rcases h with⟨x,rfl⟩|⟨x,_,st,bb,s1,rfl⟩<;>rcases h' with⟨x',rfl⟩|⟨x',_,br,bb',s2,rfl⟩
  ·rfl
  ·rw[x] at x';cases x'
  ·rw[x] at x';cases x'
  ·rw[s1] at s2;injection s2 with s2;injection s2 with g1 g2
   rw[g1,g2]
open Classical in
def yA(args:List AV):Option<|Option AV×(AV->AV):=if h:∃p,As args p then some h.choose else none
theorem ac3{args:List AV}(h:yA args=some p):As args p:=by
 unfold yA at h;split at h
 ·rename_i q;injection h with h;rw[←h];exact q.choose_spec
 ·cases h
theorem Vp{args:List AV}(h:As args p):yA args=some p:=by unfold yA;have q:∃p,As args p:=⟨p,h⟩;rw[dif_pos q];exact congrArg some<|As.bS q.choose_spec h
def XV:FuncId×KE:=(23,.new 4 yA)
theorem aen(tx:List St):iy [Cw tx]:=fun f hf=>by rw[List.mem_singleton] at hf;subst hf;exact⟨⟨by show(0:Int)<=0;omega,by show(0:Int)<=1000000;omega⟩,rfl⟩
theorem aeo(hP:bC pg){L:bV}(h:aV L):aV<|XV::L:=by
 refine J8 rJ hP gL (aL.1 aZ) ir gZ h (afD hP<|abV hP<|aec hP<|Ux hP 60<|TM hP cN) Tryz.func23 (body:=aW pg 23 []) aZ aZ fun args p e=>?_;obtain⟨tx,vars,aG,G,q,rfl,i1,hl,h⟩:=ac3 e;have cq:[AV.ab (nm (tx.map ba).flatten) 0 tx.length,.int .i64 (aG.length:Int)].all AV.hi=true:=by rw[List.all_cons, ←vX,uj];rfl
 have hm:∀b,sg 60 tx=true->lq 60 tx=true->AK tx (aG.length:Int) b->bp (aY An) [.ab (nm (tx.map ba).flatten) 0 tx.length,.int .i64 (aG.length:Int)]=some (.bool b):=fun b h1 h2 h3=>fu (ff An.bS ⟨tx,_,b,by rw[vX],h1,h2,h3,rfl⟩) cq rfl;refine⟨aL.1 aZ,fun e0 B mc=>?_,fun v e0=>?_⟩
 ·rw[←gN];rcases h with⟨a,rfl⟩|⟨a,d1,d2,b,m,h⟩
  ·exact af4 mc a
  ·rcases h with⟨rfl,rfl⟩|⟨_,_,_,_,_,rfl⟩
   ·exact ael mc (hm _ d1 d2 m) a
   ·cases e0
 ·rcases h with⟨a,rfl⟩|⟨a,d1,d2,b,m,h⟩
  ·cases e0
  rcases h with⟨rfl,rfl⟩|⟨rfl,gc,st,bb,hs,rfl⟩
  ·cases e0
  injection e0 with e0
  subst e0;refine⟨we.RV rfl,fun B mc=>?_⟩;rw[←gN];let A:MN:=⟨vars,nm (aG.map Ai).flatten,0,aG.length,aG,0,0,0,0,0,0,0,0,0⟩;have m0:eA A 1 1 [Cw tx] [[]]:=⟨dj.aD MD aG,PY,aen tx,Nat.le_refl 1,Nat.le_refl 1,by show 1<=1000000;omega,a⟩;obtain⟨n',dc,d⟩:=tV (st:=[Cw tx]) m0 rfl hs;have nH:bp (aY Ca) [.ab G q aG.length]=some (.ab (nm (aG.map aH).flatten) 0 aG.length):=fu (ff Ca.bS ⟨G,q,aG,rfl,i1,by omega,rfl⟩) (by rw[List.all_cons,i1.hi];rfl) (dj.aD eI aG).hi;have Sl:bp (aY<|qO 60) [.ab (nm (tx.map ba).flatten) 0 tx.length]=some (.ab (nm (tx.map ba).flatten) 0 tx.length):=fu (ff qO.bS ⟨tx,by rw[vX],gc,by rw[vX]⟩) (by rw[List.all_cons, ←vX,uj];rfl) (by rw[←vX];exact uj tx);have ok:B6 ⟨vars,aG,Z8,bb,st.reverse,0⟩:=by refine⟨rfl,d.fO.buf,?_,hl,a⟩;show st.reverse.length<=1000;rw[←d.eq,List.reverse_reverse,List.length_take];have:=d.le;omega
  have key:=ahF (vars:=vars) (G:=G) (q:=q) (tx:=tx) (aG:=aG) (A2:=A) (m2:=n') (c2:=1) (u2:=cv bb) (bE:=dc) mc (hm _ d1 d2 m) a nH Sl rfl d.fO.len d.fO.aG.cq Q2 Q2 Q2;have e1:dc.take n'=st.reverse:=by rw[←d.eq,List.reverse_reverse]
  have fC:(st.reverse).length=n':=by rw[←e1,List.length_take];have:=d.fO.nP;omega
  have e2:dc=st.reverse++dc.drop n':=by rw[←e1,List.take_append_drop]
  refine Rf (Nat.le_refl _) (YO fun y1 s' q=>⟨q.1,pe ⟨vars,aG,Z8,bb,st.reverse,0⟩ (dc.drop n') 1,XT.CJ _ ok _ _ ⟨by rw[fC];exact d.fO.rM,by rw[←e2];exact d.fO.len,fun f hf=>d.fO.oB f<|List.mem_of_mem_drop hf⟩,?_⟩) key;have hx:=q.2;have e3:=Vn ⟨vars,aG,Z8,bb,st.reverse,0⟩ (dc.drop n') 1;rw[←e3];show ∀m o,(m,o)∈dQ 270 3 (dy _ (st.reverse).length 1 (st.reverse++dc.drop n') bb)->_;rw[fC, ←e2];exact hx
end
end Ar
end
section
open Go Go.Rn Go.RowKit Go.Proofs
namespace HM
open cr dk fQ fc hI kK zm yP cU Q9 Ar
variable {p:Option AV×(AV->AV)}
noncomputable section
def Au(args:List AV)(p:Option AV×(AV->AV)):Prop:=∃(init:List Int) (N o:Nat) (st dV:Int),args=[.ab N o init.length,.int .i64 st,.int .i64 dV]/\dj aH 1 (.ab N o init.length) init/\
  ((((init.length:Int)<1\/(init.length:Int)>32\/st<1\/st>(init.length:Int)\/dV<0\/dV>1099511627776)/\p=(none,ng 1))\/
   ((1<=init.length/\init.length<=32/\1<=st/\st<=(init.length:Int)/\0<=dV/\dV<=1099511627776)/\p=(some<|aX ⟨List.replicate st.toNat ⟨-1,0⟩,0,dV,init⟩,ng 0)))
theorem Au.bS{args:List AV}{p':Option AV×(AV->AV)}(h:Au args p)(h':Au args p'):p=p':=by
 obtain⟨init,N,o,st,dV,rfl,i1,h⟩:=h;obtain⟨anS,N',o',br,an2,e,i2,h'⟩:=h';simp only[List.cons.injEq,AV.ab.injEq,AV.int.injEq,true_and,_root_.and_true] at e;obtain⟨⟨rfl,rfl,e3⟩,rfl,rfl⟩:=e;rw[←e3] at i2;have e4:=dj.inj rW i1 (by rw[e3] at i2 ⊢;exact i2);subst e4;rcases h with⟨a,rfl⟩|⟨a,rfl⟩<;>rcases h' with⟨a',rfl⟩|⟨a',rfl⟩
 ·rfl
 ·omega
 ·omega
 ·rfl
open Classical in
def wm(args:List AV):Option<|Option AV×(AV->AV):=if h:∃p,Au args p then some h.choose else none
theorem ac4{args:List AV}(h:wm args=some p):Au args p:=by
 unfold wm at h;split at h
 ·rename_i q;injection h with h;rw[←h];exact q.choose_spec
 ·cases h
theorem Vq{args:List AV}(h:Au args p):wm args=some p:=by unfold wm;have q:∃p,Au args p:=⟨p,h⟩;rw[dif_pos q];exact congrArg some<|Au.bS q.choose_spec h
def XW:FuncId×KE:=(6,.new 2 wm)
theorem aep(hP:bC pg){L:bV}(h:aV L):aV<|XW::L:=by
 refine J8 rJ hP gL (aL.1 aZ) ir gZ h cN Tryz.func6 (body:=aW pg 6 []) aZ aZ fun args p e=>?_;obtain⟨init,N,o,st,dV,rfl,i1,h⟩:=ac4 e;refine⟨aL.1 aZ,fun e0 B mc=>?_,fun v e0=>?_⟩
 ·rw[←gN];rcases h with⟨a,rfl⟩|⟨a,rfl⟩
  ·exact afI mc a
  ·cases e0
 ·rcases h with⟨a,rfl⟩|⟨a,rfl⟩
  ·cases e0
  injection e0 with e0
  subst e0;refine⟨we.RV rfl,fun B mc=>?_⟩;rw[←gN];obtain⟨b1,b2,b3,b4,b5,b6⟩:=a;cases init with
  |nil=>exact absurd b1 (by show ¬(1<=0);omega)
  |cons x l=>
   have hf:cx FU N o ((l.length+1)*1)=some ((x::l).map aH).flatten:=by
    rcases J9 eI.len i1 with q|q
    ·exact q
    ·cases q
   have est:st=(st.toNat:Int):=by omega
   have b4':st.toNat<=l.length+1:=by rw[List.length_cons] at b4;omega
   have dq:lk ⟨List.replicate st.toNat ⟨-1,0⟩,0,dV,x::l⟩:=⟨⟨by show 1<=(List.replicate _ _).length;rw[List.length_replicate];omega,by show(List.replicate _ _).length<=32;rw[List.length_replicate];rw[List.length_cons] at b2;omega⟩,⟨b1,b2⟩,by show(0:Int)<=0;omega,b6⟩;have key:=afJ (N:=N) (o:=o) (m:=l.length) (S:=st.toNat) (dV:=dV) (init:=x::l) ⟨by omega,by rw[List.length_cons] at b2;omega⟩ b2 b4' ⟨b5,b6⟩ i1.len.2.1 ⟨i1.len.2.1,hf,rfl⟩ mc dq;rw[←est] at key;exact key
end
end HM
end
section
open Go Go.Rn Go.RowKit Go.Proofs
namespace AO
open cr dk fQ fc hI zm cU fF dM jV lv iw iG px qu uO iF kL
variable {L:bV} {S:Type} {rest:List AV} {f:S->List AV->Option AV} {enc:S->AV}
noncomputable section
def bK(enc:S->AV)(f:S->List AV->Option AV)(v:AV)(rest:List AV):Option AV:=(eW enc (fun a r=>(f a r).map fun y=>(y,a)) v rest).map (·.1)
theorem O1(inj:∀a b,enc a=enc b->a=b){a:S}:bK enc f (enc a) rest=f a rest:=by unfold bK;rw[BP inj];cases f a rest<;>rfl
theorem Ov{v:AV}{y:AV}(h:bK enc f v rest=some y):∃a,v=enc a/\f a rest=some y:=by
 unfold bK at h;cases q:eW enc (fun a r=>(f a r).map fun y=>(y,a)) v rest with
 |none=>rw[q] at h;cases h
 |some p=>
  rw[q] at h;injection h with h;subst h
  obtain⟨y,v'⟩:=p;obtain⟨a,a',e1,e2,e3⟩:=BF q;refine⟨a,e1,?_⟩;cases q2:f a rest with
  |none=>rw[q2] at e2;cases e2
  |some z=>rw[q2] at e2;injection e2 with e2;injection e2 with e2 _;exact congrArg some e2
def W7:FuncId×KE:=(38,.raw<|lS 4<|bK eK fun a rest=>(mo a rest).map (·.1))
theorem ac6(hP:bC pg)(h:aV L):aV<|W7::L:=by
 refine O0 rJ hP gL p7 ir gZ kI kl h (OV hP<|Eh hP<|G5 hP<|JX hP<|NJ hP cN) Tryz.func38 (body:=aW pg 38 []) aZ aZ fun v rest y e=>?_;obtain⟨a,rfl,e1⟩:=Ov e;unfold mo at e1;split at e1
 ·rename_i q;obtain⟨rfl,hd⟩:=q;injection e1 with e1
  have e1:AN (fU a)=y:=e1;subst e1;refine⟨aL.1 aZ,fun L hx=>?_⟩;generalize hv:eK a=v at hx;cases hx with
  |CJ b hb cf c hj=>have:=DT _ _ hv;subst this;exact⟨273,by omega,aL.1 aZ,PB,fun B mc=>af2 mc hd hj⟩
 ·cases e1
def uo:cL->List AV->Option AV
 |a,[.int .i64 x0]=>some<|yf a x0
 |_,_=>none
def Wq:FuncId×KE:=(51,.raw<|lS 2<|bK aX uo)
theorem Bx{L0:bV}{g:Nat}{fn:Func}{F:cL->List AV->Option AV}(hP:bC pg)(h:aV L)(h0:aV L0)(ch:Tryz.prog.funcs[g]? =some fn)(H:∀a rest y,F a rest=some y->max fn.ntmps (rest.length+1)<=top/\∀B c1 c2,Mt L0 B->lk a->uy B g (max fn.ntmps<|rest.length+1) fn.results.toList a c1 c2 rest y (aX a))(cw:fn.body=some (aW pg g []):=by kernel_rfl)(hn:(fn.name == "runtime.NumGoroutine")=false:=by kernel_rfl):aV<|(g,.raw<|lS 2<|bK aX F)::L:=by
 refine O0 rJ hP gL p7 ir gZ kI kl h h0 ch cw hn fun v rest y e=>?_;obtain⟨a,rfl,e1⟩:=Ov e;obtain⟨q1,q2⟩:=H a rest y e1;refine⟨q1,fun L hx=>?_⟩;generalize hv:aX a=v at hx;cases hx with
 |heap b hb c1 c2=>have:=GA _ _ hv;subst this;exact⟨273,by omega,aL.1 aZ,gV,fun B mc=>q2 B c1 c2 mc hb⟩
theorem ab0(hP:bC pg)(h:aV L):aV<|Wq::L:=Bx hP h cN Tryz.func51 fun a rest y e=>by unfold uo at e;split at e<;>cases e;exact⟨aL.1 aZ,fun B c1 c2 mc hb=>afc mc hb⟩
def rY:cL->List AV->Option AV
 |a,[.int .i64 x0]=>some<|zJ a x0
 |_,_=>none
def UB:FuncId×KE:=(52,.raw<|lS 2<|bK aX rY)
theorem aaQ(hP:bC pg)(h:aV L):aV<|UB::L:=Bx hP h cN Tryz.func52 fun a rest y e=>by unfold rY at e;split at e<;>cases e;exact⟨aL.1 aZ,fun B c1 c2 mc hb=>acI mc hb⟩
def Ht:cL->List AV->Option AV
 |a,[.int .i64 x0]=>some<|z7 a x0
 |_,_=>none
def Ws:FuncId×KE:=(54,.raw<|lS 2<|bK aX Ht)
theorem ab1(hP:bC pg)(h:aV L):aV<|Ws::L:=Bx hP h cN Tryz.func54 fun a rest y e=>by unfold Ht at e;split at e<;>cases e;exact⟨aL.1 aZ,fun B c1 c2 mc hb=>afd mc hb⟩
def EF:cL->List AV->Option AV
 |a,[]=>some<|KJ a
 |_,_=>none
def Wt:FuncId×KE:=(46,.raw<|lS 2<|bK aX EF)
theorem ab2(hP:bC pg)(h:aV L):aV<|Wt::L:=Bx hP h cN Tryz.func46 fun a rest y e=>by unfold EF at e;split at e<;>cases e;exact⟨aL.1 aZ,fun B c1 c2 mc hb=>afe mc hb⟩
def pj:cL->List AV->Option AV
 |a,[]=>some<|LA a
 |_,_=>none
def W8:FuncId×KE:=(28,.raw<|lS 2<|bK aX pj)
theorem ac7(hP:bC pg)(h:aV L):aV<|W8::L:=Bx hP h cN Tryz.func28 fun a rest y e=>by unfold pj at e;split at e<;>cases e;exact⟨aL.1 aZ,fun B c1 c2 mc hb=>ag3 mc hb⟩
def oO:cL->List AV->Option AV
 |a,[]=>some<|JR a
 |_,_=>none
def UC:FuncId×KE:=(29,.raw<|lS 2<|bK aX oO)
theorem aaR(hP:bC pg)(h:aV L):aV<|UC::L:=Bx hP h cN Tryz.func29 fun a rest y e=>by unfold oO at e;split at e<;>cases e;exact⟨aL.1 aZ,fun B c1 c2 mc hb=>acJ mc hb⟩
def np:cL->List AV->Option AV
 |a,[.int .i64 x0]=>some<|zP a x0
 |_,_=>none
def Vr:FuncId×KE:=(11,.raw<|lS 2<|bK aX np)
theorem abc(hP:bC pg)(h:aV L):aV<|Vr::L:=Bx hP h cN Tryz.func11 fun a rest y e=>by unfold np at e;split at e<;>cases e;exact⟨aL.1 aZ,fun B c1 c2 mc hb=>adT mc hb hb.1.1⟩
end
end AO
end
section
open Go Go.Rn Go.RowKit Go.Proofs
namespace CS
open cr fQ fc hI oj n7 AJ Ct yO EX fF cU dM F8 dk dB gF fT ia ig iv iF iw iG iT iU jI jO kL lv mm jV gK jr px sI qu wG uO
def Fb:St->Int| .mk _ t _ _ _ _=>t
def oD:Nat->List St->Prop
 |0,l=>l=[]
 |d+1,l=>l.length<=1000000/\∀s∈l,(1<=iR s/\iR s<=8)/\(0<=Fb s/\Fb s<8)/\oD d (ct s)/\oD d (cm s)
theorem Wu:∀d,oD d []
 |0=>rfl
 |d+1=>⟨Nat.zero_le _,fun s h=>by cases h⟩
def pO:List Fr->Nat
 |[]=>0
 |f::r=>pO r+(if f.aU=true then 1 else 0)
def wJ:List Fr->Prop
 |[]=>True
 |f::r=>oD (6 - r.length) f.block/\(0<=f.au/\f.au<=(f.block.length:Int))/\(0<=f.turns/\f.turns<=7)/\f.kept.length=8/\(f.aU=true->r≠[]/\∃ol,f.other=some ol/\oD (6 - r.length) ol)/\wJ r
structure Inv (st:List Fr) (b:bB):Prop where
 wf:wJ st
 len:b.length=pO st+1
 buf:fy b
theorem af6{d:Nat}{l:List St}(h:oD d l):l.length<=1000000:=by
 cases d with
 |zero=>have:l=[]:=h;subst this;exact Nat.zero_le _
 |succ d=>exact h.1
def wK:List Fr->Nat
 |[]=>0
 |f::r=>wK r+f.turns.toNat+1
theorem Gn:∀(k:Nat) (st:List Fr) (b:bB),Inv st b->wK st<k->∃br b',lZ k st b=some (br,b')/\Inv br b'/\br.length<=st.length
 |0,_,_,_,h=>by omega
 |k+1,[],b,hi,_=>⟨[],b,rfl,hi,Nat.le_refl _⟩
 |k+1,f::r,b,hi,hm=>by
  obtain⟨⟨h1,h2,h3,h4,h5,h6⟩,hl,hb⟩:=hi;unfold lZ;by_cases c1:f.au<(f.block.length:Int)
  ·rw[if_pos c1];exact⟨_,_,rfl,⟨⟨h1,h2,h3,h4,h5,h6⟩,hl,hb⟩,Nat.le_refl _⟩
  ·rw[if_neg c1];by_cases c2:0<f.turns
   ·rw[if_pos c2];have i2:Inv ({f with au:=0,turns:=f.turns - 1}::r) b:=⟨⟨h1,⟨by show(0:Int)<=0;omega,by show(0:Int)<=_;omega⟩,⟨by show 0<=f.turns - 1;omega,by show f.turns - 1<=7;omega⟩,h4,h5,h6⟩,hl,hb⟩;by_cases c3:0<(f.block.length:Int)
    ·rw[if_pos c3];exact⟨_,_,rfl,i2,Nat.le_refl _⟩
    ·rw[if_neg c3];exact Gn k _ b i2 (by show wK r+(f.turns - 1).toNat+1<k;have:wK (f::r)=wK r+f.turns.toNat+1:=rfl;omega)
   ·rw[if_neg c2];have eF:wK r<k:=by have:wK (f::r)=wK r+f.turns.toNat+1:=rfl;omega
    have hlen:b.length=pO r+(if f.aU=true then 1 else 0)+1:=hl;by_cases c4:f.aU=true
    ·rw[if_pos c4];rw[if_pos c4] at hlen;have c5:2<=b.length:=by omega
     rw[if_pos c5];obtain⟨br,b',e,i,l⟩:=Gn k r (gU b) ⟨h6,by have:=Jj b c5;omega,JW hb c5⟩ eF;exact⟨br,b',e,i,by rw[List.length_cons];omega⟩
    ·rw[if_neg c4];rw[if_neg c4] at hlen;obtain⟨br,b',e,i,l⟩:=Gn k r b ⟨h6,hlen,hb⟩ eF;exact⟨br,b',e,i,by rw[List.length_cons];omega⟩
theorem PC:∀{st:List Fr},wJ st->wK st<=8*st.length
 |[],_=>Nat.le_refl _
 |f::r,h=>by have:=PC h.2.2.2.2.2;have h3:=h.2.2.1;show wK r+f.turns.toNat+1<=8*(r.length+1);omega
theorem W9:∀{st:List Fr},wJ st->pO st+1<=st.length\/pO st=0
 |[],_=>.inr rfl
 |f::r,h=>by
  rcases W9 h.2.2.2.2.2 with q|q
  ·left;show pO r+(if f.aU=true then 1 else 0)+1<=r.length+1;split<;>omega
  ·by_cases c:f.aU=true
   ·obtain⟨hr,_⟩:=h.2.2.2.2.1 c;left;show pO r+(if f.aU=true then 1 else 0)+1<=r.length+1;rw[if_pos c];cases r with
    |nil=>exact absurd rfl hr
    |cons a r=>rw[List.length_cons];omega
   ·right;show pO r+(if f.aU=true then 1 else 0)=0;rw[if_neg c];exact q
structure mq (a:dR):Prop where
 inv:Inv a.fs.reverse a.b
 l:a.l.length=8
 top:a.fs.reverse=[]\/∃f r,a.fs.reverse=f::r/\f.au<(f.block.length:Int)
 aG:a.aG.length<=1000
 vars:1<=a.vars/\a.vars<=32
theorem Hu{f:Fr}{r:List Fr}(h:wJ<|f::r)(ht:f.au<(f.block.length:Int)):∃d s,6 - r.length=d+1/\f.block[f.au.toNat]? =some s/\(1<=iR s/\iR s<=8)/\(0<=Fb s/\Fb s<8)/\oD d (ct s)/\oD d (cm s):=by
 have h0:=h.2.1.1;have cF:f.au.toNat<f.block.length:=by omega
 have hb:=h.1;cases e:6 - r.length with
 |zero=>rw[e] at hb;have:f.block=[]:=hb;rw[this] at cF;simp at cF
 |succ d=>rw[e] at hb;obtain⟨q1,q2,q3,q4⟩:=hb.2 _<|List.getElem_mem cF;exact⟨d,_,rfl,List.getElem?_eq_getElem cF,q1,q2,q3,q4⟩
theorem Xa:∀{st:List Fr},wJ st->∀f∈st,((0<=f.turns/\f.turns<=1000000)/\f.kept.length=8)/\(0<=f.au/\f.au<=1000000)
 |[],_,f,h=>by cases h
 |g::r,h,f,hf=>by
  rcases List.mem_cons.1 hf with rfl|hf
  ·have:=af6 h.1;have:=h.2.1;have:=h.2.2.1;exact⟨⟨by omega,h.2.2.2.1⟩,by omega⟩
  ·exact Xa h.2.2.2.2.2 f hf
section
variable {a:dR}
theorem mq.jc(h:mq a):a.fs.length<=6:=by
 rw[←List.length_reverse];rcases h.top with e|⟨f,r,e,ht⟩
 ·rw[e];exact Nat.zero_le _
 ·rw[e];have hw:=h.inv.wf;rw[e] at hw;obtain⟨d,_,hd,_⟩:=Hu hw ht;rw[List.length_cons];omega
theorem mq.b6(h:mq a):a.b.length<=6:=by have h6:=h.jc;rw[←List.length_reverse] at h6;have:=h.inv.len;rcases W9 h.inv.wf with q|q<;>omega
theorem mq.qq(h:mq a)(hs:0<=a.steps/\a.steps<=1000000000000):Good a:=by have hw:=Xa h.inv.wf;exact⟨⟨h.l,h.inv.buf,by have:=h.jc;omega,h.aG,h.vars⟩,fun f hf=>(hw f<|List.mem_reverse.2 hf).1,h.jc,h.b6,hs,fun f hf=>(hw f<|List.mem_reverse.2 hf).2⟩
theorem mq.ask(h:mq a)(hs:0<=a.steps/\a.steps<=1000000000000):P9 a:=by
 refine⟨h.qq hs,?_⟩;rcases h.top with e|⟨f,r,e,ht⟩
 ·exact .inl<|List.reverse_eq_nil_iff.1 e
 ·have hw:=h.inv.wf;rw[e] at hw;obtain⟨d,s,_,q,_⟩:=Hu hw ht;exact .inr ⟨f,r,s,e,hw.2.1.1,q⟩
end
theorem O2:∀{st:List Fr} {g:Fr} {r':List Fr},wJ st->below st=some (g,r')->wJ (g::r')/\g.aU=true/\pO st=pO r'+1/\r'.length<st.length
 |[],_,_,_,h=>by cases h
 |f::r,g,r',hw,h=>by
  unfold px.below at h;by_cases c:f.aU=true
  ·rw[if_pos c] at h;injection h with h;injection h with h1 h2
   subst h1;subst h2;exact⟨hw,c,by show pO r+(if f.aU=true then 1 else 0)=_;rw[if_pos c],by rw[List.length_cons];omega⟩
  ·rw[if_neg c] at h;obtain⟨a1,a2,a3,a4⟩:=O2 hw.2.2.2.2.2 h;exact⟨a1,a2,by show pO r+(if f.aU=true then 1 else 0)=_;rw[if_neg c];exact a3,by rw[List.length_cons];omega⟩
theorem xL{a:dR}{st:List Fr}{b:bB}(hl:a.l.length=8)(hg:a.aG.length<=1000)(hv:1<=a.vars/\a.vars<=32)(hi:Inv st b)(hn:st.length<=8):∃a',fin a st b=some a'/\mq a'/\a'.steps=a.steps/\a'.vars=a.vars/\a'.aG=a.aG:=by
 have hm:=PC hi.wf;obtain⟨br,b',e,i,l⟩:=Gn 1000 st b hi ah;refine⟨{a with fs:=br.reverse,b:=b'},by unfold fin;rw[e],⟨?_,hl,?_,hg,hv⟩,rfl,rfl,rfl⟩
 ·show Inv br.reverse.reverse b';rw[List.reverse_reverse];exact i
 ·show br.reverse.reverse=[]\/∃f r,br.reverse.reverse=f::r/\_;rw[List.reverse_reverse];exact DP _ _ _ _ _ e
theorem Ju(b:bB)(v x:Int):(mH b v x).length=b.length:=by
 rcases List.eq_nil_or_concat b with rfl|⟨l,m,rfl⟩
 ·rfl
 ·rw[List.concat_eq_append,TL,List.length_append,List.length_append];rfl
section
variable {a:dR}
theorem UD(h:mq a):fU a=(1,0,0)\/(∃v,fU a=(2,v,0)/\0<=v/\v<a.vars)\/(∃x,fU a=(3,0,x))\/fU a=(4,0,0):=by
 unfold fU;rcases h.top with e|⟨f,r,e,ht⟩
 ·rw[e];exact .inr<|.inr<|.inl ⟨0,rfl⟩
 ·have hw:=h.inv.wf;rw[e] at hw ⊢;obtain⟨d,⟨kind,to,ea,eb,bd,el⟩,_,q,_⟩:=Hu hw ht;simp only[q]
  repeat' split
  ·exact .inr<|.inr<|.inl ⟨_,rfl⟩
  ·exact .inr<|.inr<|.inr rfl
  ·exact .inr<|.inl ⟨_,rfl,afS h.vars.1⟩
  ·exact .inl rfl
theorem OF(h:mq a)(hs:0<=a.steps/\a.steps<=1000000000000)(hk:fU a=(1,0,0)):OZ a/\∃a',E7 a=some a'/\mq a'/\a'.steps=a.steps+1/\a'.vars=a.vars/\a'.aG=a.aG:=by
 rcases h.top with e|⟨f,r,e,ht⟩
 ·exfalso;unfold fU at hk;rw[e] at hk;injection hk with q _;omega
 have hw:=h.inv.wf;have hlen:=h.inv.len;rw[e] at hw hlen;have h6:=h.jc;rw[←List.length_reverse,e,List.length_cons] at h6;obtain⟨d,⟨kind,to,ea,eb,bd,el⟩,hd,q,k1,k2,k3,k4⟩:=Hu hw ht;have k1:1<=kind/\kind<=8:=k1;have k2:0<=to/\to<8:=k2;have k3:oD d bd:=k3;have k4:oD d el:=k4;have jW:=hk;unfold fU at jW;rw[e] at jW;simp only[q] at jW;have n8:kind≠8:=fun c=>by rw[if_pos c] at jW;injection jW with z _;omega
 rw[if_neg n8] at jW;have n6:kind=6->below (f::r)≠none:=fun c z=>by rw[if_pos ⟨c,z⟩] at jW;injection jW with z _;omega
 have w1:wJ<|{f with au:=f.au+1}::r:=⟨hw.1,⟨by show 0<=f.au+1;have:=hw.2.1.1;omega,by show f.au+1<=(f.block.length:Int);omega⟩,hw.2.2⟩;have i1:∀b:bB,fy b->b.length=a.b.length->Inv ({f with au:=f.au+1}::r) b:=fun b hb hl=>⟨w1,by rw[hl];exact hlen,hb⟩;have Sn:6 - (r.length+1)=d:=by omega
 have push:∀(g:Fr) (b:bB),oD d g.block->g.au=0->(0<=g.turns/\g.turns<=7)->g.kept.length=8->g.aU=false->fy b->b.length=a.b.length->Inv (g::{f with au:=f.au+1}::r) b:=fun g b g1 g2 g3 g4 g5 hb hl=>⟨⟨by rw[List.length_cons,Sn];exact g1,by rw[g2];omega,g3,g4,fun c=>(by rw[g5] at c;cases c),w1⟩,by show b.length=pO ({f with au:=f.au+1}::r)+(if g.aU=true then 1 else 0)+1;rw[g5,hl];exact hlen,hb⟩;refine⟨⟨h.qq hs,hk,f,r,kind,to,ea,eb,bd,el,e,q,⟨hw.2.1.1,fun _=>k2,fun c g r' hb=>?_⟩⟩,?_⟩
 ·obtain⟨b1,b2,b3,_⟩:=O2 hw hb;obtain⟨b4,_⟩:=b1.2.2.2.2.1 b2;exact⟨b4,by omega⟩
 ·unfold E7;rw[e];simp only[q];have l8:∀(z:Int),(a.l.set to.toNat z).length=8:=fun z=>by rw[List.length_set];exact h.l
  by_cases c1:kind=1
  ·rw[if_pos c1];exact xL (a:={a with l:=a.l.set to.toNat<|gd a ea,steps:=a.steps+1}) (l8 _) h.aG h.vars (i1 _ h.inv.buf rfl) Ib
  rw[if_neg c1];by_cases c2:kind=2
  ·rw[if_pos c2];exact xL (a:={a with l:=a.l.set to.toNat (lu a.b<|iV (gd a ea) a.vars).1,steps:=a.steps+1}) (l8 _) h.aG h.vars (i1 _ h.inv.buf rfl) Ib
  rw[if_neg c2];by_cases c3:kind=3
  ·rw[if_pos c3];exact xL (a:={a with steps:=a.steps+1}) h.l h.aG h.vars (i1 _ (Oq h.inv.buf _ _)<|Ju _ _ _) Ib
  rw[if_neg c3];by_cases c4:kind=4
  ·rw[if_pos c4];exact xL (a:={a with steps:=a.steps+1}) h.l h.aG h.vars (push _ _ (by show oD d (if _ then bd else el);split;exact k3;exact k4) rfl ⟨by show(0:Int)<=0;omega,by show(0:Int)<=7;omega⟩ rfl rfl h.inv.buf rfl) Q3
  rw[if_neg c4];by_cases c5:kind=5
  ·rw[if_pos c5];by_cases z:0<mD (gd a ea)
   ·rw[if_pos z];have:=Vo<|gd a ea;exact xL (a:={a with steps:=a.steps+1}) h.l h.aG h.vars (push _ _ k3 rfl ⟨by show 0<=mD _ - 1;omega,by show mD _ - 1<=7;omega⟩ rfl rfl h.inv.buf rfl) Q3
   ·rw[if_neg z];exact xL (a:={a with steps:=a.steps+1}) h.l h.aG h.vars (i1 _ h.inv.buf rfl) Ib
  rw[if_neg c5];by_cases c6:kind=6
  ·rw[if_pos c6];cases hb:below (f::r) with
   |none=>exact absurd hb<|n6 c6
   |some p=>
    obtain⟨⟨fb,fa,ft,fo,kept,oth⟩,r'⟩:=p;obtain⟨b1,b2,b3,b4⟩:=O2 hw hb;obtain⟨b5,ol,b6,b7⟩:=b1.2.2.2.2.1 b2;have b6:oth=some ol:=b6;subst b6;have Sk:kept.length=8:=b1.2.2.2.1;refine xL (a:={a with l:=kept,steps:=a.steps+1}) Sk h.aG h.vars ⟨⟨b7,⟨by show(0:Int)<=0;omega,by show(0:Int)<=_;omega⟩,⟨by show(0:Int)<=0;omega,by show(0:Int)<=7;omega⟩,rfl,fun c=>(by cases c),b1.2.2.2.2.2⟩,?_,Pv h.inv.buf ah⟩ ?_
    ·rw[List.length_dropLast];show _=pO r'+(if false=true then 1 else 0)+1;rw[if_neg (by intro c;cases c)];omega
    ·rw[List.length_cons];rw[List.length_cons] at b4;omega
  rw[if_neg c6];by_cases c7:kind=7
  ·rw[if_pos c7];have ZX:=h.b6;refine xL (a:={a with steps:=a.steps+1}) h.l h.aG h.vars ⟨⟨by rw[List.length_cons,Sn];exact k3,⟨by show(0:Int)<=0;omega,by show(0:Int)<=_;omega⟩,⟨by show(0:Int)<=0;omega,by show(0:Int)<=7;omega⟩,h.l,fun _=>⟨(by intro c;cases c),el,rfl,by rw[List.length_cons,Sn];exact k4⟩,w1⟩,?_,Pu h.inv.buf ah⟩ Q3;rw[List.length_append];show a.b.length+1=pO ({f with au:=f.au+1}::r)+(if true=true then 1 else 0)+1;rw[if_pos rfl,hlen];rfl
  ·exact absurd k1.2 ah
theorem af7(h:mq a)(hs:0<=a.steps/\a.steps<=1000000000000){v:Int}(hk:fU a=(2,v,0))(x:Int):Qa a/\∃a',BV a x=some a'/\mq a'/\a'.steps=a.steps+1/\a'.vars=a.vars/\a'.aG=a.aG:=by
 rcases h.top with e|⟨f,r,e,ht⟩
 ·exfalso;unfold fU at hk;rw[e] at hk;injection hk with q _;omega
 have hw:=h.inv.wf;have hlen:=h.inv.len;rw[e] at hw hlen;have h6:=h.jc;rw[←List.length_reverse,e,List.length_cons] at h6;obtain⟨d,⟨kind,to,ea,eb,bd,el⟩,hd,q,k1,k2,k3,k4⟩:=Hu hw ht;have k2:0<=to/\to<8:=k2;have w1:wJ<|{f with au:=f.au+1}::r:=⟨hw.1,⟨by show 0<=f.au+1;have:=hw.2.1.1;omega,by show f.au+1<=(f.block.length:Int);omega⟩,hw.2.2⟩;refine⟨⟨h.qq hs,⟨v,hk⟩,f,r,kind,to,ea,eb,bd,el,e,hw.2.1.1,q,k2.1,k2.2⟩,?_⟩;unfold BV;rw[e];simp only[q];exact xL (a:={a with l:=a.l.set to.toNat x,steps:=a.steps+1}) (by rw[List.length_set];exact h.l) h.aG h.vars ⟨w1,hlen,h.inv.buf⟩ Ib
end
end CS
end
section
open Go Go.Rn Go.RowKit Go.Proofs
namespace HN
open cr fQ fc hI oj n7 AJ Ct yO EX fF cU dM F8 wD yv vd qV dk dB gF fT ia ig iv iF iw iG iT iU jI jO kL lv mm jV gK jr px sI qu wG uO CS Ar
variable {tx:List St}
def AP:Nat->Int->List St->Prop
 |0,_,_=>False
 |k+1,n,l=>∀s∈l,mW s n=true/\AP k n (ct s)/\AP k n (cm s)
theorem Wv{k:Nat}{n:Int}(he:∀l p,fK gz k l (.int .i64 n) (.bool false)=some p->p.ret=true->AP k n l):∀r p,kY (fK gz k) gz r (.int .i64 n) (.bool false)=some p->p.ret=true->∀s∈r,mW s n=true/\AP k n (ct s)/\AP k n (cm s)
 |[],_,_,_,s,hs=>by cases hs
 |t::r,p,h,hp,s,hs=>by
  unfold kY at h;split at h
  ·cases h
  rename_i p1 e1;obtain⟨n',⟨fC,_⟩,hq⟩:=Pr e1;injection fC with _ fC
  subst fC;cases So:mW t n with
  |false=>
   rw[So,if_neg (by intro q;cases q)] at hq;subst hq;have h:some (pN n)=some p:=h;injection h with h;subst h
   cases hp
  |true=>
   rw[So,if_pos rfl] at hq;subst hq;have h:(match fK gz k (ct t) (.int .i64 n) (.bool false) with
    |none=>none
    |some q=>match q.ret with
     |false=>some q
     |true=>match fK gz k (cm t) q.v1 q.v2 with
      |none=>none
      |some u=>match u.ret with
       |false=>some u
       |true=>kY (fK gz k) gz r u.v1 u.v2)=some p:=h
   split at h
   ·cases h
   rename_i q2 e2;rcases Bv k _ _ e2 with rfl|rfl
   ·have h:(match fK gz k (cm t) (.int .i64 n) (.bool false) with
     |none=>none
     |some u=>match u.ret with
      |false=>some u
      |true=>kY (fK gz k) gz r u.v1 u.v2)=some p:=h
    split at h
    ·cases h
    rename_i q3 e3;rcases Bv k _ _ e3 with rfl|rfl
    ·have h:kY (fK gz k) gz r (.int .i64 n) (.bool false)=some p:=h;rcases List.mem_cons.1 hs with rfl|hs
     ·exact⟨So,he _ _ e2 rfl,he _ _ e3 rfl⟩
     ·exact Wv he r p h hp s hs
    ·have h:some (pN n)=some p:=h;injection h with h;subst h;cases hp
   ·have h:some (pN n)=some p:=h;injection h with h;subst h;cases hp
theorem BH{n:Int}:∀k l p,fK gz k l (.int .i64 n) (.bool false)=some p->p.ret=true->AP k n l
 |0,_,_,h,_=>by cases h
 |k+1,l,p,h,hp=>by
  unfold fK at h;split at h
  ·exact Wv (BH k) l p h hp
  ·cases h
theorem PD(x y:Int):x<=cS x y/\y<=cS x y:=by
 unfold cS;split<;>rename_i q
 ·have:=of_decide_eq_true q;omega
 ·have:=of_decide_eq_false q;omega
theorem QD{k:Nat}:∀(l:List St) (m:Int),m<=l.foldl (fun m s=>jw (ct s).length (cm s).length m (fw k<|ct s)<|fw k<|cm s) m/\∀s∈l,(ct s≠[]->fw k (ct s)<=l.foldl (fun m s=>jw (ct s).length (cm s).length m (fw k<|ct s)<|fw k<|cm s) m)/\(cm s≠[]->fw k (cm s)<=l.foldl (fun m s=>jw (ct s).length (cm s).length m (fw k<|ct s)<|fw k<|cm s) m)
 |[],m=>⟨Int.le_refl _,fun s h=>by cases h⟩
 |t::l,m=>by
  have one:m<=jw (ct t).length (cm t).length m (fw k<|ct t) (fw k<|cm t)/\(ct t≠[]->fw k (ct t)<=jw (ct t).length (cm t).length m (fw k<|ct t) (fw k<|cm t))/\(cm t≠[]->fw k (cm t)<=jw (ct t).length (cm t).length m (fw k<|ct t) (fw k<|cm t)):=by
   have g1:=PD m<|fw k<|ct t;have g2:=PD (cS m<|fw k<|ct t)<|fw k<|cm t;have g3:=PD m<|fw k<|cm t;unfold jw;by_cases c1:0<(cm t).length<;>by_cases c2:0<(ct t).length
   ·rw[if_pos c1,if_pos c2];exact⟨by omega,fun _=>by omega,fun _=>by omega⟩
   ·rw[if_pos c1,if_neg c2];exact⟨by omega,fun q=>absurd (List.length_pos_iff.2 q) c2,fun _=>by omega⟩
   ·rw[if_neg c1,if_pos c2];exact⟨by omega,fun _=>by omega,fun q=>absurd (List.length_pos_iff.2 q) c1⟩
   ·rw[if_neg c1,if_neg c2];exact⟨Int.le_refl _,fun q=>absurd (List.length_pos_iff.2 q) c2,fun q=>absurd (List.length_pos_iff.2 q) c1⟩
  obtain⟨a1,a2⟩:=QD (k:=k) l<|jw (ct t).length (cm t).length m (fw k<|ct t)<|fw k<|cm t;rw[List.foldl_cons];refine⟨Int.le_trans one.1 a1,fun s hs=>?_⟩;rcases List.mem_cons.1 hs with rfl|hs
  ·exact⟨fun q=>Int.le_trans (one.2.1 q) a1,fun q=>Int.le_trans (one.2.2 q) a1⟩
  ·exact a2 s hs
theorem abd{s:St}{n:Int}(h:mW s n=true)(hk:0<=iR s):(1<=iR s/\iR s<=8)/\(0<=Fb s/\Fb s<8):=by
 obtain⟨kind,to,a,b,bd,el⟩:=s;have h:Bb (qD kind) to a b bd el n=true:=h;have hk:0<=kind:=hk;show(1<=kind/\kind<=8)/\(0<=to/\to<8);have IU:∀l,Bb l to a b bd el n=true->0<=to/\to<8:=fun l h=>by
  unfold Bb at h;split at h
  ·obtain⟨_,h⟩:=and_true.1 h;obtain⟨h,_⟩:=and_true.1 h;exact of_decide_eq_true h
  ·cases h
 refine⟨?_,IU _ h⟩;by_cases c:kind<=8
 ·refine⟨?_,c⟩;by_cases c0:kind=0
  ·subst c0;exfalso;have e:qD 0=[false,false,false,false,false,false]:=rfl;rw[e] at h;cases h
  ·omega
 ·exfalso;have e:qD kind=[false,false,false,false,false,false]:=by unfold qD;rw[List.getD_eq_getElem?_getD,List.getElem?_eq_none (show MF.length<=kind.toNat by show 9<=kind.toNat;omega)];rfl
  rw[e] at h;cases h
def Im:Nat->List St->Prop
 |0,_=>True
 |k+1,l=>∀s∈l,0<=iR s/\Im k (ct s)/\Im k (cm s)
theorem QE{n:Int}:∀(d k:Nat) (l:List St),lq k l=true->AP k n l->Im k l->fw k l<=d->oD d l
 |_,0,_,h,_,_,_=>by cases h
 |0,k+1,l,_,_,_,h=>by have h:l.foldl _ 0+1<=(0:Int):=h;have:=(QD (k:=k) l 0).1;omega
 |d+1,k+1,l,hc,ha,hp,h=>by
  have h:l.foldl (fun m s=>jw (ct s).length (cm s).length m (fw k<|ct s)<|fw k<|cm s) 0+1<=((d+1:Nat):Int):=h;obtain⟨c1,c2⟩:=and_true.1 (show(decide (l.length<=1000000)&&l.all fun s=>lq k (ct s)&&lq k (cm s))=true from hc);refine⟨of_decide_eq_true c1,fun s hs=>?_⟩;obtain⟨a1,a2,a3⟩:=ha s hs;obtain⟨p1,p2,p3⟩:=hp s hs;obtain⟨e1,e2⟩:=and_true.1<|List.all_eq_true.1 c2 s hs;obtain⟨g1,g2⟩:=(QD (k:=k) l 0).2 s hs;obtain⟨q1,q2⟩:=abd a1 p1;refine⟨q1,q2,?_,?_⟩
  ·by_cases z:ct s=[]
   ·rw[z];exact Wu d
   ·have:=g1 z;exact QE d k _ e1 a2 p2 ah
  ·by_cases z:cm s=[]
   ·rw[z];exact Wu d
   ·have:=g2 z;exact QE d k _ e2 a3 p3 ah
theorem ahG{n:Int}(h:AK tx n true)(hc:lq 60 tx=true)(hp:Im 60 tx):oD 6 tx:=by obtain⟨c1,c2,p,_,e,hb⟩:=h;obtain⟨h1,h2⟩:=and_true.1 hb.symm;obtain⟨h2,_⟩:=and_true.1 h2;have h1:=of_decide_eq_true h1;exact QE 6 60 tx hc (BH 60 tx p e h2) hp h1.2.2.1
theorem af8{vars:Int}{aG:List Int}(h:oD 6 tx)(hg:aG.length<=1000)(hv:1<=vars/\vars<=32):∃st bb,lZ 1000 [Cw tx] [[]]=some (st,bb)/\mq ⟨vars,aG,Z8,bb,st.reverse,0⟩:=by
 have hi:Inv [Cw tx] [[]]:=⟨⟨h,⟨by show(0:Int)<=0;omega,by show(0:Int)<=_;omega⟩,⟨by show(0:Int)<=0;omega,by show(0:Int)<=7;omega⟩,rfl,fun c=>(by cases c),trivial⟩,rfl,PY⟩;obtain⟨br,b',e,i,_⟩:=Gn 1000 _ _ hi (by have:=PC hi.wf;have l1:[Cw tx].length=1:=rfl;omega);refine⟨br,b',e,?_,rfl,?_,hg,hv⟩
 ·show Inv br.reverse.reverse b';rw[List.reverse_reverse];exact i
 ·show br.reverse.reverse=[]\/∃f r,br.reverse.reverse=f::r/\_;rw[List.reverse_reverse];exact DP _ _ _ _ _ e
end HN
end
section
open Go Go.Rn Go.RowKit Go.Proofs
namespace CT
open cr cU dk dB fc gK jr dM vd oj n7 uK qV
variable {k N L N0 L0:Nat} {dp i bW n0 c:Int} {B:aI}
noncomputable section
def sK(f:Ex->Int×Bool):List Ex->Int->Int×Bool
 |[],m=>(m,false)
 |a::r,m=>if(f a).2=true then(0,true) else if m+(f a).1>1000 then(0,true) else sK f r (m+(f a).1)
def dU:Nat->Ex->Int×Bool
 |0,_=>(0,true)
 |k+1,.mk _ _ args=>if k=0\/args.length>10 then(0,true) else sK (dU k) args 1
def p9(k:Nat)(args:List AV)(v:AV):Prop:=∃e:Ex,args=[.agg<|aM e,.int .i64<|22 - (k:Int)]/\(1<=k/\k<=22)/\v= .tuple [.int .i64 (dU k e).1,.bool (dU k e).2]
theorem p9.bS(args:List AV)(v v':AV)(h:p9 k args v)(h':p9 k args v'):v=v':=by obtain⟨e,rfl,_,rfl⟩:=h;obtain⟨e',h1,_,rfl⟩:=h';simp only[List.cons.injEq,AV.agg.injEq,_root_.and_true] at h1;rw[nU _ _ h1]
def o7(k:Nat):FuncId×KE:=(37,.val<|aY<|p9 k)
def km(f:List St->Int×Bool):List St->Int->Int×Bool
  |[],m=>(m,false)
  | s::r,m=>if(dU 22<|iC s).2=true\/(dU 22<|ib s).2=true\/(f<|ct s).2=true\/(f<|cm s).2=true then(0,true)
    else if m+1+(dU 22<|iC s).1+(dU 22<|ib s).1+(f<|ct s).1+(f<|cm s).1>3000 then(0,true)
    else km f r (m+1+(dU 22<|iC s).1+(dU 22<|ib s).1+(f<|ct s).1+(f<|cm s).1)
def de:Nat->List St->Int×Bool
 |0,_=>(0,true)
 |k+1,l=>if k=0\/l.length>500 then(0,true) else km (de k) l 0
def nE(k:Nat)(args:List AV)(v:AV):Prop:=∃l:List St,args=[.ab (nm<|bD l) 0 l.length,.int .i64<|22 - (k:Int)]/\(1<=k/\k<=22)/\v= .tuple [.int .i64 (de k l).1,.bool (de k l).2]
theorem nE.bS(args:List AV)(v v':AV)(h:nE k args v)(h':nE k args v'):v=v':=by obtain⟨e,rfl,_,rfl⟩:=h;obtain⟨e',h1,_,rfl⟩:=h';simp only[List.cons.injEq,AV.ab.injEq,true_and,_root_.and_true] at h1;rw[tL _ _<|ud (lW _) (lW _) h1.1]
def wq(k:Nat):FuncId×KE:=(16,.val<|aY<|nE k)
def FB(dp m i:Int):List<|Nat×AV:=[(1,(i6 dp)),(2,(.ptr<|some (270,0))),(6,(i6 m)),(7,(i6 i))]
def sL(dp m i:Int):AF:=⟨37,aP<|FB dp m i,(max Tryz.f37.ntmps 2),[.code<|aW pg 37 [1,1,1,0,1,0,0],.inLoop<|aW pg 37 [1,1,1,0,1,0,0],.inBlock 0,.code<|aW pg 37 [1,1,1,1]],[],none⟩
def nR(op n:Int)(N L:Nat):List<|Nat×Option ae:=(aq++[(270,some<|.cells 3 (Tr.fill [(u8<|op),(i6 n),(.ab N 0 L)] 0 .nil) [])])
theorem akL(dp m i op n:Int)(N L:Nat):((FB dp m i).map (fun q=>some q.2)=(FB dp m i).map (fun q=>some q.2))/\((nR op n N L).map (fun q=>q.2)=(nR op n N L).map (fun q=>q.2))/\(sL dp m i=sL dp m i/\aj (nR op n N L) 271=aj (nR op n N L) 271):=⟨rfl,rfl,rfl,rfl⟩
theorem sdT{op n m:Int}{v:AV}(mc:Mt [o7 k] B)(hn:top<=N)(hi:0<=i)(hL:L<=10)(hm:0<=m/\m<=1000)(jt:0<=c/\c<=1000)(hd:0<=dp/\dp<=20)(hx:cx FU N (0+i.toNat*3+0) 3=some [(u8<|bW),(i6 n0),(.ab N0 0 L0)])(h1:i<(L:Int))(hc:bp (aY<|p9 k) [(.agg [(u8<|bW),(i6 n0),(.ab N0 0 L0)]),.int .i64<|dp+1]=some (.tuple [.int .i64 c,.bool true]))(hv:(.tuple [.int .i64 0,.bool true])=v):av pg B 270 (Fin pg (aA Tryz.f37) fun y _=>y=v) (sL dp m i)<|aj (nR op n N L) 271:=wS mc (.st 2<|.rg<|.go 4<|.fk (.en<|.st 5<|.rg<|.go 3<|.eG<|.eH [(u8<|bW),(i6 n0),(.ab N0 0 L0)]<|.go 1<|.vl (i6<|dp+1)<|.kn (.tuple [(i6 c),(.bool true)])<|.go 5<|.en<|.st 1<|.rg<|.go 2<|.vl (i6<|m+c)<|.go 1<|.en<|.rt 6 .no)<|.no)<|ax (i<(L:Int)) (fun _=>(eZ i (L:Int)<|ai hn<|ai hx<|ai (wI<|dp+1)<|ai hc<|ai (wI<|m+c) (show(.tuple [i0,(.bool true)])=v from hv))) eN
theorem sdF{op n m:Int}{v:AV}(mc:Mt [o7 k] B)(hn:top<=N)(hi:0<=i)(hL:L<=10)(hm:0<=m/\m<=1000)(jt:0<=c/\c<=1000)(hd:0<=dp/\dp<=20)(hx:cx FU N (0+i.toNat*3+0) 3=some [(u8<|bW),(i6 n0),(.ab N0 0 L0)])(h1:i<(L:Int))(hc:bp (aY<|p9 k) [(.agg [(u8<|bW),(i6 n0),(.ab N0 0 L0)]),.int .i64<|dp+1]=some (.tuple [.int .i64 c,.bool false]))(hv:m+c>1000->(.tuple [.int .i64 0,.bool true])=v)(H:¬((m+c)>(1000:Int))->av pg B 270 (Fin pg (aA Tryz.f37) fun y _=>y=v) (sL dp (m+c)<|i+1) (aj (nR op n N L) 271)):av pg B 270 (Fin pg (aA Tryz.f37) fun y _=>y=v) (sL dp m i)<|aj (nR op n N L) 271:=wC mc (C:=(fun fr s1 _=>fr=sL dp (m+c) (i+1)/\s1=aj (nR op n N L) 271/\¬((m+c)>(1000:Int)))) (fun fr s1 p hC=>by obtain⟨rfl,rfl,hq⟩:=hC;exact H hq) (.st 2<|.rg<|.go 4<|.fk (.en<|.st 5<|.rg<|.go 3<|.eG<|.eH [(u8<|bW),(i6 n0),(.ab N0 0 L0)]<|.go 1<|.vl (i6<|dp+1)<|.kn (.tuple [(i6 c),(.bool false)])<|.go 5<|.en<|.st 1<|.rg<|.go 2<|.vl (i6<|m+c)<|.go 1<|.en<|.st 1<|.rg<|.go 3<|.fk (.go 1<|.en<|.rt 4 .no)<|.go 1<|.en<|.st 3<|.rg<|.go 1<|.vl (i6<|i+1)<|.go 1<|.en<|.st 1<|.ls (FB dp (m+c)<|i+1) (nR op n N L) 271 .no)<|.no)<|ax (i<(L:Int)) (fun _=>(eZ i (L:Int)<|ai hn<|ai hx<|ai (wI<|dp+1)<|ai hc<|ai (wI<|m+c)<|ax ((m+c)>1000) (fun _=>(show(.tuple [i0,(.bool true)])=v from hv ah)) fun _=>(ai (wI<|i+1)<|ai (mS<|FB dp (m+c)<|i+1)<|ai (mO<|nR op n N L) (show(sL dp (m+c)<|i+1)=(sL dp (m+c)<|i+1)/\(aj (nR op n N L) 271)=(aj (nR op n N L) 271)/\¬((m+c)>(1000:Int)) from⟨rfl,rfl,by omega⟩)))) eN
theorem sdE{op n m:Int}{v:AV}(mc:Mt [o7 k] B)(h1:(L:Int)<=i)(hv:(.tuple [.int .i64 m,.bool false])=v):av pg B 270 (Fin pg (aA Tryz.f37) fun y _=>y=v) (sL dp m i)<|aj (nR op n N L) 271:=wS mc (.st 2<|.rg<|.go 4<|.fk (.no)<|.en<|.rt 5 .no) Yr
theorem sdG{op n:Int}{v:AV}(mc:Mt [o7 k] B)(hd:dp<=20)(hL:L<=10)(H:av pg B 270 (Fin pg (aA Tryz.f37) fun y _=>y=v) (sL dp 1 0)<|aj (nR op n N L) 271):av pg B 270 (Fin pg (aA Tryz.f37) fun y _=>y=v) (sF 37 Tryz.f37 [(.agg [(u8<|op),(i6 n),(.ab N 0 L)]),(i6 dp)])<|aj aq 270:=wC mc (C:=(fun fr s1 _=>fr=sL dp 1 0/\s1=aj (nR op n N L) 271)) nN (.st 4<|.rg<|.go 1<|.fk (.no)<|.go 4<|.fk (.no)<|.go 1<|.en<|.st 9<|.ls (FB dp 1 0) (nR op n N L) 271 .no)<|ax (dp>20) eN fun _=>(ax ((L:Int)>10) eN fun _=>(akL dp 1 0 op n N L))
theorem sdB{op n:Int}{v:AV}(mc:Mt [o7 k] B)(hd:dp>20\/(L:Int)>10)(hv:(.tuple [.int .i64 0,.bool true])=v):av pg B 270 (Fin pg (aA Tryz.f37) fun y _=>y=v) (sF 37 Tryz.f37 [(.agg [(u8<|op),(i6 n),(.ab N 0 L)]),(i6 dp)])<|aj aq 270:=wS mc (.st 4<|.rg<|.go 1<|.fk (.go 6<|.en<|.rt 4 .no)<|.go 4<|.fk (.go 1<|.en<|.rt 4 .no)<|.no)<|ax (dp>20) (fun _=>(show(.tuple [i0,(.bool true)])=v from hv)) fun _=>(ax ((L:Int)>10) (fun _=>(show(.tuple [i0,(.bool true)])=v from hv)) eN)
def FC(N L:Nat)(dp m i:Int):List<|Nat×AV:=[(0,(.ab N 0 L)),(1,(i6 dp)),(6,(i6 m)),(7,(i6 i))]
def sM(N L:Nat)(dp m i:Int):AF:=⟨16,aP<|FC N L dp m i,(max Tryz.f16.ntmps 2),[.code<|aW pg 16 [1,1,1,0,1,0,0],.inLoop<|aW pg 16 [1,1,1,0,1,0,0],.inBlock 0,.code<|aW pg 16 [1,1,1,1]],[],none⟩
theorem akM(N L:Nat)(dp m i:Int):((FC N L dp m i).map (fun q=>some q.2)=(FC N L dp m i).map (fun q=>some q.2))/\(aq.map (fun q=>q.2)=aq.map (fun q=>q.2))/\(sM N L dp m i=sM N L dp m i/\aj aq 270=aj aq 270):=⟨rfl,rfl,rfl,rfl⟩
theorem MW{B:aI}{k N L Na La Nb Lb Nd Ld Ne Le:Nat}{jM na jN nb dp m i a b c d:Int}{x y z w:Bool}{v:AV}(hk:x=true\/(x=false/\y=true)\/(x=false/\y=false/\z=true)\/(x=false/\y=false/\z=false/\w=true))(mc:Mt [o7 22,wq k] B)(hn:top<=N)(hi:0<=i)(hL:L<=500)(hm:0<=m/\m<=3000)(hb:(0<=a/\a<=1000)/\(0<=b/\b<=1000)/\(0<=c/\c<=3000)/\(0<=d/\d<=3000))(hd:0<=dp/\dp<=20)(Sq:cx FU N (0+i.toNat*10+2) 3=some [(u8<|jM),(i6 na),(.ab Na 0 La)])(Sr:cx FU N (0+i.toNat*10+5) 3=some [(u8<|jN),(i6 nb),(.ab Nb 0 Lb)])(Ss:cx FU N (0+i.toNat*10+8) 1=some [.ab Nd 0 Ld])(Su:cx FU N (0+i.toNat*10+9) 1=some [.ab Ne 0 Le])(h1:i<(L:Int))(ha:bp (aY<|p9 22) [(.agg [(u8<|jM),(i6 na),(.ab Na 0 La)]),.int .i64 0]=some (.tuple [.int .i64 a,.bool x]))(Sv:bp (aY<|p9 22) [(.agg [(u8<|jN),(i6 nb),(.ab Nb 0 Lb)]),.int .i64 0]=some (.tuple [.int .i64 b,.bool y]))(Sw:bp (aY<|nE k) [.ab Nd 0 Ld,.int .i64<|dp+1]=some (.tuple [.int .i64 c,.bool z]))(Sx:bp (aY<|nE k) [.ab Ne 0 Le,.int .i64<|dp+1]=some (.tuple [.int .i64 d,.bool w]))(hv:(.tuple [.int .i64 0,.bool true])=v):av pg B 270 (Fin pg (aA Tryz.f16) fun y _=>y=v) (sM N L dp m i)<|aj aq 270:=by
 have TT:=(ax (i<(L:Int)) (fun _=>(eZ i (L:Int)<|ai hn<|ai Sq<|ai ha<|eZ i (L:Int)<|ai hn<|ai Sr<|ai Sv<|eZ i (L:Int)<|ai hn<|ai Ss<|ai (wI<|dp+1)<|ai Sw<|eZ i (L:Int)<|ai hn<|ai Su<|ai (wI<|dp+1)<|ai Sx<|ai (wI<|m+1)<|ai (wI<|(m+1)+a)<|ai (wI<|((m+1)+a)+b)<|ai (wI<|(((m+1)+a)+b)+c)<|ai (wI<|((((m+1)+a)+b)+c)+d) (show(.tuple [i0,(.bool true)])=v from hv))) fun _=>(oF ah));let P:Pl:=(.st 2<|.rg<|.go 3<|.fk (.en<|.st 5<|.rg<|.go 2<|.eG<|.go 1<|.eH [(u8<|jM),(i6 na),(.ab Na 0 La)]<|.kn (.tuple [(i6 a),(.bool x)])<|.go 5<|.en<|.st 1<|.rg<|.go 2<|.eG<|.go 1<|.eH [(u8<|jN),(i6 nb),(.ab Nb 0 Lb)]<|.kn (.tuple [(i6 b),(.bool y)])<|.go 5<|.en<|.st 1<|.rg<|.go 2<|.eG<|.go 1<|.eH [(.ab Nd 0 Ld)]<|.go 1<|.vl (i6<|dp+1)<|.kn (.tuple [(i6 c),(.bool z)])<|.go 5<|.en<|.st 1<|.rg<|.go 2<|.eG<|.go 1<|.eH [(.ab Ne 0 Le)]<|.go 1<|.vl (i6<|dp+1)<|.kn (.tuple [(i6 d),(.bool w)])<|.go 5<|.en<|.st 1<|.rg<|.go 1<|.vl (i6<|m+1)<|.go 1<|.vl (i6<|(m+1)+a)<|.go 1<|.vl (i6<|((m+1)+a)+b)<|.go 1<|.vl (i6<|(((m+1)+a)+b)+c)<|.go 1<|.vl (i6<|((((m+1)+a)+b)+c)+d)<|.go 1<|.en<|.rt 6 .no)<|.no);rcases hk with rfl|⟨rfl,rfl⟩|⟨rfl,rfl,rfl⟩|⟨rfl,rfl,rfl,rfl⟩
 all_goals exact l9 (E:=en [o7 22,wq k]) eJ rfl bU mc.2.2.1 mc.2.2.2 900 P TT uF
theorem muN{B:aI}{k N L Na La Nb Lb Nd Ld Ne Le:Nat}{jM na jN nb dp m i a b c d:Int}{x y z w:Bool}{v:AV}(mc:Mt [o7 22,wq k] B)(hn:top<=N)(hi:0<=i)(hL:L<=500)(hm:0<=m/\m<=3000)(hb:(0<=a/\a<=1000)/\(0<=b/\b<=1000)/\(0<=c/\c<=3000)/\(0<=d/\d<=3000))(hd:0<=dp/\dp<=20)(Sq:cx FU N (0+i.toNat*10+2) 3=some [(u8<|jM),(i6 na),(.ab Na 0 La)])(Sr:cx FU N (0+i.toNat*10+5) 3=some [(u8<|jN),(i6 nb),(.ab Nb 0 Lb)])(Ss:cx FU N (0+i.toNat*10+8) 1=some [.ab Nd 0 Ld])(Su:cx FU N (0+i.toNat*10+9) 1=some [.ab Ne 0 Le])(h1:i<(L:Int))(ha:bp (aY<|p9 22) [(.agg [(u8<|jM),(i6 na),(.ab Na 0 La)]),.int .i64 0]=some (.tuple [.int .i64 a,.bool false]))(Sv:bp (aY<|p9 22) [(.agg [(u8<|jN),(i6 nb),(.ab Nb 0 Lb)]),.int .i64 0]=some (.tuple [.int .i64 b,.bool false]))(Sw:bp (aY<|nE k) [.ab Nd 0 Ld,.int .i64<|dp+1]=some (.tuple [.int .i64 c,.bool false]))(Sx:bp (aY<|nE k) [.ab Ne 0 Le,.int .i64<|dp+1]=some (.tuple [.int .i64 d,.bool false]))(hv:(((((m+1)+a)+b)+c)+d)>3000->(.tuple [.int .i64 0,.bool true])=v)(H:¬((((((m+1)+a)+b)+c)+d)>(3000:Int))->av pg B 270 (Fin pg (aA Tryz.f16) fun y _=>y=v) (sM N L dp (((((m+1)+a)+b)+c)+d)<|i+1) (aj aq 270)):av pg B 270 (Fin pg (aA Tryz.f16) fun y _=>y=v) (sM N L dp m i)<|aj aq 270:=wC mc (C:=(fun fr s1 _=>fr=sM N L dp (((((m+1)+a)+b)+c)+d) (i+1)/\s1=aj aq 270/\¬((((((m+1)+a)+b)+c)+d)>(3000:Int)))) (fun fr s1 p hC=>by obtain⟨rfl,rfl,hq⟩:=hC;exact H hq) (.st 2<|.rg<|.go 3<|.fk (.en<|.st 5<|.rg<|.go 2<|.eG<|.go 1<|.eH [(u8<|jM),(i6 na),(.ab Na 0 La)]<|.kn (.tuple [(i6 a),(.bool false)])<|.go 5<|.en<|.st 1<|.rg<|.go 2<|.eG<|.go 1<|.eH [(u8<|jN),(i6 nb),(.ab Nb 0 Lb)]<|.kn (.tuple [(i6 b),(.bool false)])<|.go 5<|.en<|.st 1<|.rg<|.go 2<|.eG<|.go 1<|.eH [(.ab Nd 0 Ld)]<|.go 1<|.vl (i6<|dp+1)<|.kn (.tuple [(i6 c),(.bool false)])<|.go 5<|.en<|.st 1<|.rg<|.go 2<|.eG<|.go 1<|.eH [(.ab Ne 0 Le)]<|.go 1<|.vl (i6<|dp+1)<|.kn (.tuple [(i6 d),(.bool false)])<|.go 5<|.en<|.st 1<|.rg<|.go 1<|.vl (i6<|m+1)<|.go 1<|.vl (i6<|(m+1)+a)<|.go 1<|.vl (i6<|((m+1)+a)+b)<|.go 1<|.vl (i6<|(((m+1)+a)+b)+c)<|.go 1<|.vl (i6<|((((m+1)+a)+b)+c)+d)<|.go 1<|.en<|.st 1<|.rg<|.go 12<|.fk (.go 1<|.en<|.rt 4 .no)<|.go 1<|.en<|.st 3<|.rg<|.go 1<|.vl (i6<|i+1)<|.go 1<|.en<|.st 1<|.ls (FC N L dp (((((m+1)+a)+b)+c)+d)<|i+1) aq 270 .no)<|.no)<|ax (i<(L:Int)) (fun _=>(eZ i (L:Int)<|ai hn<|ai Sq<|ai ha<|eZ i (L:Int)<|ai hn<|ai Sr<|ai Sv<|eZ i (L:Int)<|ai hn<|ai Ss<|ai (wI<|dp+1)<|ai Sw<|eZ i (L:Int)<|ai hn<|ai Su<|ai (wI<|dp+1)<|ai Sx<|ai (wI<|m+1)<|ai (wI<|(m+1)+a)<|ai (wI<|((m+1)+a)+b)<|ai (wI<|(((m+1)+a)+b)+c)<|ai (wI<|((((m+1)+a)+b)+c)+d)<|ax ((((((m+1)+a)+b)+c)+d)>3000) (fun _=>(show(.tuple [i0,(.bool true)])=v from hv ah)) fun _=>(ai (wI<|i+1)<|ai (mS<|FC N L dp (((((m+1)+a)+b)+c)+d)<|i+1)<|ai (mO aq) (show(sM N L dp (((((m+1)+a)+b)+c)+d)<|i+1)=(sM N L dp (((((m+1)+a)+b)+c)+d)<|i+1)/\(aj aq 270)=(aj aq 270)/\¬((((((m+1)+a)+b)+c)+d)>(3000:Int)) from⟨rfl,rfl,by omega⟩)))) eN
theorem muE{m:Int}{v:AV}(mc:Mt [o7 22,wq k] B)(h1:(L:Int)<=i)(hv:(.tuple [.int .i64 m,.bool false])=v):av pg B 270 (Fin pg (aA Tryz.f16) fun y _=>y=v) (sM N L dp m i)<|aj aq 270:=wS mc (.st 2<|.rg<|.go 3<|.fk (.no)<|.en<|.rt 5 .no) Yr
theorem muG{v:AV}(mc:Mt [o7 22,wq k] B)(hd:dp<=20)(hL:L<=500)(H:av pg B 270 (Fin pg (aA Tryz.f16) fun y _=>y=v) (sM N L dp 0 0)<|aj aq 270):av pg B 270 (Fin pg (aA Tryz.f16) fun y _=>y=v) (sF 16 Tryz.f16 [(.ab N 0 L),(i6 dp)])<|aj aq 270:=wC mc (C:=(fun fr s1 _=>fr=sM N L dp 0 0/\s1=aj aq 270)) nN (.st 4<|.rg<|.go 1<|.fk (.no)<|.go 3<|.fk (.no)<|.go 1<|.en<|.st 9<|.ls (FC N L dp 0 0) aq 270 .no)<|ax (dp>20) eN fun _=>(ax ((L:Int)>500) eN fun _=>(akM N L dp 0 0))
theorem muB{v:AV}(mc:Mt [o7 22,wq k] B)(hd:dp>20\/(L:Int)>500)(hv:(.tuple [.int .i64 0,.bool true])=v):av pg B 270 (Fin pg (aA Tryz.f16) fun y _=>y=v) (sF 16 Tryz.f16 [(.ab N 0 L),(i6 dp)])<|aj aq 270:=wS mc (.st 4<|.rg<|.go 1<|.fk (.go 5<|.en<|.rt 4 .no)<|.go 3<|.fk (.go 1<|.en<|.rt 4 .no)<|.no)<|ax (dp>20) (fun _=>(show(.tuple [i0,(.bool true)])=v from hv)) fun _=>(ax ((L:Int)>500) (fun _=>(show(.tuple [i0,(.bool true)])=v from hv)) eN)
end
end CT
end
section
open Go Go.Rn Go.RowKit Go.Proofs
namespace Fc
open cr cU dk dB fc gK AI jr dM vd oj n7 uK qV CT
variable {k i:Nat} {L:bV}
theorem Ww{f:Ex->Int×Bool}(hf:∀e,0<=(f e).1/\(f e).1<=1000):∀(l:List Ex) (m:Int),0<=m/\m<=1000->0<=(sK f l m).1/\(sK f l m).1<=1000
 |[],m,h=>h
 |a::r,m,h=>by
  unfold sK;have:=hf a;split
  ·show(0:Int)<=0/\(0:Int)<=1000;omega
  ·split
   ·show(0:Int)<=0/\(0:Int)<=1000;omega
   ·exact Ww hf r _ ah
theorem vB:∀(k:Nat) (e:Ex),0<=(dU k e).1/\(dU k e).1<=1000
 |0,_=>by show(0:Int)<=0/\(0:Int)<=1000;omega
 |k+1,.mk _ _ args=>by
  unfold dU;split
  ·show(0:Int)<=0/\(0:Int)<=1000;omega
  ·exact Ww (vB k) args 1 ah
theorem Wx{α:Type}{l r:List α}{a:α}(hr:l.drop i=a::r):i<l.length/\l[i]? =some a/\a∈l/\l.drop (i+1)=r:=by
 have ha:l[i]? =some a:=by have:=congrArg (fun q=>q[0]?) hr;simp only[List.getElem?_drop,List.getElem?_cons_zero,Nat.add_zero] at this;exact this
 refine⟨(List.getElem?_eq_some_iff.1 ha).1,ha,List.mem_of_getElem? ha,?_⟩;have:=congrArg (List.drop 1) hr;rw[List.drop_drop] at this;exact this
theorem ab3(hP:bC pg)(h':aV [o7 k])(h:aV L):aV<|o7 (k+1)::L:=by
 refine g9 hP h h' Tryz.func37 fun args v e=>?_;obtain⟨⟨op,n,l⟩,rfl,hk,rfl⟩:=gf e;refine⟨aL.1 aZ,fun B mc=>?_⟩;rw[←gN,aM];have ed:(22:Int) - ((k+1:Nat):Int)=21 - (k:Int):=by omega
 rw[ed];unfold dU;by_cases c:k=0\/l.length>10
 ·rw[if_pos c];exact sdB mc ah rfl
 ·rw[if_neg c];have Zf:k≠0:=fun q=>c<|.inl q;have hl:l.length<=10:=by
   by_cases q:l.length<=10
   ·exact q
   ·exact absurd (.inr ah) c
  have key:∀(r:List Ex) (i:Nat) (m:Int),l.drop i=r->0<=m/\m<=1000->
   av pg B 270 (Fin pg (aA Tryz.f37) fun y _=>y= .tuple [.int .i64 (sK (dU k) r m).1,.bool (sK (dU k) r m).2]) (sL (21 - (k:Int)) m i) (aj (nR op n (nm<|dz l) l.length) 271):=by
   intro r;induction r with
   |nil=>intro i m hr hm;have hi:l.length<=i:=List.drop_eq_nil_iff.1 hr;exact sdE mc ah rfl
   |cons a r ih=>
    intro i m hr hm;obtain⟨hi,ha,rk,lT⟩:=Wx hr;obtain⟨bW,n0,l0⟩:=a;have hx:=zQ ha (z:=(i:Int)) ah;have iz:=vB k<|.mk bW n0 l0;have bJ:bp (aY<|p9 k) [.agg<|aM<|.mk bW n0 l0,.int .i64<|21 - (k:Int)+1]=some (.tuple [.int .i64 (dU k<|.mk bW n0 l0).1,.bool (dU k<|.mk bW n0 l0).2]):=fu (ff p9.bS ⟨.mk bW n0 l0,by rw[show(21:Int) - (k:Int)+1=22 - (k:Int) by omega],by omega,rfl⟩) sB rfl;rw[aM] at hx bJ;unfold sK;cases hb:(dU k<|.mk bW n0 l0).2 with
    |true=>rw[hb] at bJ;rw[if_pos rfl];exact sdT mc (cV _) ah hl hm iz ah hx ah bJ rfl
    |false=>
     rw[hb] at bJ;rw[if_neg (by intro q;cases q)];refine sdF mc (cV _) ah hl hm iz ah hx ah bJ (fun q=>?_) fun q=>?_
     ·rw[if_pos q]
     ·rw[if_neg q];exact ih (i+1) _ lT ah
  exact sdG mc ah hl<|key l 0 1 (by rw[List.drop_zero]) ah
theorem UE(hP:bC pg):∀(k:Nat) {L:bV},aV L->aV (o7 k::L)
 |0,L,h=>by refine g9 hP h cN Tryz.func37 fun args v e=>?_;obtain⟨_,_,hk,_⟩:=gf e;omega
 |k+1,L,h=>ab3 hP (UE hP k cN) h
theorem Wy{f:List St->Int×Bool}(hf:∀l,0<=(f l).1/\(f l).1<=3000):∀(l:List St) (m:Int),0<=m/\m<=3000->0<=(km f l m).1/\(km f l m).1<=3000
 |[],m,h=>h
 |s::r,m,h=>by
  unfold km;have h1:=vB 22<|iC s;have h2:=vB 22<|ib s;have h3:=hf<|ct s;have h4:=hf<|cm s;split
  ·show(0:Int)<=0/\(0:Int)<=3000;omega
  ·split
   ·show(0:Int)<=0/\(0:Int)<=3000;omega
   ·exact Wy hf r _ ah
theorem xV:∀(k:Nat) (l:List St),0<=(de k l).1/\(de k l).1<=3000
 |0,_=>by show(0:Int)<=0/\(0:Int)<=3000;omega
 |k+1,l=>by
  unfold de;split
  ·show(0:Int)<=0/\(0:Int)<=3000;omega
  ·exact Wy (xV k) l 0 ah
theorem Kq{l:List St}{s:St}(h:l[i]? =some s){z:Int}(hz:z.toNat=i)(j k:Nat)(hk:j+k<=10):cx FU (nm<|bD l) (0+z.toNat*10+j) k=some (((ba s).drop j).take k):=by rw[vy,hz,Nat.zero_add,yc lF h j k hk]
theorem ac8(hP:bC pg)(h':aV [o7 22,wq k])(h:aV L):aV<|wq (k+1)::L:=by
 refine g9 hP h h' Tryz.func16 fun args v e=>?_;obtain⟨l,rfl,hk,rfl⟩:=gf e;refine⟨aL.1 aZ,fun B mc=>?_⟩;rw[←gN];have ed:(22:Int) - ((k+1:Nat):Int)=21 - (k:Int):=by omega
 rw[ed];unfold de;by_cases c:k=0\/l.length>500
 ·rw[if_pos c];exact muB mc ah rfl
 ·rw[if_neg c];have Zf:k≠0:=fun q=>c<|.inl q;have hl:l.length<=500:=by
   by_cases q:l.length<=500
   ·exact q
   ·exact absurd (.inr ah) c
  have key:∀(r:List St) (i:Nat) (m:Int),l.drop i=r->0<=m/\m<=3000->
   av pg B 270 (Fin pg (aA Tryz.f16) fun y _=>y= .tuple [.int .i64 (km (de k) r m).1,.bool (km (de k) r m).2]) (sM (nm<|bD l) l.length (21 - (k:Int)) m i) (aj aq 270):=by
   intro r;induction r with
   |nil=>intro i m hr hm;have hi:l.length<=i:=List.drop_eq_nil_iff.1 hr;exact muE mc ah rfl
   |cons s r ih=>
    intro i m hr hm;obtain⟨hi,ha,rk,lT⟩:=Wx hr;have p1:=Kq ha (z:=(i:Int)) ah 2 3 ah;have p2:=Kq ha (z:=(i:Int)) ah 5 3 ah;have p3:=Kq ha (z:=(i:Int)) ah 8 1 ah;have p4:=Kq ha (z:=(i:Int)) ah 9 1 ah;obtain⟨kind,to,⟨jM,na,la⟩,⟨jN,nb,lb⟩,bd,el⟩:=s;have e1:((ba<|.mk kind to (.mk jM na la) (.mk jN nb lb) bd el).drop 2).take 3=aM (.mk jM na la):=by rw[ba,aM,aM];rfl
    have e2:((ba<|.mk kind to (.mk jM na la) (.mk jN nb lb) bd el).drop 5).take 3=aM (.mk jN nb lb):=by rw[ba,aM,aM];rfl
    have e3:((ba<|.mk kind to (.mk jM na la) (.mk jN nb lb) bd el).drop 8).take 1=[.ab (nm<|bD bd) 0 bd.length]:=by rw[ba,aM,aM];rfl
    have e4:((ba<|.mk kind to (.mk jM na la) (.mk jN nb lb) bd el).drop 9).take 1=[.ab (nm<|bD el) 0 el.length]:=by rw[ba,aM,aM];rfl
    rw[e1] at p1;rw[e2] at p2;rw[e3] at p3;rw[e4] at p4;have uX:=vB 22<|.mk jM na la;have uV:=vB 22<|.mk jN nb lb;have jL:=xV k bd;have RT:=xV k el;have hS:∀e:Ex,bp (aY<|p9 22) [.agg<|aM e,.int .i64 0]=some (.tuple [.int .i64 (dU 22 e).1,.bool (dU 22 e).2]):=fun e=>fu (ff p9.bS ⟨e,rfl,by omega,rfl⟩) sB rfl;have hM:∀q:List St,bp (aY<|nE k) [.ab (nm<|bD q) 0 q.length,.int .i64<|21 - (k:Int)+1]=some (.tuple [.int .i64 (de k q).1,.bool (de k q).2]):=fun q=>fu (ff nE.bS ⟨q,by rw[show(21:Int) - (k:Int)+1=22 - (k:Int) by omega],by omega,rfl⟩) (by rw[List.all_cons,uj];rfl) rfl;have s1:=hS<|.mk jM na la;have s2:=hS<|.mk jN nb lb;have m1:=hM bd;have m2:=hM el;rw[aM] at p1 p2 s1 s2;have hb:(0<=(dU 22<|.mk jM na la).1/\(dU 22<|.mk jM na la).1<=1000)/\(0<=(dU 22<|.mk jN nb lb).1/\(dU 22<|.mk jN nb lb).1<=1000)/\(0<=(de k bd).1/\(de k bd).1<=3000)/\(0<=(de k el).1/\(de k el).1<=3000):=⟨uX,uV,jL,RT⟩;show av pg B 270 (Fin pg (aA Tryz.f16) fun y _=>y= .tuple [.int .i64 (km (de k) (.mk kind to (.mk jM na la) (.mk jN nb lb) bd el::r) m).1,.bool (km (de k) (.mk kind to (.mk jM na la) (.mk jN nb lb) bd el::r) m).2]) _ _;unfold km;show av pg B 270 (Fin pg (aA Tryz.f16) fun y _=>y= .tuple [.int .i64 (if(dU 22<|.mk jM na la).2=true\/(dU 22<|.mk jN nb lb).2=true\/(de k bd).2=true\/(de k el).2=true then(0,true) else if m+1+(dU 22<|.mk jM na la).1+(dU 22<|.mk jN nb lb).1+(de k bd).1+(de k el).1>3000 then(0,true) else km (de k) r (m+1+(dU 22<|.mk jM na la).1+(dU 22<|.mk jN nb lb).1+(de k bd).1+(de k el).1)).1,.bool (if(dU 22<|.mk jM na la).2=true\/(dU 22<|.mk jN nb lb).2=true\/(de k bd).2=true\/(de k el).2=true then(0,true) else if m+1+(dU 22<|.mk jM na la).1+(dU 22<|.mk jN nb lb).1+(de k bd).1+(de k el).1>3000 then(0,true) else km (de k) r (m+1+(dU 22<|.mk jM na la).1+(dU 22<|.mk jN nb lb).1+(de k bd).1+(de k el).1)).2]) _ _;cases x:(dU 22<|.mk jM na la).2 with
    |true=>rw[x] at s1;rw[if_pos<|.inl rfl];exact MW (x:=true) (.inl rfl) mc (cV _) ah hl hm hb ah p1 p2 p3 p4 ah s1 s2 m1 m2 rfl
    |false=>
     rw[x] at s1;cases y:(dU 22<|.mk jN nb lb).2 with
     |true=>rw[y] at s2;rw[if_pos<|.inr<|.inl rfl];exact MW (x:=false) (y:=true) (.inr<|.inl ⟨rfl,rfl⟩) mc (cV _) ah hl hm hb ah p1 p2 p3 p4 ah s1 s2 m1 m2 rfl
     |false=>
      rw[y] at s2;cases z:(de k bd).2 with
      |true=>rw[z] at m1;rw[if_pos<|.inr<|.inr<|.inl rfl];exact MW (x:=false) (y:=false) (z:=true) (.inr<|.inr<|.inl ⟨rfl,rfl,rfl⟩) mc (cV _) ah hl hm hb ah p1 p2 p3 p4 ah s1 s2 m1 m2 rfl
      |false=>
       rw[z] at m1;cases w:(de k el).2 with
       |true=>rw[w] at m2;rw[if_pos<|.inr<|.inr<|.inr rfl];exact MW (x:=false) (y:=false) (z:=false) (w:=true) (.inr<|.inr<|.inr ⟨rfl,rfl,rfl,rfl⟩) mc (cV _) ah hl hm hb ah p1 p2 p3 p4 ah s1 s2 m1 m2 rfl
       |false=>
        rw[w] at m2;rw[if_neg<|by simp];refine muN (x:=false) (y:=false) (z:=false) (w:=false) mc (cV _) ah hl hm hb ah p1 p2 p3 p4 ah s1 s2 m1 m2 (fun q=>?_) fun q=>?_
        ·rw[if_pos q]
        ·rw[if_neg q];exact ih (i+1) _ lT ah
  exact muG mc ah hl<|key l 0 0 (by rw[List.drop_zero]) ah
theorem Vs(hP:bC pg):∀(k:Nat) {L:bV},aV L->aV (wq k::L)
 |0,L,h=>by refine g9 hP h cN Tryz.func16 fun args v e=>?_;obtain⟨_,_,hk,_⟩:=gf e;omega
 |k+1,L,h=>ac8 hP (UE hP 22<|Vs hP k cN) h
end Fc
end
section
open Go Go.Rn Go.RowKit Go.Proofs
namespace QF
open cr fQ fc CM hI oj n7 AJ Ct yO EX fF cU dM F8 wD yv vd uK qV Ig LB dk dB gF fT ia ig iv iF iw iG iT iU jI jO kL lv mm jV gK jr px sI qu wG uO CS HN Ar CT Fc
variable {k:Nat}
theorem TN{f:Ex->Int×Bool}:∀(l:List Ex) (m:Int),(sK f l m).2=false->(∀a∈l,(f a).2=false)/\(sK f l m).1=l.foldl (fun n a=>n+(f a).1) m/\(m<=1000->(sK f l m).1<=1000)
 |[],m,_=>⟨fun a h=>(by cases h),rfl,fun h=>h⟩
 |a::r,m,h=>by
  unfold sK at h ⊢;by_cases c1:(f a).2=true
  ·rw[if_pos c1] at h;cases h
  ·rw[if_neg c1] at h ⊢;by_cases c2:m+(f a).1>1000
   ·rw[if_pos c2] at h;cases h
   ·rw[if_neg c2] at h ⊢;obtain⟨h1,h2,h3⟩:=TN r _ h;refine⟨fun b hb=>?_,by rw[h2,List.foldl_cons],fun _=>h3 ah⟩;rcases List.mem_cons.1 hb with rfl|hb
    ·exact Bool.eq_false_iff.2 c1
    ·exact h1 b hb
theorem fold_congr{f g:Ex->Int}:∀(l:List Ex) (m:Int),(∀a∈l,f a=g a)->l.foldl (fun n a=>n+f a) m=l.foldl (fun n a=>n+g a) m
 |[],_,_=>rfl
 |a::l,m,h=>by rw[List.foldl_cons,List.foldl_cons,h a List.mem_cons_self];exact fold_congr l _ fun b hb=>h b<|List.mem_cons_of_mem _ hb
theorem Jo:∀(k j:Nat) (e:Ex),k<=j->(dU k e).2=false->uA j e=true/\lI j e=(dU k e).1
 |0,_,_,_,h=>by cases h
 |k+1,0,_,hj,_=>by omega
 |k+1,j+1,.mk op n l,hj,h=>by
  unfold dU at h ⊢;by_cases c:k=0\/l.length>10
  ·rw[if_pos c] at h;cases h
  ·rw[if_neg c] at h ⊢;obtain⟨h1,h2,_⟩:=TN l 1 h;refine⟨List.all_eq_true.2 fun a ha=>(Jo k j a ah<|h1 a ha).1,?_⟩;rw[h2];exact fold_congr l 1 fun a ha=>(Jo k j a ah<|h1 a ha).2
theorem Jx{f:List St->Int×Bool}(hf:∀l,0<=(f l).1):∀(l:List St) (m:Int),(km f l m).2=false->m<=(km f l m).1/\∀s∈l,(dU 22<|iC s).2=false/\(dU 22<|ib s).2=false/\(f<|ct s).2=false/\(f<|cm s).2=false
 |[],m,_=>⟨Int.le_refl _,fun s h=>by cases h⟩
 |t::r,m,h=>by
  unfold km at h ⊢;have a1:=vB 22<|iC t;have a2:=vB 22<|ib t;have a3:=hf<|ct t;have a4:=hf<|cm t;by_cases c1:(dU 22<|iC t).2=true\/(dU 22<|ib t).2=true\/(f<|ct t).2=true\/(f<|cm t).2=true
  ·rw[if_pos c1] at h;cases h
  ·rw[if_neg c1] at h ⊢;by_cases c2:m+1+(dU 22<|iC t).1+(dU 22<|ib t).1+(f<|ct t).1+(f<|cm t).1>3000
   ·rw[if_pos c2] at h;cases h
   ·rw[if_neg c2] at h ⊢;obtain⟨h1,h2⟩:=Jx hf r _ h;refine⟨by omega,fun s hs=>?_⟩;rcases List.mem_cons.1 hs with rfl|hs
    ·refine⟨Bool.eq_false_iff.2 fun q=>c1<|.inl q,Bool.eq_false_iff.2 fun q=>c1<|.inr<|.inl q,Bool.eq_false_iff.2 fun q=>c1<|.inr<|.inr<|.inl q,Bool.eq_false_iff.2 fun q=>c1<|.inr<|.inr<|.inr q⟩
    ·exact h2 s hs
theorem ab4{l:List St}:de (k+1) l=if k=0\/l.length>500 then(0,true) else km (de k) l 0:=rfl
theorem NK{l:List St}(h:(de (k+1) l).2=false):l.length<=500/\(de (k+1) l).1=(km (de k) l 0).1/\(km (de k) l 0).2=false/\∀s∈l,(dU 22<|iC s).2=false/\(dU 22<|ib s).2=false/\(de k<|ct s).2=false/\(de k<|cm s).2=false:=by
 rw[ab4] at h ⊢;by_cases c:k=0\/l.length>500
 ·rw[if_pos c] at h;cases h
 ·rw[if_neg c] at h ⊢;refine⟨?_,rfl,h,(Jx (fun l=>(xV k l).1) l 0 h).2⟩;by_cases q:l.length<=500
  ·exact q
  ·exact absurd (.inr ah) c
theorem DV:∀(k j:Nat) (l:List St),k<=j->(de k l).2=false->lq j l=true/\sg j l=true
 |0,_,_,_,h=>by cases h
 |k+1,0,_,hj,_=>by omega
 |k+1,j+1,l,hj,h=>by
  obtain⟨h1,_,_,h4⟩:=NK h;have hl:decide (l.length<=1000000)=true:=decide_eq_true ah;constructor
  ·show(decide (l.length<=1000000)&&l.all fun s=>lq j (ct s)&&lq j (cm s))=true;rw[hl];exact List.all_eq_true.2 fun s hs=>and_true.2 ⟨(DV k j _ ah (h4 s hs).2.2.1).1,(DV k j _ ah (h4 s hs).2.2.2).1⟩
  ·show(decide (l.length<=1000000)&&l.all fun s=>((ct s).isEmpty||sg j (ct s))&&((cm s).isEmpty||sg j (cm s)))=true;rw[hl];exact List.all_eq_true.2 fun s hs=>and_true.2 ⟨by rw[(DV k j _ ah (h4 s hs).2.2.1).2,Bool.or_true],by rw[(DV k j _ ah (h4 s hs).2.2.2).2,Bool.or_true]⟩
theorem Vt{k j:Nat}(he:∀l n1 n2,(de j l).2=false->0<=n1/\n1+(de j l).1<=1000000000->0<=n2/\n2+(de j l).1<=1000000000->∃m1 m2,fK (pF 60) k l (.int .i64 n1) (.int .i64 n2)=some ⟨true,.int .i64 m1,.int .i64 m2,none⟩/\(n1<=m1/\m1<=n1+(de j l).1)/\n2<=m2/\m2<=n2+(de j l).1):
 ∀(r:List St) (m n1 n2:Int),(km (de j) r m).2=false->0<=m->m<=3000->0<=n1->0<=n2->n1+((km (de j) r m).1 - m)<=1000000000->n2+((km (de j) r m).1 - m)<=1000000000->∃m1 m2,kY (fK (pF 60) k) (pF 60) r (.int .i64 n1) (.int .i64 n2)=some ⟨true,.int .i64 m1,.int .i64 m2,none⟩/\(n1<=m1/\m1<=n1+((km (de j) r m).1 - m))/\n2<=m2/\m2<=n2+((km (de j) r m).1 - m)
 |[],m,n1,n2,_,_,_,_,_,_,_=>⟨n1,n2,rfl,by show n1<=n1/\n1<=n1+(m - m);omega,by show n2<=n2/\n2<=n2+(m - m);omega⟩
 |t::r,m,n1,n2,h,hm,cX,h1,h2,h3,h4=>by
  unfold km at h h3 h4 ⊢;have a1:=vB 22<|iC t;have a2:=vB 22<|ib t;have a3:=xV j<|ct t;have a4:=xV j<|cm t;by_cases c1:(dU 22<|iC t).2=true\/(dU 22<|ib t).2=true\/(de j<|ct t).2=true\/(de j<|cm t).2=true
  ·rw[if_pos c1] at h;cases h
  ·rw[if_neg c1] at h h3 h4 ⊢;by_cases c2:m+1+(dU 22<|iC t).1+(dU 22<|ib t).1+(de j<|ct t).1+(de j<|cm t).1>3000
   ·rw[if_pos c2] at h;cases h
   ·rw[if_neg c2] at h h3 h4 ⊢;have g:=(Jx (fun l=>(xV j l).1) r _ h).1;obtain⟨d1,e1⟩:=Jo 22 60 (iC t) ah<|Bool.eq_false_iff.2 fun q=>c1<|.inl q;obtain⟨d2,e2⟩:=Jo 22 60 (ib t) ah<|Bool.eq_false_iff.2 fun q=>c1<|.inr<|.inl q;have z1:0<=mG 60 (iC t)/\mG 60 (iC t)<=(dU 22<|iC t).1:=by have:=GB 60 (iC t) d1;unfold mG;split<;>omega
    have z2:0<=mG 60 (ib t)/\mG 60 (ib t)<=(dU 22<|ib t).1:=by have:=GB 60 (ib t) d2;unfold mG;split<;>omega
    have hc:Qx 60 t n1 n2:=⟨by omega,by omega,d1,d2,by rw[e1];omega,by rw[e2];omega⟩;have hr:pF 60 t (.int .i64 n1) (.int .i64 n2)=some ⟨true,.int .i64<|n1+1,.int .i64<|n2+(mG 60 (iC t)+mG 60 (ib t)),none⟩:=if_pos hc;obtain⟨p1,p2,q1,q2,q3⟩:=he (ct t) (n1+1) (n2+(mG 60 (iC t)+mG 60 (ib t))) (Bool.eq_false_iff.2 fun q=>c1<|.inr<|.inr<|.inl q) ah ah;obtain⟨u1,u2,w1,w2,w3⟩:=he (cm t) p1 p2 (Bool.eq_false_iff.2 fun q=>c1<|.inr<|.inr<|.inr q) ah ah;obtain⟨y1,y2,x1,x2,x3⟩:=Vt he r _ u1 u2 h ah ah ah ah ah ah;refine⟨y1,y2,?_,by omega,by omega⟩;unfold kY;rw[hr];simp only[q1,w1];exact x1
theorem TO:∀(k j:Nat) (l:List St) (n1 n2:Int),j<=k->(de j l).2=false->0<=n1/\n1+(de j l).1<=1000000000->0<=n2/\n2+(de j l).1<=1000000000->∃m1 m2,fK (pF 60) k l (.int .i64 n1) (.int .i64 n2)=some ⟨true,.int .i64 m1,.int .i64 m2,none⟩/\(n1<=m1/\m1<=n1+(de j l).1)/\n2<=m2/\m2<=n2+(de j l).1
 |_,0,_,_,_,_,h,_,_=>by cases h
 |0,j+1,_,_,_,hj,_,_,_=>by omega
 |k+1,j+1,l,n1,n2,hj,h,h1,h2=>by obtain⟨g1,g2,g3,_⟩:=NK h;rw[g2] at h1 h2 ⊢;have g4:=(Jx (fun l=>(xV j l).1) l 0 g3).1;obtain⟨m1,m2,e,a,b⟩:=Vt (k:=k) (fun l n1 n2 x y z=>TO k j l n1 n2 ah x y z) l 0 n1 n2 g3 ah ah h1.1 h2.1 ah ah;refine⟨m1,m2,?_,by omega,by omega⟩;unfold fK;rw[show decide (l.length<=1000000)=true from decide_eq_true ah];exact e
def ss:Nat->List St->Prop
 |0,_=>True
 |k+1,l=>∀s∈l,(0<=iR s/\iR s<256)/\ss k (ct s)/\ss k (cm s)
theorem O3:∀{k:Nat} {l:List St},ss k l->Im k l
 |0,_,_=>trivial
 |k+1,l,h=>fun s hs=>⟨(h s hs).1.1,O3 (h s hs).2.1,O3 (h s hs).2.2⟩
theorem Vu{k:Nat}{n:Int}(he:∀l,lq k l=true->ss k l->∃p,fK gz k l (.int .i64 n) (.bool false)=some p):∀r:List St,(∀s∈r,(lq k (ct s)=true/\lq k (cm s)=true)/\(0<=iR s/\iR s<256)/\ss k (ct s)/\ss k (cm s))->∃p,kY (fK gz k) gz r (.int .i64 n) (.bool false)=some p
 |[],_=>⟨_,rfl⟩
 |t::r,h=>by
  obtain⟨⟨d1,d2⟩,k1,k2,k3⟩:=h t List.mem_cons_self;unfold kY;have e1:gz t (.int .i64 n) (.bool false)=some (if mW t n=true then pY n else pN n):=by
   show(if 0<=iR t/\iR t<256 then(match mW t n with
    |true=>some (⟨true,.int .i64 n,.bool false,none⟩:fE)
    |false=>some ⟨false,.int .i64 n,.bool false,some .ret⟩) else none)=_
   rw[if_pos k1];cases mW t n<;>rfl
  rw[e1];cases hs:mW t n with
  |false=>exact⟨_,rfl⟩
  |true=>
   rw[if_pos rfl];show ∃p,(match fK gz k (ct t) (.int .i64 n) (.bool false) with
    |none=>none
    |some q=>match q.ret with
     |false=>some q
     |true=>match fK gz k (cm t) q.v1 q.v2 with
      |none=>none
      |some u=>match u.ret with
       |false=>some u
       |true=>kY (fK gz k) gz r u.v1 u.v2)=some p
   obtain⟨q1,w1⟩:=he _ d1 k2;rw[w1];rcases Bv k _ _ w1 with rfl|rfl
   ·show ∃p,(match fK gz k (cm t) (.int .i64 n) (.bool false) with
     |none=>none
     |some u=>match u.ret with
      |false=>some u
      |true=>kY (fK gz k) gz r u.v1 u.v2)=some p
    obtain⟨q2,w2⟩:=he _ d2 k3;rw[w2];rcases Bv k _ _ w2 with rfl|rfl
    ·exact Vu he r fun s hs=>h s<|List.mem_cons_of_mem _ hs
    ·exact⟨_,rfl⟩
   ·exact⟨_,rfl⟩
theorem TP{n:Int}:∀(k:Nat) (l:List St),lq k l=true->ss k l->∃p,fK gz k l (.int .i64 n) (.bool false)=some p
 |0,_,h,_=>by cases h
 |k+1,l,hd,hk=>by obtain⟨c1,c2⟩:=and_true.1 (show(decide (l.length<=1000000)&&l.all fun s=>lq k (ct s)&&lq k (cm s))=true from hd);unfold fK;rw[c1];exact Vu (TP k) l fun s hs=>⟨and_true.1<|List.all_eq_true.1 c2 s hs,hk s hs⟩
theorem ab5{s:St}{n:Int}(h:mW s n=true):pG 6 (iC s)=true/\pG 6 (ib s)=true:=by
 obtain⟨kind,to,a,b,bd,el⟩:=s;have h:Bb (qD kind) to a b bd el n=true:=h;have fit:∀(q:Bool) (e:Ex),uL q e n=true->pG 6 e=true:=fun q e h=>by
  cases q with
  |true=>have h:(eQ 6 e&&sb 6 e n)=true:=h;exact PT (and_true.1 h).1
  |false=>have h:decide (EW e)=true:=h;have h:=of_decide_eq_true h;obtain⟨op,m,l⟩:=e;have hl:l=[]:=List.length_eq_zero_iff.1 h.2.2;subst hl;show(eQ 6 (.mk op m [])||true)=true;rw[Bool.or_true]
 unfold Bb at h;split at h
 ·obtain⟨_,h⟩:=and_true.1 h;obtain⟨_,h⟩:=and_true.1 h;obtain⟨_,h⟩:=and_true.1 h;obtain⟨h1,h⟩:=and_true.1 h;obtain⟨h2,_⟩:=and_true.1 h;exact⟨fit _ _ h1,fit _ _ h2⟩
 ·cases h
theorem PE{n:Int}:∀(k j i:Nat) (l:List St),k<=j->(de k l).2=false->AP i n l->k<=i->qW j l=true
 |0,_,_,_,_,h,_,_=>by cases h
 |k+1,0,_,_,hj,_,_,_=>by omega
 |k+1,j+1,0,_,_,_,h,_=>by cases h
 |k+1,j+1,i+1,l,hj,h,ha,hi=>by obtain⟨h1,_,_,h4⟩:=NK h;show(decide (l.length<=10000)&&l.all fun s=>pG 6 (iC s)&&(pG 6 (ib s)&&(qW j (ct s)&&qW j (cm s))))=true;rw[decide_eq_true (show l.length<=10000 by omega)];refine List.all_eq_true.2 fun s hs=>?_;obtain⟨a1,a2,a3⟩:=ha s hs;obtain⟨w1,w2⟩:=ab5 a1;rw[w1,w2,PE k j i _ ah (h4 s hs).2.2.1 a2 ah,PE k j i _ ah (h4 s hs).2.2.2 a3 ah];rfl
theorem aeq{tx:List St}{n:Nat}(h:(de 22 tx).2=false)(hk:ss 60 tx):∃b,AK tx (n:Int) b/\(b=true->qW 60 tx=true/\oD 6 tx):=by obtain⟨d1,d2⟩:=DV 22 60 tx ah h;have iz:=xV 22 tx;obtain⟨m1,m2,e1,_,_⟩:=TO 60 22 tx 0 0 ah h ah ah;obtain⟨p,e2⟩:=TP (n:=(n:Int)) 60 tx d1 hk;have hm:AK tx (n:Int)<|decide (0<=(n:Int)/\(n:Int)<6/\fw 60 tx<=6/\si 60 tx<=2000)&&(p.ret&&decide (m1<=40/\m2<=300)):=⟨m1,m2,p,e1,e2,rfl⟩;refine⟨_,hm,fun hb=>?_⟩;have hp:p.ret=true:=(and_true.1 (and_true.1 hb).2).1;refine⟨PE 22 60 60 tx ah h (BH 60 tx p e2 hp) ah,?_⟩;rw[hb] at hm;exact ahG hm d1<|O3 hk
end QF
end
section
open Go Go.Rn Go.RowKit Go.Proofs
namespace CU
open cr
variable {y:AV} {rest cs c:List AV} {T:Prop}
noncomputable section
abbrev I0:=List AV->List AV->AV->List AV->Prop
open Classical in
def vO(R:I0)(cs rest:List AV):Option<|AV×List AV:=if h:∃p:AV×List AV,R cs rest p.1 p.2 then some h.choose else none
theorem XX{R:I0}(hd:∀cs rest y y' c c',R cs rest y c->R cs rest y' c'->y=y'/\c=c')(h:R cs rest y c):vO R cs rest=some (y,c):=by have hx:∃p:AV×List AV,R cs rest p.1 p.2:=⟨(y,c),h⟩;unfold vO;rw[dif_pos hx];obtain⟨e1,e2⟩:=hd _ _ _ _ _ _ hx.choose_spec h;exact congrArg some<|Prod.ext e1 e2
theorem Xc{R:I0}(h:vO R cs rest=some (y,c)):R cs rest y c:=by
 unfold vO at h;split at h
 ·rename_i hx;injection h with h
  have:=hx.choose_spec;rw[h] at this;exact this
 ·cases h
def c3(v s:Int)(L:List Int):List AV:=[.int .i64 v,.int .i64 s,aD aH L]
theorem Xd{v s v' s':Int}{L L':List Int}(h:c3 v s L=c3 v' s' L'):v=v'/\s=s'/\L=L':=by
 injection h with h1 h;injection h with h2 h;injection h with h3 _
 injection h1 with _ h1;injection h2 with _ h2
 have e:dj aH 1 (aD aH L) L':=by rw[h3];exact dj.aD eI L'
 exact⟨h1,h2,dj.inj rW (dj.aD eI L) e⟩
abbrev oN(v s:Int)(L:List Int):List<|Nat×Option ae:=aq++[(270,some<|bu<|c3 v s L)]
abbrev nI(l:List Int):Nat:=nm (l.map aH).flatten
abbrev RO(y:AV)(cs:List AV)(y1:AV)(s':AS):Prop:=y1=y/\s'.h.get 270=some (bu cs)
section
variable {L:bV} {B:aI} {f nt:Nat} {t:Tr AV} {K:List Item} {s:AS} {rs:List ResultVar} {R:AV->AS->Prop}
theorem oS(mc:Mt L B)(p:Pl)(x:T)(h:T=wp (rG L) 900 6 (.fr f nt K t s) p rs (fun v s _=>R v s) (fun _ _ _=>False):=by as_aux_lemma=>kernel_rfl)(h0:Nat.ble 271 s.nx=true:=by as_aux_lemma=>kernel_rfl):av pg B 271 (Fin pg rs R) ⟨f,t,nt,K,[],none⟩ s:=l9 (E:=rG L) eJ rfl bU mc.2.2.1 mc.2.2.2 900 p x h h0
theorem oC(mc:Mt L B){F:AF}{S:AS}(H:av pg B 271 (Fin pg rs R) F S)(p:Pl)(x:T)(h:T=wp (rG L) 900 6 (.fr f nt K t s) p rs (fun v s _=>R v s) (fun fr s1 _=>fr=F/\s1=S):=by as_aux_lemma=>kernel_rfl)(h0:Nat.ble 271 s.nx=true:=by as_aux_lemma=>kernel_rfl):av pg B 271 (Fin pg rs R) ⟨f,t,nt,K,[],none⟩ s:=IM mc (C:=fun fr s1 _=>fr=F/\s1=S) (fun fr s1 p hC=>by obtain⟨rfl,rfl⟩:=hC;exact H) p x h h0
end
def I1(n i:Int):List<|Nat×AV:=[(0,.ptr<|some (270,0)),(1,.int .i64 n),(5,.int .i64 i)]
def Bh(n i:Int):AF:=⟨57,aP<|I1 n i,max Tryz.f57.ntmps 2,[.code<|aW pg 57 [1,0,1,0,0],.inLoop<|aW pg 57 [1,0,1,0,0],.inBlock 0,.code<|aW pg 57 [1,1]],[],none⟩
abbrev DB(B:aI)(b:Bool)(v s:Int)(L:List Int)(fr:AF):Prop:=av pg B 271 (Fin pg (aA Tryz.f57)<|RO (.bool b)<|c3 v s L) fr<|aj (oN v s L) 271
abbrev DC(l:List<|Nat×AV)(o:List<|Nat×Option ae)(fr:AF)(s:AS):Prop:=(l.map (fun q=>some q.2)=l.map (fun q=>some q.2))/\(o.map (fun q=>q.2)=o.map (fun q=>q.2))/\(fr=fr/\s=s)
abbrev MX(y:AV)(cs:List AV):Prop:=y=y/\some (bu cs)=some (bu cs)
section
variable {B:aI} {v s n i x:Int} {L:List Int} {b:Bool}
theorem a0(mc:Mt [] B)(H:DB B b v s L<|Bh n 0):DB B b v s L<|sF 57 Tryz.f57 [.ptr<|some (270,0),.int .i64 n]:=oC mc H (.st 7<|.ls (I1 n 0) (oN v s L) 271 .no) (show DC (I1 n 0) (oN v s L) (Bh n 0) (aj (oN v s L) 271) from⟨rfl,rfl,rfl,rfl⟩)
theorem aE(mc:Mt [] B)(h:(L.length:Int)<=i):DB B false v s L<|Bh n i:=oS mc (.st 2<|.rg<|.go 6<|.fk .no<|.en<|.rt 5 .no)<|ax (i<(L.length:Int)) (fun h=>show False by omega) (fun _=>show MX (.bool false) (c3 v s L) from⟨rfl,rfl⟩)
theorem aT(mc:Mt [] B)(h0:0<=i)(h:i<(L.length:Int))(hx:cx FU (nI L) (0+i.toNat*1+0) 1=some [.int .i64 n]):DB B true v s L<|Bh n i:=oS mc (.st 2<|.rg<|.go 6<|.fk (.en<|.st 5<|.rg<|.go 5<|.eG<|.eH [.int .i64 n]<|.go 1<|.fk (.en<|.rt 4 .no) .no) .no)<|ax (i<(L.length:Int)) (fun _=>And.intro (show(0:Int)<=i from h0)<|ai (show i<(L.length:Int) from h)<|ai (cV (L.map aH).flatten)<|ai hx<|ax (n=n) (fun _=>show MX (.bool true) (c3 v s L) from⟨rfl,rfl⟩) (fun h=>show False from h rfl)) (fun h=>show False by omega)
theorem aN(mc:Mt [] B)(hl:L.length<=1000000)(h0:0<=i)(h:i<(L.length:Int))(hx:cx FU (nI L) (0+i.toNat*1+0) 1=some [.int .i64 x])(hn:x≠n)(H:DB B b v s L<|Bh n<|i+1):DB B b v s L<|Bh n i:=oC mc H (.st 2<|.rg<|.go 6<|.fk (.en<|.st 5<|.rg<|.go 5<|.eG<|.eH [.int .i64 x]<|.go 1<|.fk .no<|.en<|.st 3<|.rg<|.go 1<|.vl (i6<|i+1)<|.go 1<|.en<|.st 1<|.ls (I1 n<|i+1) (oN v s L) 271 .no) .no)<|ax (i<(L.length:Int)) (fun _=>And.intro (show(0:Int)<=i from h0)<|ai (show i<(L.length:Int) from h)<|ai (cV (L.map aH).flatten)<|ai hx<|ax (x=n) (fun h=>show False from hn h) fun _=>And.intro (congrArg (AV.int .i64) (show IntKind.wrap .i64 (i+1)=i+1 from Bo ah)) (show DC (I1 n<|i+1) (oN v s L) (Bh n<|i+1) (aj (oN v s L) 271) from⟨rfl,rfl,rfl,rfl⟩)) (fun h=>show False by omega)
theorem Io{k:Nat}(h:k<L.length):cx FU (nI L) (0+(k:Int).toNat*1+0) 1=some [.int .i64 L[k]]:=by rw[show 0+(k:Int).toNat*1+0=k*1+0 by omega];exact yc eI (List.getElem?_eq_getElem h) 0 1 ah
theorem Xe(mc:Mt [] B)(hl:L.length<=1000000):∀(m k:Nat),L.length - k=m->DB B (decide<|n∈L.drop k) v s L (Bh n k)
 |0,k,h=>by rw[List.drop_of_length_le ah,decide_eq_false<|by simp];exact aE mc ah
 |m+1,k,h=>by
  have hk:k<L.length:=by omega
  rw[List.drop_eq_getElem_cons hk];by_cases q:L[k]=n
  ·rw[decide_eq_true (by rw[q];exact List.mem_cons_self)];have hx:=Io hk;rw[q] at hx;exact aT mc ah ah hx
  ·rw[show decide (n∈L[k]::L.drop (k+1))=decide (n∈L.drop (k+1)) from decide_eq_decide.2 (by rw[List.mem_cons];exact⟨fun e=>e.resolve_left fun e=>q e.symm,.inr⟩)];exact aN mc hl ah ah (Io hk) q<|Xe mc hl m (k+1) ah
end
def FD:I0:=fun cs rest y c=>∃(v s n:Int) (L:List Int),cs=c3 v s L/\rest=[.int .i64 n]/\L.length<=1000000/\y= .bool (decide<|n∈L)/\c=cs
theorem FD.bS(cs rest:List AV)(y y':AV)(c c':List AV)(h:FD cs rest y c)(h':FD cs rest y' c'):y=y'/\c=c':=by
 obtain⟨v,s,n,L,rfl,rfl,_,rfl,rfl⟩:=h;obtain⟨v',s',n',L',e,e2,_,rfl,rfl⟩:=h';obtain⟨rfl,rfl,rfl⟩:=Xd e;injection e2 with e2 _;injection e2 with _ e2;subst e2
 exact⟨rfl,rfl⟩
def wL:FuncId×KE:=(57,.raw<|uP<|vO FD)
theorem af9(hP:bC pg){L:bV}(h:aV L):aV<|wL::L:=by refine Wz hP gL eX ir gZ kI kl h cN Tryz.func57 (body:=aW pg 57 []) aZ aZ fun cs rest y kx e=>?_;obtain⟨v,s,n,L,rfl,rfl,hl,rfl,rfl⟩:=Xc e;refine⟨aL.1 aZ,fun B mc=>?_⟩;exact a0 mc<|Xe mc hl _ 0 rfl
end
end CU
end
section
open Go Go.Rn Go.RowKit Go.Proofs
namespace Av
open cr fQ kK CU
variable {fz:lN}
noncomputable section
theorem Fe{lo bG nx:Nat}{l0 l:List<|Nat×AV}{o0 o:List<|Nat×Option ae}(h1:lo<=nx)(h2:nx<=bG)(h3:bG<top)(hs:∀r:Nat->Nat,(∀k,k<nx->r k=k)->(∀k,top<=k->r k=k)->∀p∈l,p.1<top/\∃x,(p.1,x)∈l0/\lJ fz r x p.2)(ho:∀r:Nat->Nat,(∀k,k<nx->r k=k)->(∀k,top<=k->r k=k)->∀p∈o,p.1<nx/\∀y,p.2=some y->y.l7=true/\∃x,(p.1,some x)∈o0/\fm x y/\fI fz r x y)(hz:∀p∈fz,nx<=p.1/\p.1<top/\FU p.2.1=some p.2.2/\∃N t z,(p.1,some<|.cells N t z)∈o0/\∀i x,p.2.2[i]? =some x->i<N/\cellAt t z i=some x/\x.cj=true/\x.cq=true):gY FU lo bG l0 o0 l o nx:=by
 let r:Nat->Nat:=fun k=>if k<nx\/top<=k then k else max k bG
 have r1:∀k,k<nx->r k=k:=fun k hk=>if_pos<|.inl hk;have r2:∀k,top<=k->r k=k:=fun k hk=>if_pos<|.inr hk;refine⟨fz,r,fun k hk=>r1 k ah,fun k a b=>?_,r2,by omega,hs r r1 r2,fun p hp=>?_,fun p hp q hq _ _ e=>?_,fun p hp=>?_,fun p hp q hq _ e=>?_⟩
 ·show bG<=(if _ then _ else _)/\(if _ then _ else _)<top;rw[if_neg ah];omega
 ·obtain⟨a,b⟩:=ho r r1 r2 p hp;exact⟨by omega,fun y hy=>by obtain⟨c1,x,c2,c3,c4⟩:=b y hy;rw[r1 _ a];exact⟨by omega,c1,x,c2,c3,c4⟩⟩
 ·have a:=(ho r r1 r2 p hp).1;have b:=(ho r r1 r2 q hq).1;rw[r1 _ a,r1 _ b] at e;exact e
 ·exact(hz p hp).2
 ·have a:=(ho r r1 r2 q hq).1;rw[r1 _ a] at e;have:=(hz p hp).1;omega
theorem LG{r:Nat->Nat}(hr:∀k,k<270->r k=k):∀p∈aq,p.1<270/\∀y,p.2=some y->y.l7=true/\fI fz r y y:=fun p hp=>by
 have h1:(aq.all fun p=>Nat.blt p.1 270&&(match p.2 with|some x=>x.l7|none=>true))=true:=by as_aux_lemma=>kernel_rfl
 obtain⟨a,b⟩:=and_true.1<|List.all_eq_true.1 h1 p hp;refine⟨(blt_eq _ _).mp a,fun y hy=>?_⟩;rw[hy] at b;exact⟨b,(GR (nx:=270) hr cC p hp y hy).z⟩
def nS(n:Int):List Int->Nat
 |[]=>0
 |x::l=>if x<n then nS n l+1 else 0
def jX(L:List Int)(n:Int):List Int:=if n∈L then L else L.take (nS n L)++[n]++L.drop (nS n L)
theorem Xf{n:Int}:∀L:List Int,nS n L<=L.length
 |[]=>Nat.le_refl _
 |x::l=>by
  unfold nS;split
  ·have:=Xf (n:=n) l;rw[List.length_cons];omega
  ·omega
def xo(n i:Int):List<|Nat×AV:=[(0,.ptr<|some (270,0)),(1,.int .i64 n),(5,.int .i64 i)]
def Bi(n i:Int):AF:=⟨35,aP<|xo n i,max Tryz.f35.ntmps 2,[.code<|aW pg 35 [1,1,1,1,0,0,0],.inLoop<|aW pg 35 [1,1,1,1,0,0,0],.inBlock 0,.code<|aW pg 35 [1,1,1,1,1]],[],none⟩
abbrev qE(B:aI)(c:List AV)(fr:AF)(s:AS):Prop:=av pg B 271 (Fin pg (aA Tryz.f35)<|RO (.int .i64 0) c) fr s
abbrev Ri(n:Int):AF:=(sF 35 Tryz.f35 [.ptr<|some (270,0),.int .i64 n])
abbrev oG(cs:List AV):AS->AS:=Rh 270 dW eC 270 cs
abbrev oQ(cs:List AV):AS->Prop:=YV 270 dW eC 270 cs
section
variable {B:aI} {v s n i x:Int} {L:List Int} {c:List AV}
theorem YW{T:Prop}(hl:L.length<=1000000){b:Bool}(hb:decide (n∈L)=b)(t:T):
 (∀z,oQ (c3 v s L) z->bh pg (sp [wL]) FU 6 (.fn 57) [.ptr<|some (270,0),.int .i64 n] z= .ok (.bool b) (oG (c3 v s L) z))/\(true=true/\true=true/\some (bu<|c3 v s L)=some (bu<|c3 v s L))/\T:=
 ⟨Xb (n:=5) (val:=vO FD) cC rfl L9 Ia Yt (XX FD.bS ⟨v,s,n,L,rfl,rfl,hl,by rw[hb],rfl⟩) (by show(true&&((true&&(true&&(Nat.ble top (nI L)&&true)))&&Nat.ble 3 top))=true;rw[aL.2<|cV _,aL.2 (show 3<=top by unfold top;omega)];rfl),⟨rfl,rfl,rfl⟩,t⟩
theorem b1(mc:Mt [wL] B)(hl:L.length<=1000000)(hn:0<=n/\n<s)(hm:n∈L):qE B (c3 v s L) (Ri n)<|aj (oN v s L) 271:=oS mc (.st 4<|.rg<|.go 1<|.fk .no<|.go 6<|.fk .no<|.go 1<|.en<|.st 4<|.rg<|.go 2<|.cg (.bool true) (oG<|c3 v s L) (oQ<|c3 v s L)<|.en<|.rt 4 .no)<|ax (n<0) (fun h=>show False by omega) fun _=>ax (n>=s) (fun h=>show False by omega) fun _=>YW (v:=v) (s:=s) hl (decide_eq_true hm) (show MX i0 (c3 v s L) from⟨rfl,rfl⟩)
theorem b2(mc:Mt [wL] B)(hl:L.length<=1000000)(hn:0<=n/\n<s)(hm:n ∉ L)(H:qE B c (Bi n 0)<|aj (oN v s L) 271):qE B c (Ri n)<|aj (oN v s L) 271:=oC mc H (.st 4<|.rg<|.go 1<|.fk .no<|.go 6<|.fk .no<|.go 1<|.en<|.st 4<|.rg<|.go 2<|.cg (.bool false) (oG<|c3 v s L) (oQ<|c3 v s L)<|.en<|.st 7<|.ls (xo n 0) (oN v s L) 271 .no)<|ax (n<0) (fun h=>show False by omega) fun _=>ax (n>=s) (fun h=>show False by omega) fun _=>YW (v:=v) (s:=s) hl (decide_eq_false hm) (show DC (xo n 0) (oN v s L) (Bi n 0) (aj (oN v s L) 271) from⟨rfl,rfl,rfl,rfl⟩)
theorem b3(mc:Mt [wL] B)(hl:L.length<=1000000)(h0:0<=i)(h:i<(L.length:Int))(hx:cx FU (nI L) (0+i.toNat*1+0) 1=some [.int .i64 x])(hn:x<n)(H:qE B c (Bi n<|i+1)<|aj (oN v s L) 271):qE B c (Bi n i)<|aj (oN v s L) 271:=oC mc H (.st 2<|.rg<|.go 6<|.fk (.go 6<|.eG<|.eH [.int .i64 x]<|.go 1<|.fk (.go 1<|.en<|.st 3<|.rg<|.go 1<|.vl (i6<|i+1)<|.go 1<|.en<|.st 2<|.ls (xo n<|i+1) (oN v s L) 271 .no) .no) .no)<|ax (i<(L.length:Int)) (fun _=>And.intro (show(0:Int)<=i from h0)<|ai (show i<(L.length:Int) from h)<|ai (cV (L.map aH).flatten)<|ai hx<|ax (x<n) (fun _=>And.intro (congrArg (AV.int .i64) (show IntKind.wrap .i64 (i+1)=i+1 from Bo ah)) (show DC (xo n<|i+1) (oN v s L) (Bi n<|i+1) (aj (oN v s L) 271) from⟨rfl,rfl,rfl,rfl⟩)) (fun h=>show False from h hn)) (fun h=>show False by omega)
def I2(n i:Int):AF:=⟨35,aP<|xo n i,max Tryz.f35.ntmps 2,(dt 35 [1,1,1,1,1]),[],none⟩
theorem b4(mc:Mt [wL] B)(h:(L.length:Int)<=i)(H:qE B c (I2 n i)<|aj (oN v s L) 271):qE B c (Bi n i)<|aj (oN v s L) 271:=oC mc H (.st 2<|.rg<|.go 6<|.fk .no<|.go 11<|.en<|.st 2<|.ls (xo n i) (oN v s L) 271 .no)<|ax (i<(L.length:Int)) (fun h=>show False by omega) (fun _=>show DC (xo n i) (oN v s L) (I2 n i) (aj (oN v s L) 271) from⟨rfl,rfl,rfl,rfl⟩)
theorem b5(mc:Mt [wL] B)(h0:0<=i)(h:i<(L.length:Int))(hx:cx FU (nI L) (0+i.toNat*1+0) 1=some [.int .i64 x])(hn:¬x<n)(H:qE B c (I2 n i)<|aj (oN v s L) 271):qE B c (Bi n i)<|aj (oN v s L) 271:=oC mc H (.st 2<|.rg<|.go 6<|.fk (.go 6<|.eG<|.eH [.int .i64 x]<|.go 1<|.fk .no<|.go 1<|.en<|.st 2<|.ls (xo n i) (oN v s L) 271 .no) .no)<|ax (i<(L.length:Int)) (fun _=>And.intro (show(0:Int)<=i from h0)<|ai (show i<(L.length:Int) from h)<|ai (cV (L.map aH).flatten)<|ai hx<|ax (x<n) (fun h=>show False from hn h) (fun _=>show DC (xo n i) (oN v s L) (I2 n i) (aj (oN v s L) 271) from⟨rfl,rfl,rfl,rfl⟩)) (fun h=>show False by omega)
theorem Xg(L:List Int)(lo hi:Nat)(h:lo<=hi)(h2:hi<=L.length):cx FU (nI L) (0+lo*1) ((hi - lo)*1)=some (((L.drop lo).take<|hi - lo).map aH).flatten:=by
 have e:∀l:List Int,(l.map aH).flatten=l.map (AV.int .i64):=fun l=>by
  induction l with
  |nil=>rfl
  |cons x l ih=>rw[List.map_cons,List.flatten_cons,ih];rfl
 unfold cx;rw[Cn<|eI.all L,e,e];show(match Nat.ble (0+lo*1+(hi - lo)*1) (L.map<|AV.int .i64).length with|true=>some (((L.map<|AV.int .i64).drop<|0+lo*1).take<|(hi - lo)*1)|false=>none)=_;rw[show Nat.ble (0+lo*1+(hi - lo)*1) (L.map<|AV.int .i64).length=true from aL.2 (by rw[List.length_map];omega)];show some _=_;rw[Nat.zero_add,Nat.mul_one,Nat.mul_one,List.map_take,List.map_drop]
def Bj:List<|Nat×AV:=[(4,.int .i64<|.ofNat 0)]
def o6(v s:Int)(L:List Int):List<|Nat×Option ae:=aq++[(270,some<|.cells 3 (Tr.fill [.int .i64 v,.int .i64 s,.slice (some (275,0)) L.length<|.ar L.length 1] 0 .nil) []),(275,some<|aJ aH L)]
def MY:AF:=⟨35,aP Bj,max Tryz.f35.ntmps 2,(dt 35 [1,1,1,1,1,1,1]),[],none⟩
abbrev lA(L:List Int)(i:Int):List Int:=(L.drop 0).take<|i.toNat - 0
abbrev lB(L:List Int)(i:Int):List Int:=(L.drop i.toNat).take<|L.length - i.toNat
abbrev lC(L:List Int)(n i:Int):List Int:=(([]++lA L i)++[n])++lB L i
theorem b7(mc:Mt [wL] B):qE B (c3 v s L) MY<|aj (oN v s L) 271:=oS mc (.rt 1 .no) (show MX i0 (c3 v s L) from⟨rfl,rfl⟩)
theorem b6(mc:Mt [wL] B)(hl:L.length<=100000)(h0:0<=i)(h:i<=(L.length:Int))(H:qE B c MY<|aj (oN v s<|lC L n i) 271):qE B c (I2 n i)<|aj (oN v s L) 271:=by
 have e1:(lA L i).length=i.toNat:=by rw[List.length_take,List.length_drop];omega
 have e2:(lB L i).length=L.length - i.toNat:=by rw[List.length_take,List.length_drop];omega
 have e3:(lC L n i).length<=100001:=by simp only[List.length_append,List.length_cons,List.length_nil,e1,e2];omega
 have hA:cx FU (nI L) (0+(0:Int).toNat*1) ((i.toNat - (0:Int).toNat)*1)=some ((lA L i).map aH).flatten:=Xg L 0 i.toNat (Nat.zero_le _) ah;have hB:cx FU (nI L) (0+i.toNat*1) (((Int.ofNat L.length).toNat - i.toNat)*1)=some ((lB L i).map aH).flatten:=Xg L i.toNat L.length ah<|Nat.le_refl _;exact oC mc H (.st 1<|.rg<|.go 7<|.sf 0 i<|.al Int aH [] (lA L i)<|.go 2<|.ap Int aH ([]++lA L i) n<|.go 5<|.sf i (Int.ofNat L.length)<|.al Int aH (([]++lA L i)++[n]) (lB L i)<|.go 3<|.en<|.st 2<|.rn Bj (o6 v s<|lC L n i) Bj (oN v s<|lC L n i) 276 271 .no)
  (ai (rX (0:Int))<|ai (rX i)<|ai (cV (L.map aH).flatten)<|ai (show(0:Int)<=0 from Int.le_refl _)<|ai (show(0:Int)<=i from h0) (ai (show i<=Int.ofNat L.length from h)
  (Ge aH [] (lA L i) (K:=1) (j9:=8) ⟨cV _,hA,e1.symm⟩ (fun x=>⟨rfl,rfl⟩) (by rw[e1];simp only[List.length_nil];unfold room;omega) (by rw[e1];simp only[List.length_nil];unfold top;omega)
  (wW aH ([]++lA L i) n (K:=1) (j9:=8) (fun x=>⟨rfl,rfl⟩) (by rw[List.nil_append,e1];unfold room;omega) (by rw[List.nil_append,e1];unfold top;omega)
  (ai (rX i)<|ai (rX<|Int.ofNat L.length)<|ai (cV (L.map aH).flatten)<|ai (show(0:Int)<=i from h0)<|ai (show i<=Int.ofNat L.length from h) (ai (show Int.ofNat L.length<=Int.ofNat L.length from Int.le_refl _)
  (Ge aH (([]++lA L i)++[n]) (lB L i) (K:=1) (j9:=8) ⟨cV _,hB,e2.symm⟩ (fun x=>⟨rfl,rfl⟩) (by rw[e2,List.nil_append,List.length_append,e1];simp only[List.length_cons,List.length_nil];unfold room;omega) (by rw[e2,List.nil_append,List.length_append,e1];simp only[List.length_cons,List.length_nil];unfold top;omega)
  (show(Bj.map (fun q=>some q.2)=Bj.map (fun q=>some q.2))/\((o6 v s<|lC L n i).map (fun q=>q.2)=(o6 v s<|lC L n i).map (fun q=>q.2))/\gY FU 271 276 Bj (o6 v s<|lC L n i) Bj (oN v s<|lC L n i) 271/\(MY=MY/\aj (oN v s<|lC L n i) 271=aj (oN v s<|lC L n i) 271) from
   ⟨rfl,rfl,Fe (fz:=[(275,nI<|lC L n i,((lC L n i).map aH).flatten)]) ah ah eX (fun r hr ht p hp=>by
    simp only[Bj,List.mem_cons,List.not_mem_nil,or_false] at hp;subst hp;exact⟨by show 4<top;unfold top;omega,_,mi 0,(bA.int _ _).z⟩) (fun r hr ht p hp=>by
    rcases List.mem_append.1 hp with hp|hp
    ·obtain⟨a,b⟩:=LG (fz:=[(275,nI<|lC L n i,((lC L n i).map aH).flatten)]) (fun k hk=>hr k ah) p hp;refine⟨by omega,fun y hy=>?_⟩;obtain⟨c,d⟩:=b y hy;exact⟨c,y,List.mem_append_left _ (by rw[←hy];exact hp),fm.refl _,d⟩
    ·rw[List.mem_singleton] at hp;subst hp;refine⟨by show 270<271;omega,fun y hy=>?_⟩;cases hy;exact⟨rfl,_,List.mem_append_right _ List.mem_cons_self,qM,fI.cells (l:=[.int .i64 v,.int .i64 s,.slice (some (275,0)) (lC L n i).length<|.ar (lC L n i).length 1]) (m:=c3 v s<|lC L n i) Ia ⟨(bA.int _ _).z,(bA.int _ _).z,GZ (List.mem_singleton.2 rfl) ht rfl,trivial⟩ rfl⟩) (fun p hp=>by
    rw[List.mem_singleton] at hp;subst hp;exact⟨by show 271<=275;omega,G0 eI eX 275 eX<|List.mem_append_right _<|List.mem_cons_of_mem _ List.mem_cons_self⟩),rfl,rfl⟩))))))))
theorem XY{k:Nat}(h:k<=L.length):lC L n (k:Int)=L.take k++[n]++L.drop k:=by show(([]++(L.drop 0).take ((k:Int).toNat - 0))++[n])++(L.drop (k:Int).toNat).take (L.length - (k:Int).toNat)=_;rw[Int.toNat_natCast,List.drop_zero,Nat.sub_zero,List.nil_append,List.take_of_length_le (l:=L.drop k) (by rw[List.length_drop];omega)]
theorem Xh(mc:Mt [wL] B)(hl:L.length<=100000):∀(m k:Nat),L.length - k=m->k<=L.length->qE B (c3 v s<|L.take (k+nS n (L.drop k))++[n]++L.drop (k+nS n (L.drop k))) (Bi n k) (aj (oN v s L) 271)
 |0,k,h,hk=>by
  have e:k=L.length:=by omega
  subst e;rw[List.drop_length,show nS n []=0 from rfl,Nat.add_zero];refine b4 mc ah<|b6 mc hl ah ah ?_;rw[XY<|Nat.le_refl _];exact b7 mc
 |m+1,k,h,hk=>by
  have rz:k<L.length:=by omega
  rw[List.drop_eq_getElem_cons rz,nS];by_cases q:L[k]<n
  ·rw[if_pos q,show k+(nS n (L.drop<|k+1)+1)=(k+1)+nS n (L.drop<|k+1) by omega];exact b3 mc ah ah ah (Io rz) q<|Xh mc hl m (k+1) ah ah
  ·rw[if_neg q,Nat.add_zero];refine b5 mc ah ah (Io rz) q<|b6 mc hl ah ah ?_;rw[XY hk];exact b7 mc
end
def FE:I0:=fun cs rest y c=>∃(v s n:Int) (L:List Int),cs=c3 v s L/\rest=[.int .i64 n]/\(0<=n/\n<s)/\L.length<=100000/\y= .int .i64 0/\c=c3 v s (jX L n)
theorem FE.bS(cs rest:List AV)(y y':AV)(c c':List AV)(h:FE cs rest y c)(h':FE cs rest y' c'):y=y'/\c=c':=by
 obtain⟨v,s,n,L,rfl,rfl,_,_,rfl,rfl⟩:=h;obtain⟨v',s',n',L',e,e2,_,_,rfl,rfl⟩:=h';obtain⟨rfl,rfl,rfl⟩:=Xd e;injection e2 with e2 _;injection e2 with _ e2;subst e2
 exact⟨rfl,rfl⟩
def Ab:FuncId×KE:=(35,.raw<|uP<|vO FE)
theorem ac9(hP:bC pg){L:bV}(h:aV L):aV<|Ab::L:=by
 refine Wz hP gL eX ir gZ kI kl h (af9 hP cN) Tryz.func35 (body:=aW pg 35 []) aZ aZ fun cs rest y kx e=>?_;obtain⟨v,s,n,L,rfl,rfl,hn,hl,rfl,rfl⟩:=Xc e;refine⟨aL.1 aZ,fun B mc=>?_⟩;show qE B (c3 v s<|jX L n) (Ri n)<|aj (oN v s L) 271;unfold jX;by_cases q:n∈L
 ·rw[if_pos q];exact b1 mc ah hn q
 ·rw[if_neg q];refine b2 mc ah hn q ?_;have:=Xh (v:=v) (s:=s) (n:=n) mc hl _ 0 rfl<|Nat.zero_le _;rw[List.drop_zero,Nat.zero_add] at this;exact this
theorem aga(L:List Int)(n:Int):(jX L n).length<=L.length+1:=by
 unfold jX;split
 ·omega
 ·have:=Xf (n:=n) L;rw[List.length_append,List.length_append,List.length_take,List.length_drop];simp only[List.length_cons,List.length_nil];omega
end
end Av
end
section
open Go Go.Rn Go.RowKit Go.Proofs
namespace LH
open cr fQ kK CU Av
variable {T:Prop}
noncomputable section
def xp(r:List Int)(i:Int):List<|Nat×AV:=[(1,aD aH r),(6,.ptr<|some (270,0)),(8,.int .i64 i)]
def KT:List Item:=[.code<|aW pg 13 [1,1,1,0,1,0,0],.inLoop<|aW pg 13 [1,1,1,0,1,0,0],.inBlock 0,.code<|aW pg 13 [1,1,1,1]]
def nO(r:List Int)(i:Int):AF:=⟨13,aP<|xp r i,max Tryz.f13.ntmps 2,KT,[],none⟩
abbrev oZ(s:Int):List<|Nat×Option ae:=aq++[(270,some<|.cells 3 (Tr.fill [.int .i64 0,.int .i64 s,.slice none 0<|.known 0] 0 .nil) [])]
abbrev Bk(B:aI)(y:AV)(fr:AF)(s:AS):Prop:=av pg B 270 (Fin pg (aA Tryz.f13) fun v _=>v=y) fr s
section
variable {B:aI} {s i x:Int} {L r:List Int} {y:AV}
theorem cT(mc:Mt [Ab] B){t:Tr AV}{K:List Item}{z:AS}{F:AF}{S:AS}(H:Bk B y F S)(p:Pl)(x:T)(h:T=wp (en [Ab]) 900 6 (.fr 13 (max Tryz.f13.ntmps 2) K t z) p (aA Tryz.f13) (fun v _ _=>v=y) (fun fr s1 _=>fr=F/\s1=S):=by as_aux_lemma=>kernel_rfl)(h0:Nat.ble 270 z.nx=true:=by as_aux_lemma=>kernel_rfl):Bk B y ⟨13,t,max Tryz.f13.ntmps 2,K,[],none⟩ z:=wC mc (C:=fun fr s1 _=>fr=F/\s1=S) (fun fr s1 _ hC=>by obtain⟨rfl,rfl⟩:=hC;exact H) p x h h0
theorem t0(mc:Mt [Ab] B)(hs:1<=s/\s<=32)(H:Bk B y (nO r 0)<|aj (oN 0 s []) 271):Bk B y (sF 13 Tryz.f13 [.int .i64 s,aD aH r])<|aj aq 270:=
 cT mc H (.st 3<|.rg<|.go 1<|.il<|.st 4<|.rg<|.go 8<|.fk .no<|.go 3<|.fk .no<|.go 1<|.en<|.rt 5<|.go 5<|.en<|.st 10<|.rn (xp r 0) (oZ s) (xp r 0) (oN 0 s []) 271 271 .no)
  (ax (s<1) (fun h=>show False by omega) fun _=>ax (s>32) (fun h=>show False by omega) (fun _=>show((xp r 0).map (fun q=>some q.2)=(xp r 0).map (fun q=>some q.2))/\((oZ s).map (fun q=>q.2)=(oZ s).map (fun q=>q.2))/\gY FU 270 271 (xp r 0) (oZ s) (xp r 0) (oN 0 s []) 271/\(nO r 0=nO r 0/\aj (oN 0 s []) 271=aj (oN 0 s []) 271) from
   ⟨rfl,rfl,Fe (fz:=[]) ah ah eX (fun f hr ht p hp=>by
    simp only[xp,List.mem_cons,List.not_mem_nil,or_false] at hp;rcases hp with rfl|rfl|rfl
    ·exact⟨by show 1<top;unfold top;omega,_,mi 0,aeY ht⟩
    ·exact⟨by show 6<top;unfold top;omega,_,mi 1,(bA.ptr<|hr 270 ah).z⟩
    ·exact⟨by show 8<top;unfold top;omega,_,mi 2,(bA.int _ _).z⟩) (fun f hr ht p hp=>by
    rcases List.mem_append.1 hp with hp|hp
    ·obtain⟨a,b⟩:=LG (fz:=[]) (fun k hk=>hr k ah) p hp;refine⟨by omega,fun y hy=>?_⟩;obtain⟨c,d⟩:=b y hy;exact⟨c,y,List.mem_append_left _ (by rw[←hy];exact hp),fm.refl _,d⟩
    ·rw[List.mem_singleton] at hp;subst hp;refine⟨by show 270<271;omega,fun y hy=>?_⟩;cases hy;exact⟨rfl,_,List.mem_append_right _ List.mem_cons_self,qM,fI.cells (l:=[.int .i64 0,.int .i64 s,.slice none 0<|.known 0]) (m:=c3 0 s []) Ia ⟨(bA.int _ _).z,(bA.int _ _).z,Ka,trivial⟩ rfl⟩) (fun p hp=>by cases hp),rfl,rfl⟩))
theorem tE(mc:Mt [Ab] B)(h:(r.length:Int)<=i):Bk B (.tuple [aD aH L,.bool true]) (nO r i)<|aj (oN 0 s L) 271:=wS mc (R:=fun v _=>v= .tuple [aD aH L,.bool true]) (.st 2<|.rg<|.go 3<|.fk .no<|.en<|.rt 5 .no)<|ax (i<(r.length:Int)) (fun h=>show False by omega) (fun _=>show AV.tuple [aD aH L,.bool true]= .tuple [aD aH L,.bool true] from rfl)
theorem nf{n:Int}(hl:L.length<=10000)(hn:0<=n/\n<s)(t:T):
 (∀z,oQ (c3 0 s L) z->bh pg (sp [Ab]) FU 6 (.fn 35) [.ptr<|some (270,0),.int .i64 n] z= .ok (.int .i64 0) (oG (c3 0 s<|jX L n) z))/\(true=true/\true=true/\some (bu<|c3 0 s L)=some (bu<|c3 0 s L))/\T:=
 ⟨Xb (n:=5) (val:=vO FE) cC rfl L9 Ia Yt (XX FE.bS ⟨0,s,n,L,rfl,rfl,hn,by omega,rfl,rfl⟩) (by show(true&&((true&&(true&&(Nat.ble top (nI<|jX L n)&&true)))&&Nat.ble 3 top))=true;rw[aL.2<|cV _,aL.2 (show 3<=top by unfold top;omega)];rfl),⟨rfl,rfl,rfl⟩,t⟩
theorem tN(mc:Mt [Ab] B)(hr:r.length<=100000)(hl:L.length<=10000)(h0:0<=i)(h:i<(r.length:Int))(hx:cx FU (nI r) (0+i.toNat*1+0) 1=some [.int .i64 x])(hn:0<=x/\x<s)(H:Bk B y (nO r<|i+1)<|aj (oN 0 s<|jX L x) 271):Bk B y (nO r i)<|aj (oN 0 s L) 271:=cT mc H (.st 2<|.rg<|.go 3<|.fk (.en<|.st 5<|.rg<|.go 3<|.eG<|.eH [.int .i64 x]<|.cg (.int .i64 0) (oG<|c3 0 s<|jX L x) (oQ<|c3 0 s L)<|.go 1<|.en<|.st 3<|.rg<|.go 1<|.vl (i6<|i+1)<|.go 1<|.en<|.st 1<|.ls (xp r<|i+1) (oN 0 s<|jX L x) 271 .no) .no)<|ax (i<(r.length:Int)) (fun _=>And.intro (show(0:Int)<=i from h0)<|ai (show i<(r.length:Int) from h)<|ai (cV (r.map aH).flatten)<|ai hx<|nf (s:=s) (L:=L) (n:=x) hl hn<|ai (congrArg (AV.int .i64) (show IntKind.wrap .i64 (i+1)=i+1 from Bo ah)) (show DC (xp r<|i+1) (oN 0 s<|jX L x) (nO r<|i+1) (aj (oN 0 s<|jX L x) 271) from⟨rfl,rfl,rfl,rfl⟩)) (fun h=>show False by omega)
theorem Xi(mc:Mt [Ab] B)(hr:r.length<=5000)(hs:∀x∈r,0<=x/\x<s):∀(m k:Nat) (L:List Int),r.length - k=m->L.length<=k->k<=r.length->Bk B (.tuple [aD aH<|(r.drop k).foldl jX L,.bool true]) (nO r k) (aj (oN 0 s L) 271)
 |0,k,L,h,hl,hk=>by rw[List.drop_of_length_le ah];exact tE mc ah
 |m+1,k,L,h,hl,hk=>by
  have rz:k<r.length:=by omega
  rw[List.drop_eq_getElem_cons rz,List.foldl_cons];have:=aga L r[k];exact tN mc ah ah ah ah (Io rz) (hs _<|List.getElem_mem rz)<|Xi mc hr hs m (k+1) _ ah ah ah
end
def Ei(args:List AV)(v:AV):Prop:=∃(s:Int) (r:List Int),args=[.int .i64 s,aD aH r]/\(1<=s/\s<=32)/\(∀x∈r,0<=x/\x<s)/\r.length<=5000/\v= .tuple [aD aH<|r.foldl jX [],.bool true]
theorem Ei.bS(args:List AV)(v v':AV)(h:Ei args v)(h':Ei args v'):v=v':=by
 obtain⟨s,r,rfl,_,_,_,rfl⟩:=h;obtain⟨s',r',e,_,_,_,rfl⟩:=h';injection e with e1 e;injection e with e2 _
 have e:dj aH 1 (aD aH r) r':=by rw[e2];exact dj.aD eI r'
 rw[dj.inj rW (dj.aD eI r) e]
def XZ:FuncId×KE:=(13,.val<|aY Ei)
theorem aes(hP:bC pg){L:bV}(h:aV L):aV<|XZ::L:=by refine g9 hP h (ac9 hP cN) Tryz.func13 fun args v e=>?_;obtain⟨s,r,rfl,hs,hr,hl,rfl⟩:=gf e;refine⟨aL.1 aZ,fun B mc=>?_⟩;rw[←gN];exact t0 mc hs<|Xi mc hl hr _ 0 [] rfl (Nat.zero_le _)<|Nat.zero_le _
end
end LH
end
section
open Go Go.Rn Go.RowKit Go.Proofs
namespace FF
open cr
noncomputable section
def KI:List Item:=[.code<|aW pg 14 [1,1,0,1,0,0],.inLoop<|aW pg 14 [1,1,0,1,0,0],.inBlock 0,.code<|aW pg 14 [1,1,1]]
abbrev Gj:Nat:=max Tryz.f14.ntmps 2
def pJ(A C L:Nat)(i:Int):List<|Nat×AV:=[(0,.ab A 0 L),(1,.ab C 0 L),(5,.int .i64 i)]
def pL(A C L:Nat)(i:Int):AF:=⟨14,aP<|pJ A C L i,Gj,KI,[],none⟩
abbrev vh(B:aI)(b:Bool)(fr:AF)(s:AS):Prop:=av pg B 270 (Fin pg (aA Tryz.f14) fun y _=>y= .bool b) fr s
abbrev ZZ(A C L:Nat)(i:Int):Prop:=((pJ A C L i).map (fun q=>some q.2)=(pJ A C L i).map (fun q=>some q.2))/\(aq.map (fun q=>q.2)=aq.map (fun q=>q.2))/\(pL A C L i=pL A C L i/\aj aq 270=aj aq 270)
section
variable {B:aI} {b:Bool} {A C L:Nat} {i x y:Int}
theorem cI(mc:Mt [] B){t:Tr AV}{K:List Item}(H:vh B b (pL A C L i)<|aj aq 270)(p:Pl){T:Prop}(z:T)(h:T=wp (en []) 900 6 (.fr 14 Gj K t<|aj aq 270) p (aA Tryz.f14) (fun y _ _=>y= .bool b) (fun fr s1 _=>fr=pL A C L i/\s1=aj aq 270):=by as_aux_lemma=>kernel_rfl):vh B b ⟨14,t,Gj,K,[],none⟩<|aj aq 270:=wC mc (L:=[]) (C:=fun fr s1 _=>fr=pL A C L i/\s1=aj aq 270) (fun fr s1 _ hC=>by obtain⟨rfl,rfl⟩:=hC;exact H) p z h cn
theorem s0(mc:Mt [] B)(H:vh B b (pL A C L 0)<|aj aq 270):vh B b ⟨14,eg [.ab A 0 L,.ab C 0 L],Gj,(dt 14 []),[],none⟩<|aj aq 270:=cI mc H (.st 4<|.rg<|.go 4<|.fk .no<|.en<|.st 7<|.ls (pJ A C L 0) aq 270 .no)<|ax ((L:Int)≠(L:Int)) (fun h=>show False from h rfl) (fun _=>show ZZ A C L 0 from⟨rfl,rfl,rfl,rfl⟩)
theorem sN{L':Nat}(mc:Mt [] B)(hn:L≠L'):vh B false ⟨14,eg [.ab A 0 L,.ab C 0 L'],Gj,(dt 14 []),[],none⟩<|aj aq 270:=wS mc (L:=[]) (R:=fun y _=>y= .bool false) (.st 4<|.rg<|.go 4<|.fk (.en<|.rt 5 .no) .no) (ax ((L:Int)≠(L':Int)) (fun _=>show(AV.bool false)= .bool false from rfl) (fun h=>show False by omega)) cn cn
theorem stp(mc:Mt [] B)(hA:top<=A)(hC:top<=C)(hL:L<=1000000)(h0:0<=i)(h1:i<(L:Int))(hx:cx FU A (0+i.toNat*1+0) 1=some [.int .i64 x])(hy:cx FU C (0+i.toNat*1+0) 1=some [.int .i64 x])(H:vh B b (pL A C L<|i+1)<|aj aq 270):vh B b (pL A C L i)<|aj aq 270:=cI mc H (.st 2<|.rg<|.go 3<|.fk (.en<|.st 5<|.rg<|.go 2<|.eG<|.eH [.int .i64 x]<|.go 2<|.eG<|.eH [.int .i64 x]<|.fk .no<|.en<|.st 3<|.rg<|.go 1<|.vl (i6<|i+1)<|.go 1<|.en<|.st 1<|.ls (pJ A C L<|i+1) aq 270 .no) .no)<|ax (i<(L:Int)) (fun _=>And.intro (show(0:Int)<=i from h0)<|ai (show i<(L:Int) from h1)<|ai hA<|ai hx<|ai (show(0:Int)<=i from h0)<|ai (show i<(L:Int) from h1)<|ai hC<|ai hy<|ax (x≠x) (fun h=>show False from h rfl) fun _=>And.intro (congrArg (AV.int .i64) (show IntKind.wrap .i64 (i+1)=i+1 from Bo ah)) (show ZZ A C L (i+1) from⟨rfl,rfl,rfl,rfl⟩)) (fun h=>show False from h h1)
theorem stN(mc:Mt [] B)(hA:top<=A)(hC:top<=C)(h0:0<=i)(h1:i<(L:Int))(hx:cx FU A (0+i.toNat*1+0) 1=some [.int .i64 x])(hy:cx FU C (0+i.toNat*1+0) 1=some [.int .i64 y])(cz:x≠y):vh B false (pL A C L i)<|aj aq 270:=wS mc (L:=[]) (R:=fun y _=>y= .bool false) (.st 2<|.rg<|.go 3<|.fk (.en<|.st 5<|.rg<|.go 2<|.eG<|.eH [.int .i64 x]<|.go 2<|.eG<|.eH [.int .i64 y]<|.fk (.en<|.rt 4 .no) .no) .no) (ax (i<(L:Int)) (fun _=>And.intro (show(0:Int)<=i from h0)<|ai (show i<(L:Int) from h1)<|ai hA<|ai hx<|ai (show(0:Int)<=i from h0)<|ai (show i<(L:Int) from h1)<|ai hC<|ai hy<|ax (x≠y) (fun _=>show(AV.bool false)= .bool false from rfl) (fun h=>show False from h cz)) (fun h=>show False from h h1)) cn cn
theorem sE(mc:Mt [] B)(h1:(L:Int)<=i):vh B true (pL A C L i)<|aj aq 270:=wS mc (L:=[]) (R:=fun y _=>y= .bool true) (.st 2<|.rg<|.go 3<|.fk .no<|.en<|.rt 5 .no) (ax (i<(L:Int)) (fun h=>show False by omega) (fun _=>show(AV.bool true)= .bool true from rfl)) cn cn
end
def Ff(args:List AV)(v:AV):Prop:=∃l m:List Int,args=[aD aH l,aD aH m]/\l.length<=1000000/\v= .bool (decide<|l=m)
theorem Vv{l m:List Int}(h:aD aH l=aD aH m):l=m:=by
 have e:dj aH 1 (aD aH l) m:=by rw[h];exact dj.aD eI m
 exact dj.inj rW (dj.aD eI l) e
theorem Ff.bS(args:List AV)(v v':AV)(h:Ff args v)(h':Ff args v'):v=v':=by
 obtain⟨l,m,rfl,_,rfl⟩:=h;obtain⟨l',m',e,_,rfl⟩:=h';injection e with e1 e;injection e with e2 _
 rw[Vv e1,Vv e2]
def X0:FuncId×KE:=(14,.val<|aY Ff)
theorem aet(hP:bC pg){L:bV}(h:aV L):aV<|X0::L:=by
 refine g9 hP h cN Tryz.func14 fun args v e=>?_;obtain⟨l,m,rfl,hl,rfl⟩:=gf e;refine⟨aL.1 aZ,fun B mc=>?_⟩;rw[←gN];by_cases hn:l.length=m.length
 ·have key:∀(n i:Nat),l.length - i=n->i<=l.length->l.take i=m.take i->vh B (decide<|l=m) (pL (nm (l.map aH).flatten) (nm (m.map aH).flatten) l.length i) (aj aq 270):=by
   intro n;induction n with
   |zero=>
    intro i h1 h2 h3;have:l=m:=by rw[List.take_of_length_le ah,List.take_of_length_le ah] at h3;exact h3
    rw[decide_eq_true this];exact sE mc ah
   |succ n ih=>
    intro i h1 h2 h3;have hi:i<l.length:=by omega
    have hx:=yc eI (List.getElem?_eq_getElem hi) 0 1 ah;have hy:=yc eI (List.getElem?_eq_getElem (show i<m.length by omega)) 0 1 ah;have ei:0+(i:Int).toNat*1+0=i*1+0:=by omega
    rw[←ei] at hx hy;by_cases q:l[i]=m[i]'ah
    ·rw[←q] at hy;have:=ih (i+1) ah ah (by rw[List.take_add_one,List.take_add_one,h3,List.getElem?_eq_getElem hi,List.getElem?_eq_getElem (show i<m.length by omega),q]);rw[show(((i+1:Nat)):Int)=(i:Int)+1 by omega] at this;exact stp mc (cV _) (cV _) hl ah ah hx hy this
    ·have:l≠m:=fun e=>q (by subst e;rfl);rw[decide_eq_false this];exact stN mc (cV _) (cV _) ah ah hx hy q
  have:=s0 mc<|key _ 0 rfl (Nat.zero_le _) rfl;show vh B (decide<|l=m) ⟨14,eg [.ab (nm (l.map aH).flatten) 0 l.length,.ab (nm (m.map aH).flatten) 0 m.length],Gj,(dt 14 []),[],none⟩<|aj aq 270;rw[←hn];exact this
 ·have:l≠m:=fun e=>hn (by rw[e]);rw[decide_eq_false this];exact sN mc hn
end
end FF
end
section
open Go Go.Rn Go.RowKit Go.Proofs
namespace FG
open cr fQ kK A9 AO Av
variable {s:AS} {T:Prop} {t:Tr AV} {nt f:Nat} {K:List Item}
noncomputable section
abbrev fp(L:bV):Env:=wA pg 270 eC dW L 270 false
abbrev bx(v:AV):Option ae:=some<|.cells 1 (Tr.fill [v] 0 .nil) []
abbrev kZ:AV:=.slice none 0<|.known 0
def zt:Code:=aW pg 82 [1,0,1,0,0]
def lV:Code:=aW pg 82 [1,0,1,0,1]
def xr:AV:=.func (.func 83) [] [.ptr<|some (271,0)]
def DD:List<|Nat×AV:=[(0,kZ),(1,xr),(2,.ptr<|some (272,0)),(4,kZ),(6,xr)]
def KI:List Item:=[.inBlock 0,.code<|aW pg 82 [1,1]]
def iq(st:LoopState)(p:Option Code):ae:=.loop st p 82 (aP DD) 13 [7] zt lV 273
def xu(l:List Int):Nat->AV
 |0=>kZ
 |j+1=>.slice (some (276+2*j,0)) l.length<|.ar l.length 1
def Z0(l:List Int)(b:Nat->Option ae):Nat->List (Nat×Option ae)
 |0=>[]
 |j+1=>((List.range<|2*j+1).map fun k=>(275+k,b k))++[(276+2*j,some<|aJ aH l)]
def oR(a:dO)(l:List Int)(b:Nat->Option ae)(j:Nat)(lo:ae):List<|Nat×Option ae:=aq++([(270,some<|kJ a),(271,bx<|.ptr<|some (270,0)),(272,bx<|xu l j),(273,some .defs),(274,some lo)]++Z0 l b j)
abbrev sR(a:dO)(l:List Int)(b:Nat->Option ae)(j:Nat)(lo:ae):AS:=aj (oR a l b j lo)<|275+2*j
def uN(b:Nat->Option ae)(j:Nat)(o:Option ae)(k:Nat):Option ae:=match Nat.beq k j with
 |true=>o
 |false=>b k
def nb(l:List Int)(b:Nat->Option ae)(x:Int):Nat->Nat->Option ae
 |0=>uN b 0<|bx<|.int .i64 x
 |j+1=>uN (uN b (2*j+1) none) (2*j+2)<|bx<|.int .i64 x
abbrev Gk(x:Int):Tr AV:=aP [(0,kZ),(1,xr),(2,.ptr<|some (272,0)),(4,kZ),(5,.int .i64 x),(6,xr),(7,.int .i64 x)]
def Sy(P:Nat->Prop):Nat->Prop
 |0=>True
 |n+1=>Sy P n/\P n
theorem MZ{P:Nat->Prop}:∀{n:Nat},Sy P n->∀{j:Nat},j<n->P j
 |n+1,h,j,hj=>if e:j=n then e▸h.2 else MZ h.1 ah
theorem kc{c j:Nat}{P:Nat->Nat->Prop}(hj:j<=32)(hc:c=1\/c=0/\j=0)(h1:Sy (P 1) 33)(h0:P 0 0):P c j:=by
 rcases hc with rfl|⟨rfl,rfl⟩
 ·exact MZ h1 ah
 ·exact h0
section
variable {a:dO} {l:List Int} {b:Nat->Option ae} {x:Int}
abbrev CV(a:dO)(l:List Int)(b:Nat->Option ae)(j:Nat)(x:Int):Prop:=bh pg (sp []) FU 3 (.round 274) [.int .i64 x] (sR a l b j<|iq .ready none)= .ok (.bool true) (sR a (l++[x]) (nb l b x j) (j+1)<|iq .ready none)
abbrev Z1(a:dO)(l:List Int)(b:Nat->Option ae)(j:Nat)(x:Int):Prop:=(none:Option Nat)=none/\([]:List Nat)=[]/\(some (.bool true,sR a (l++[x]) (nb l b x j) (j+1)<|iq .ready none):Option<|AV×AS)=some (.bool true,sR a (l++[x]) (nb l b x j) (j+1)<|iq .ready none)
theorem Mh(j:Nat)(pl:Pl)(t:T)(k1:getLoop 274 (sR a l b j<|iq .ready none)= .ok (.loop .ready none 82 (aP DD) 13 [7] zt lV 273) (sR a l b j<|iq .ready none):=by as_aux_lemma=>kernel_rfl)(k2:((⟨82,Gk x,13,[.beginRound,.code lV],[],none⟩:AF)=⟨82,Gk x,13,[.beginRound,.code lV],[],none⟩/\sR a l b j (iq .ready none)=sR a l b j (iq .ready none))=
 wp (fp []) 900 2 (.fr 82 13 [.code zt,.beginRound,.code lV] (je [7] [.int .i64 x]<|aP DD)<|sR a l b j<|iq .ready none) (.st 1<|.cut .no) [] (fun _ _ _=>False) (fun fr s1 _=>fr=⟨82,Gk x,13,[.beginRound,.code lV],[],none⟩/\s1=sR a l b j (iq .ready none)):=by as_aux_lemma=>kernel_rfl)(k3:eh pg (bh pg (sp []) FU 2) 1 ⟨82,Gk x,13,[.beginRound,.code lV],[],some 274⟩ (sR a l b j<|iq .ready none)= .ok (.go ⟨82,Gk x,13,[.code lV],[],some 274⟩) (sR a l b j<|iq .busy none):=by as_aux_lemma=>kernel_rfl)(k4:T=wp (fp []) 900 2 (.fr 82 13 [.code lV] (Gk x)<|sR a l b j<|iq .busy none) pl [] (fun _ _ _=>False) (fun fr s1 _=>fr.round=none/\fr.defers=[]/\zO pg (bh pg (sp []) FU 2) 274 fr s1=some (.bool true,sR a (l++[x]) (nb l b x j) (j+1)<|iq .ready none)):=by as_aux_lemma=>kernel_rfl):CV a l b j x:=
 DO k1 rfl (zH (E:=fp []) eJ rfl (fun fr s p h=>by obtain⟨rfl,rfl⟩:=h;exact⟨rfl,rfl,Chunk.ev 1 _ _ _ _ k3<|zH (E:=fp []) eJ rfl (fun fr s p h=>DN h.1 h.2.1 h.2.2) 900 pl t k4⟩) 900 _ ⟨rfl,rfl⟩ k2)
theorem akN(hl:l=[]):CV a l b 0 x:=by subst hl;exact Mh 0 (.st 1<|.rg<|.go 5<|.en<|.cut .no) (show Z1 a [] b 0 x from⟨rfl,rfl,rfl⟩)
theorem akO{j:Nat}(hj:j<32)(hl:l.length<=100):CV a l b (j+1) x:=by
 have TT:=wW aH l x (K:=1) (j9:=8) (fun x=>⟨rfl,rfl⟩) (by unfold room;omega) eX (show Z1 a l b (j+1) x from⟨rfl,rfl,rfl⟩);rcases(by omega:j=0\/j=1\/j=2\/j=3\/j=4\/j=5\/j=6\/j=7\/j=8\/j=9\/j=10\/j=11\/j=12\/j=13\/j=14\/j=15\/j=16\/j=17\/j=18\/j=19\/j=20\/j=21\/j=22\/j=23\/j=24\/j=25\/j=26\/j=27\/j=28\/j=29\/j=30\/j=31) with rfl|rfl|rfl|rfl|rfl|rfl|rfl|rfl|rfl|rfl|rfl|rfl|rfl|rfl|rfl|rfl|rfl|rfl|rfl|rfl|rfl|rfl|rfl|rfl|rfl|rfl|rfl|rfl|rfl|rfl|rfl|rfl
 all_goals exact Mh _ (.st 1<|.rg<|.go 3<|.ap Int aH l x<|.go 1<|.en<|.cut .no) TT aZ aZ aZ aZ
theorem OU{j:Nat}(hj:j<=32)(hl:l.length=j):CV a l b j x:=by
 cases j with
 |zero=>exact akN<|List.eq_nil_of_length_eq_zero hl
 |succ j=>exact akO ah ah
def tk:List Nat:=[3,5,6,7,8,9,10,11,12,13,14,15,16]
def fJ(c:Nat)(i:Int)(d:Nat->AV):List<|Nat×AV:=[(0,.yield 274),(1,.ptr<|some (271,0)),(4,.int .i64 i)]++(match c with
 |0=>[]
 |_=>tk.map fun k=>(k,d k))
abbrev fX(c:Nat)(i:Int)(d:Nat->AV):AF:=⟨83,aP<|fJ c i d,17,[.code<|aW pg 83 [1,0,0],.inLoop<|aW pg 83 [1,0,0],.inBlock 0],[],none⟩
abbrev RJ(R:AS->Prop)(v:AV)(s:AS):Prop:=v= .tuple []/\R s
abbrev fW(R:AS->Prop)(fr:AF)(s:AS):Prop:=mT (fp []) 3 (aA Tryz.f83) (RJ R) fr s
def dT(i:Int)(k:Nat):AV:=[.bool true,.bool true,.bool true,.int .i64 i,.bool true,.bool true,.int .i64 i,.ptr<|some (270,0),.int .i64 i,.bool true,.bool true,.yield 274,.int .i64 i,.bool true,.bool false,.bool false,.int .i64<|i+1].getD k<|.bool true
def dF(i:Int)(k:Nat):AV:=[.bool true,.bool true,.bool true,.int .i64 i,.bool true,.bool true,.int .i64 i,.ptr<|some (270,0),.int .i64 i,.bool false,.bool false,nq,nq,nq,nq,.bool false,.int .i64<|i+1].getD k<|.bool true
section
variable {R:AS->Prop} {i:Int} {d:Nat->AV} {c j:Nat}
theorem Dv{FR:AF}{S1:AS}(H:fW R FR S1)(p:Pl)(x:T)(h:T=wp (fp []) 900 3 (.fr f nt K t s) p (aA Tryz.f83) (fun v s _=>RJ R v s) (fun fr s1 _=>fr=FR/\s1=S1):=by as_aux_lemma=>kernel_rfl):fW R ⟨f,t,nt,K,[],none⟩ s:=wc (C:=fun fr s1 _=>fr=FR/\s1=S1) eJ rfl (fun fr s1 p h=>by obtain⟨rfl,rfl⟩:=h;exact H) 900 p x h
theorem MR(p:Pl)(x:T)(h:T=wp (fp []) 900 3 (.fr f nt K t s) p (aA Tryz.f83) (fun v s _=>RJ R v s) (fun _ _ _=>False):=by as_aux_lemma=>kernel_rfl):fW R ⟨f,t,nt,K,[],none⟩ s:=wc (C:=fun _ _ _=>False) eJ rfl (fun _ _ _ h=>h.elim) 900 p x h
abbrev sG(a:dO)(l:List Int)(b:Nat->Option ae)(j:Nat):AS:=sR a l b j<|iq .ready none
abbrev M3(fr:AF)(s:AS):Prop:=fr=fr/\s=s
theorem MS(hi:32<=i)(hR:R<|sG a l b j)(k:((i<32->False)/\(¬i<32->RJ R (.tuple []) (sG a l b j)))=wp (fp []) 900 3 (.fr 83 17 (fX c i d).todo (fX c i d).tmps<|sG a l b j) (.st 1<|.rg<|.fk .no<|.en<|.rt 4 .no) (aA Tryz.f83) (fun v s _=>RJ R v s) (fun _ _ _=>False):=by as_aux_lemma=>kernel_rfl):fW R (fX c i d)<|sG a l b j:=MR _ ⟨fun h=>by omega,fun _=>⟨rfl,hR⟩⟩ k
def Sz(p q:Pl):Pl:=.st 1<|.rg<|.fk (.en<|.st 8<|.rg<|.go 2<|.il<|.st 3<|.rg<|.go 4<|.fk (.go 6 p) q) .no
theorem MT(ha:iS a)(hi:0<=i/\i<32)(hs:i<a.fG)(hb:hasB a i=true)(hr:CV a l b j i)(H:fW R (fX 1 (i+1)<|dT i)<|sG a (l++[i]) (nb l b i j)<|j+1)(k:((i<32->((i>=0->(cellsOf (some<|kJ a) 1 1=some [.int .i64 a.fG]/\((i<a.fG->((0:Int)<=i/\i<Int.ofNat 32/\cellsOf (some<|kJ a) (2+i.toNat*1) 1=some [.bool true]/\(CV a l b j i/\(AV.int .i64 (IntKind.wrap .i64<|i+1)= .int .i64 (i+1)/\M3 (fX 1 (i+1)<|dT i) (sG a (l++[i]) (nb l b i j)<|j+1)))))/\(¬i<a.fG->False))))/\(¬i>=0->False)))/\(¬i<32->False))=
 wp (fp []) 900 3 (.fr 83 17 (fX c i d).todo (fX c i d).tmps<|sG a l b j) (Sz (.ld [.int .i64 a.fG]<|.fk (.go 6<|.De<|.ld [.bool true]<|.go 2<|.en<|.rt 1<|.go 3<|.cy (.bool true) (sG a (l++[i]) (nb l b i j)<|j+1)<|.go 2<|.en<|.st 3<|.rg<|.vl (i6<|i+1)<|.go 1<|.en<|.st 1<|.cut .no) .no) .no) (aA Tryz.f83) (fun v s _=>RJ R v s) (fun fr s1 _=>fr=fX 1 (i+1) (dT i)/\s1=sG a (l++[i]) (nb l b i j) (j+1)):=by as_aux_lemma=>kernel_rfl):fW R (fX c i d)<|sG a l b j:=
 Dv H _ ⟨fun _=>⟨fun _=>⟨ky (xK ha) rfl,fun _=>⟨hi.1,hi.2,by rw[Nat.mul_one];exact ky (xK ha) (by rw[ON ha hi.1 hi.2,hb]),hr,wI _,rfl,rfl⟩,fun h=>h hs⟩,fun h=>h hi.1⟩,fun h=>h hi.2⟩ k
theorem MU(ha:iS a)(hi:0<=i/\i<32)(hs:i<a.fG)(hb:hasB a i=false)(H:fW R (fX 1 (i+1)<|dF i)<|sG a l b j)(k:((i<32->((i>=0->(cellsOf (some<|kJ a) 1 1=some [.int .i64 a.fG]/\((i<a.fG->((0:Int)<=i/\i<Int.ofNat 32/\cellsOf (some<|kJ a) (2+i.toNat*1) 1=some [.bool false]/\(AV.int .i64 (IntKind.wrap .i64<|i+1)= .int .i64 (i+1)/\M3 (fX 1 (i+1)<|dF i) (sG a l b j))))/\(¬i<a.fG->False))))/\(¬i>=0->False)))/\(¬i<32->False))=
 wp (fp []) 900 3 (.fr 83 17 (fX c i d).todo (fX c i d).tmps<|sG a l b j) (Sz (.ld [.int .i64 a.fG]<|.fk (.go 6<|.De<|.ld [.bool false]<|.go 2<|.en<|.rt 1<|.go 6<|.en<|.st 3<|.rg<|.vl (i6<|i+1)<|.go 1<|.en<|.st 1<|.cut .no) .no) .no) (aA Tryz.f83) (fun v s _=>RJ R v s) (fun fr s1 _=>fr=fX 1 (i+1) (dF i)/\s1=sG a l b j):=by as_aux_lemma=>kernel_rfl):fW R (fX c i d)<|sG a l b j:=
 Dv H _ ⟨fun _=>⟨fun _=>⟨ky (xK ha) rfl,fun _=>⟨hi.1,hi.2,by rw[Nat.mul_one];exact ky (xK ha) (by rw[ON ha hi.1 hi.2,hb]),wI _,rfl,rfl⟩,fun h=>h hs⟩,fun h=>h hi.1⟩,fun h=>h hi.2⟩ k
theorem Z2(ha:iS a)(hi:0<=i/\i<32)(hs:a.fG<=i)(H:fW R (fX 1 (i+1)<|dF i)<|sG a l b j)(k:((i<32->((i>=0->(cellsOf (some<|kJ a) 1 1=some [.int .i64 a.fG]/\((i<a.fG->False)/\(¬i<a.fG->(AV.int .i64 (IntKind.wrap .i64<|i+1)= .int .i64 (i+1)/\M3 (fX 1 (i+1)<|dF i) (sG a l b j))))))/\(¬i>=0->False)))/\(¬i<32->False))=
 wp (fp []) 900 3 (.fr 83 17 (fX c i d).todo (fX c i d).tmps<|sG a l b j) (Sz (.ld [.int .i64 a.fG]<|.fk .no<|.go 10<|.en<|.rt 1<|.go 6<|.en<|.st 3<|.rg<|.vl (i6<|i+1)<|.go 1<|.en<|.st 1<|.cut .no) .no) (aA Tryz.f83) (fun v s _=>RJ R v s) (fun fr s1 _=>fr=fX 1 (i+1) (dF i)/\s1=sG a l b j):=by as_aux_lemma=>kernel_rfl):fW R (fX c i d)<|sG a l b j:=
 Dv H _ ⟨fun _=>⟨fun _=>⟨ky (xK ha) rfl,(fun h=>by omega),fun _=>⟨wI _,rfl,rfl⟩⟩,fun h=>h hi.1⟩,fun h=>h hi.2⟩ k
theorem kE(hj:j<=32)(hc:c=1\/c=0/\j=0)(hi:32<=i)(hR:R<|sG a l b j):fW R (fX c i d)<|sG a l b j:=kc (P:=fun c j=>R (sG a l b j)->fW R (fX c i d) (sG a l b j)) hj hc (by repeat' first|exact trivial|exact(fun hR=>MS hi hR)|refine And.intro ?_ ?_) (fun hR=>MS hi hR) hR
theorem kT(hj:j<=32)(hc:c=1\/c=0/\j=0)(hl:l.length=j)(ha:iS a)(hi:0<=i/\i<32)(hs:i<a.fG)(hb:hasB a i=true)(H:fW R (fX 1 (i+1)<|dT i)<|sG a (l++[i]) (nb l b i j)<|j+1):fW R (fX c i d)<|sG a l b j:=kc (P:=fun c j=>CV a l b j i->fW R (fX 1 (i+1)<|dT i) (sG a (l++[i]) (nb l b i j)<|j+1)->fW R (fX c i d) (sG a l b j)) hj hc (by repeat' first|exact trivial|exact(fun hr H=>MT ha hi hs hb hr H)|refine And.intro ?_ ?_) (fun hr H=>MT ha hi hs hb hr H) (OU hj hl) H
theorem kF(hj:j<=32)(hc:c=1\/c=0/\j=0)(ha:iS a)(hi:0<=i/\i<32)(hs:i<a.fG)(hb:hasB a i=false)(H:fW R (fX 1 (i+1)<|dF i)<|sG a l b j):fW R (fX c i d)<|sG a l b j:=kc (P:=fun c j=>fW R (fX 1 (i+1)<|dF i) (sG a l b j)->fW R (fX c i d) (sG a l b j)) hj hc (by repeat' first|exact trivial|exact(fun H=>MU ha hi hs hb H)|refine And.intro ?_ ?_) (fun H=>MU ha hi hs hb H) H
theorem kS(hj:j<=32)(hc:c=1\/c=0/\j=0)(ha:iS a)(hi:0<=i/\i<32)(hs:a.fG<=i)(H:fW R (fX 1 (i+1)<|dF i)<|sG a l b j):fW R (fX c i d)<|sG a l b j:=kc (P:=fun c j=>fW R (fX 1 (i+1)<|dF i) (sG a l b j)->fW R (fX c i d) (sG a l b j)) hj hc (by repeat' first|exact trivial|exact(fun H=>Z2 ha hi hs H)|refine And.intro ?_ ?_) (fun H=>Z2 ha hi hs H) H
end
def tA(a:dO):Nat->Nat->List Int
 |0,_=>[]
 |m+1,i=>if(i:Int)<a.fG/\hasB a (i:Int)=true then(i:Int)::tA a m (i+1) else tA a m (i+1)
def qv(a:dO):List Int:=tA a 32 0
abbrev RL(a:dO)(L:List Int)(s:AS):Prop:=∃b,s=sG a L b L.length
theorem BT(ha:iS a):∀(m i c:Nat) (l:List Int) (b:Nat->Option ae) (d:Nat->AV),i+m=32->(c=1\/c=0/\l.length=0)->l.length<=i->fW (RL a<|l++tA a m i) (fX c (i:Int) d) (sG a l b l.length)
 |0,i,c,l,b,d,hi,hc,hl=>by rw[show l++tA a 0 i=l from List.append_nil l];exact kE ah hc ah ⟨b,rfl⟩
 |m+1,i,c,l,b,d,hi,hc,hl=>by
  have e1:(((i+1:Nat)):Int)=(i:Int)+1:=by omega
  unfold tA;by_cases q1:(i:Int)<a.fG
  ·cases q2:hasB a (i:Int) with
   |true=>rw[if_pos ⟨q1,rfl⟩];have ih:=BT ha m (i+1) 1 (l++[(i:Int)]) (nb l b (i:Int) l.length) (dT (i:Int)) ah (.inl rfl) (by rw[List.length_append];show l.length+1<=i+1;omega);rw[List.append_assoc,List.length_append,e1] at ih;exact kT ah hc rfl ha ah q1 q2 ih
   |false=>rw[if_neg fun h=>by cases h.2];have ih:=BT ha m (i+1) 1 l b (dF (i:Int)) ah (.inl rfl) ah;rw[e1] at ih;exact kF ah hc ha ah q1 q2 ih
  ·rw[if_neg fun h=>q1 h.1];have ih:=BT ha m (i+1) 1 l b (dF (i:Int)) ah (.inl rfl) ah;rw[e1] at ih;exact kS ah hc ha ah ah ih
theorem Hv{a:dO}:∀m i,(tA a m i).length<=m
 |0,_=>Nat.le_refl _
 |m+1,i=>by
  unfold tA;have:=Hv (a:=a) m<|i+1;split
  ·rw[List.length_cons];omega
  ·omega
end
theorem agb{P:Program}{SG:aO}{rs:List ResultVar}{k l:Nat}{fr:AF}{s2:AS}{v:AV}{R:AV->AS->Prop}(h:yN P SG rs k l fr s=some (v,s2))(hR:R v s2):Ev P SG (fun aQ jm s1=>∃v s2,finish P rs aQ jm s1= .ok v s2/\R v s2) (uC l fr) s:=by
 unfold yN at h;split at h
 ·rename_i aQ j s1 e;split at h
  ·rename_i v2 s3 e2;injection h with h;injection h with h3 h4
   subst h3;subst h4;exact⟨k,aQ,j,s1,e,_,_,e2,hR⟩
  ·cases h
 ·cases h
def oF(a:dO)(l:List Int)(b:Nat->Option ae)(j:Nat):List<|Nat×Option ae:=aq++([(270,some<|kJ a),(271,bx<|.ptr<|some (270,0)),(272,bx<|xu l j),(273,none),(274,some<|iq .exhausted none)]++Z0 l b j)
abbrev I3(a:dO)(l:List Int)(b:Nat->Option ae)(j:Nat):AS:=aj (oF a l b j)<|275+2*j
abbrev sX(a:dO):AS:=aj (aq++[(270,some<|kJ a),(271,bx<|.ptr<|some (270,0))]) 272
abbrev sY(a:dO):AS:=aj (aq++[(270,some<|kJ a),(271,bx<|.ptr<|some (270,0)),(272,bx kZ)]) 273
theorem yr:aW pg 82 [1,0,1,0]= .rangeFunc (.tmp 6) #[7] zt lV:=by kernel_rfl
abbrev M4:AF:=⟨82,aP DD,13,.code (aW pg 82 [1,0,1,0])::KI,[],none⟩
abbrev R8(a:dO)(v:AV)(s:AS):Prop:=∃b,v=xu (qv a) (qv a).length/\s=I3 a (qv a) b (qv a).length
theorem ahH{a:dO}{l:List Int}{b:Nat->Option ae}{j:Nat}(hj:j<=32):lh 274 (sG a l b j)= .ok none (sR a l b j<|iq .exhausted none)/\yN pg (bh pg (sp []) FU 4) (aA Tryz.f82) 8 273 ⟨82,aP DD,13,andThen none KI,[],none⟩ (sR a l b j<|iq .exhausted none)=some (xu l j,I3 a l b j):=MZ (n:=33) (P:=fun j=>lh 274 (sG a l b j)= .ok none (sR a l b j<|iq .exhausted none)/\yN pg (bh pg (sp []) FU 4) (aA Tryz.f82) 8 273 ⟨82,aP DD,13,andThen none KI,[],none⟩ (sR a l b j<|iq .exhausted none)=some (xu l j,I3 a l b j)) (by repeat' first|exact trivial|exact⟨by as_aux_lemma=>kernel_rfl,by as_aux_lemma=>kernel_rfl⟩|refine And.intro ?_ ?_) ah
theorem aeu{a:dO}(ha:iS a):mT (fp []) 4 (aA Tryz.f82) (R8 a) (sF 82 Tryz.f82 [kZ,xr])<|sX a:=by refine wc (E:=fp []) (C:=fun fr s1 _=>fr=M4/\s1=sY a) eJ rfl (fun fr s1 p h=>?_) 900 (.st 6<|.cut .no) (show M4=M4/\sY a=sY a from⟨rfl,rfl⟩);obtain⟨rfl,rfl⟩:=h;unfold M4;rw[yr];have H:fW (RL a<|qv a) (fX 0 0 fun _=>.bool true)<|sG a [] (fun _=>none) 0:=BT ha 32 0 0 [] (fun _=>none) (fun _=>.bool true) rfl (.inr ⟨rfl,rfl⟩)<|Nat.le_refl _;have W:fW (RL a<|qv a) (sF 83 Tryz.f83 [.yield 274,.ptr<|some (271,0)])<|sG a [] (fun _=>none) 0:=Dv H (.st 4<|.cut .no) (show M3 (fX 0 0 fun _=>.bool true) (sG a [] (fun _=>none) 0) from⟨rfl,rfl⟩);obtain⟨v,s2,h1,rfl,b,rfl⟩:=mT.call (E:=fp []) (n:=3) (args:=[.yield 274,.ptr<|some (271,0)]) Tryz.func83 (xH Tryz.func83 cC) W;obtain⟨l1,l2⟩:=ahH (a:=a) (l:=qv a) (b:=b)<|Hv 32 0;exact Chunk.ev 1 _ _ _ _ (GS (gv:=xr) (s1:=aj (aq++[(270,some<|kJ a),(271,bx<|.ptr<|some (270,0)),(272,bx kZ),(273,some .defs)]) 274) cC cC cC h1 l1)<|agb (fr:=⟨82,aP DD,13,andThen none KI,[],none⟩) l2 ⟨b,rfl,rfl⟩
theorem aev{a:dO}(ha:iS a):∃v s2,bh pg (sp []) FU 6 (.fn 58) [xr] (sX a)= .ok v s2/\R8 a v s2:=by obtain⟨v,s2,h1,h2⟩:=mT.call (E:=fp []) (n:=4) (args:=[kZ,xr]) Tryz.func82 (xH Tryz.func82 cC)<|aeu ha;refine mT.call (E:=fp []) (n:=5) (args:=[xr]) Tryz.func58 (xH Tryz.func58 cC)<|wc (E:=fp []) (C:=fun _ _ _=>False) eJ rfl (fun _ _ _ h=>h.elim) 900 (.st 3<|.rg<|.go 1<|.cu v s2<|.go 1<|.en<|.rt 1 .no)<|ai h1 (show R8 a v s2 from h2)
end
end FG
end
section
open Go Go.Rn Go.RowKit Go.Proofs
namespace FH
open cr fQ kK A9 AO Av FG
variable {r:Nat->Nat} {fz:lN}
noncomputable section
abbrev oE(a:dO):List<|Nat×Option ae:=aq++[(270,some<|kJ a)]
def oQ(a:dO)(L:List Int):Nat->List (Nat×Option ae)
 |0=>aq++[(270,some<|kJ a)]
 |j+1=>aq++[(270,some<|kJ a),(276+2*j,some<|aJ aH L)]
def mV(v:AV):AF:=⟨36,aP [(2,v)],max Tryz.f36.ntmps 1,(dt 36 [1,1]),[],none⟩
abbrev iJ(B:aI)(a:dO)(L:List Int)(fr:AF)(s:AS):Prop:=av pg B 271 (Fin pg (aA Tryz.f36) fun y s=>nG 1 (aD aH L) (gR a) s y) fr s
abbrev Z3(a:dO)(L:List Int)(j:Nat):Prop:=(([(2,xu L j)]:List<|Nat×AV).map (fun q=>some q.2)=([(2,xu L j)]:List<|Nat×AV).map (fun q=>some q.2))/\((oQ a L j).map (fun q=>q.2)=(oQ a L j).map (fun q=>q.2))/\gY FU 271 (275+2*j) [(2,xu L j)] (oQ a L j) [(2,aD aH L)] (oE a) 271/\(mV (aD aH L)=mV (aD aH L)/\aj (oE a) 271=aj (oE a) 271)
theorem WA(ht:∀k,top<=k->r k=k):∀{l:List AV},(∀c∈l,c.cq=true)->mF fz r l l
 |[],_=>trivial
 |x::l,h=>⟨bA.z fun ρ v hv=>AV.uc (fun k y hk e=>by rw[ht k hk];exact e) (h x List.mem_cons_self) hv,WA ht fun c hc=>h c<|List.mem_cons_of_mem _ hc⟩
theorem aew(a:dO):(lr a).all AV.cj=true:=List.all_eq_true.2 fun c hc=>by
 rcases List.mem_append.1 hc with h|h
 ·simp only[List.mem_cons,List.not_mem_nil,or_false] at h;rcases h with rfl|rfl<;>rfl
 ·obtain⟨b,_,rfl⟩:=List.mem_map.1 h;rfl
section
variable {B:aI} {a:dO} {L:List Int} {b:Nat->Option ae} {j:Nat}
theorem agc(ha:iS a)(ht:∀k,top<=k->r k=k):fI fz r (kJ a)<|kJ a:=by have e:=Cq<|lr a;show fI fz r (.cells ((lr a).map kG).flatten.length (Tr.fill ((lr a).map kG).flatten 0 .nil) [])<|.cells ((lr a).map kG).flatten.length (Tr.fill ((lr a).map kG).flatten 0 .nil) [];rw[e];exact fI.cells (xK ha) (WA ht<|VY a)<|aew a
theorem akP(ha:iS a)(hl:L.length=j)(hj:j<=32):Z3 a L j:=by
 refine⟨rfl,rfl,?_,rfl,rfl⟩;have ob:∀(fz:lN) (more:List<|Nat×Option ae) (r:Nat->Nat),(∀k,k<271->r k=k)->(∀k,top<=k->r k=k)->∀p∈oE a,p.1<271/\∀y,p.2=some y->y.l7=true/\∃x,(p.1,some x)∈aq++((270,some<|kJ a)::more)/\fm x y/\fI fz r x y:=fun fz more r hr ht p hp=>by
  rcases List.mem_append.1 hp with hp|hp
  ·obtain⟨a,b⟩:=LG (fz:=fz) (fun k hk=>hr k ah) p hp;refine⟨by omega,fun y hy=>?_⟩;obtain⟨c,d⟩:=b y hy;exact⟨c,y,List.mem_append_left _ (by rw[←hy];exact hp),fm.refl _,d⟩
  ·rw[List.mem_singleton] at hp;subst hp;refine⟨by show 270<271;omega,fun y hy=>?_⟩;cases hy;exact⟨rfl,_,List.mem_append_right _ List.mem_cons_self,fm.refl _,agc ha ht⟩
 cases j with
 |zero=>obtain rfl:=List.eq_nil_of_length_eq_zero hl;refine Fe (fz:=[]) (Nat.le_refl _) ah eX (fun r hr ht p hp=>?_) (ob [] []) (fun p hp=>by cases hp);rw[List.mem_singleton] at hp;subst hp;exact⟨by show 2<top;unfold top;omega,_,mi 0,Ka⟩
 |succ j=>
  refine Fe (fz:=[(276+2*j,nm (L.map aH).flatten,(L.map aH).flatten)]) (Nat.le_refl _) ah eX (fun r hr ht p hp=>?_) (ob _ [(276+2*j,some<|aJ aH L)]) fun p hp=>?_
  ·rw[List.mem_singleton] at hp;subst hp;exact⟨by show 2<top;unfold top;omega,_,mi 0,GZ (List.mem_singleton.2 rfl) ht rfl⟩
  ·rw[List.mem_singleton] at hp;subst hp;exact⟨by show 271<=276+2*j;omega,G0 eI (by rw[hl];unfold top;omega) (276+2*j) eX<|List.mem_append_right _<|List.mem_cons_of_mem _ List.mem_cons_self⟩
theorem ajv(mc:Mt [] B)(ha:iS a):iJ B a L (mV<|aD aH L)<|aj (oE a) 271:=ox mc (.rt 1 .no) (T:=nG 1 (aD aH L) (gR a) (aj (oE a) 271)<|aD aH L)<|CK (.set a ha) rfl 271
def plE(a:dO)(L:List Int)(v:AV)(s:AS)(o:List<|Nat×Option ae)(n:Nat):Pl:=.st 3<|.rg<|.go 1<|.il<|.st 3<|.rg<|.go 2<|.en<|.rt 1<|.cu v s<|.go 1<|.en<|.rn [(2,v)] o [(2,aD aH L)] (oE a) n 271 .no
abbrev M5(a:dO)(L:List Int)(b:Nat->Option ae)(j:Nat):Prop:=bh pg (sp []) FU 6 (.fn 58) [xr] (sX a)= .ok (xu L j) (I3 a L b j)/\Z3 a L j
theorem ajw(mc:Mt [] B)(TT:M5 a L b j)(H:iJ B a L (mV<|aD aH L)<|aj (oE a) 271)(k:M5 a L b j=wp (rG []) 900 6 (.fr 36 (max Tryz.f36.ntmps 1) (dt 36 []) (eg [.ptr<|some (270,0)])<|aj (oE a) 271) (plE a L (xu L j) (I3 a L b j) (oQ a L j)<|275+2*j) (aA Tryz.f36) (fun y s _=>nG 1 (aD aH L) (gR a) s y) (fun fr s1 _=>fr=mV (aD aH L)/\s1=aj (oE a) 271):=by as_aux_lemma=>kernel_rfl):iJ B a L (sF 36 Tryz.f36 [.ptr<|some (270,0)])<|aj (oE a) 271:=IM mc (C:=fun fr s1 _=>fr=mV (aD aH L)/\s1=aj (oE a) 271) (fun fr s1 _ hC=>by obtain⟨rfl,rfl⟩:=hC;exact H) _ TT k cC
theorem ajx(mc:Mt [] B)(hj:j<=32)(TT:M5 a L b j)(H:iJ B a L (mV<|aD aH L)<|aj (oE a) 271):iJ B a L (sF 36 Tryz.f36 [.ptr<|some (270,0)])<|aj (oE a) 271:=MZ (n:=33) (P:=fun j=>M5 a L b j->iJ B a L (sF 36 Tryz.f36 [.ptr<|some (270,0)]) (aj (oE a) 271)) (by repeat' first|exact trivial|exact fun TT=>ajw mc TT H|refine And.intro ?_ ?_) ah TT
end
open Classical in
def Hw:dO->List AV->Option AV
 |a,[]=>if iS a then some (aD aH<|qv a) else none
 |_,_=>none
def Xj:FuncId×KE:=(36,.raw<|lS 1<|bK gR Hw)
theorem ada(hP:bC pg){L:bV}(h:aV L):aV<|Xj::L:=by
 refine O0 rJ hP gL p7 ir gZ kI kl h cN Tryz.func36 (body:=aW pg 36 []) aZ aZ fun v rest y e=>?_;obtain⟨a,rfl,e1⟩:=Ov e;unfold Hw at e1;split at e1<;>(try split at e1)<;>cases e1;rename_i dq;refine⟨aL.1 aZ,fun L hx=>?_⟩;generalize hv:gR a=v at hx;cases hx with
 |set b hb=>obtain rfl:=zI _ _ hv;refine⟨271,by omega,by unfold top;omega,fun p hp=>by rw[List.mem_singleton] at hp;subst hp;show 270<271;omega,fun B mc=>?_⟩;obtain⟨v,s2,h1,b,rfl,rfl⟩:=aev hb;exact ajx mc (Hv 32 0) ⟨h1,akP hb rfl<|Hv 32 0⟩<|ajv mc hb
 |_=>cases hv
end
end FH
end
