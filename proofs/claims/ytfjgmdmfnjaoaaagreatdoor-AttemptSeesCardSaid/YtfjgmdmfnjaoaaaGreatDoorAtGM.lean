import Derived.Test.YtfjgmdmfnjaoaaaGreatDoorAtGL
import Derived.Test.YtfjgmdmfnjaoaaaGreatDoorAtGJ
import Derived.Test.YtfjgmdmfnjaoaaaGreatDoorAtGK
import Derived.Test.YtfjgmdmfnjaoaaaGreatDoorAtGI
import Derived.Test.YtfjgmdmfnjaoaaaGreatDoorRnGH
set_option maxRecDepth 100000
set_option maxHeartbeats 8000000
set_option linter.unusedSimpArgs false
set_option linter.unusedVariables false
section
open Go Go.Rn Go.RowKit Go.Proofs
namespace Xo
open cv fW eH gO fy gZ fc cG dt cR cW fw eV fL fN fS gg fT gh gP gQ g9 ia iF iW jH jI kZ lE jT lW
noncomputable abbrev Dy(fs:List Fr)(n:Nat):Fr:=({(av (fs.take n)<|(((0+n):Nat):Int) - 1) with ah:=((av (fs.take n)<|(((0+n):Nat):Int) - 1).ah+1),turns:=(av (fs.take n)<|(((0+n):Nat):Int) - 1).turns}:Fr)
noncomputable abbrev JV(a:MN)(n:Nat)(ub:AV)(fs:List Fr)(bd el:List St):VS:=aT a.pre ((((0+n):Nat):Int).toNat+1) (.aq ((((0+n):Nat):Int).toNat+1) 13) (a.steps+1) ub<|((fs.take n).set ((((0+n):Nat):Int) - 1).toNat<|Dy fs n).take (((0+n):Nat):Int).toNat++[(⟨bd,0,0,true,[a.x0,a.x1,a.x2,a.x3,a.x4,a.x5,a.x6,a.x7],(some el)⟩:Fr)]
noncomputable abbrev JW(to op nn:Int)(N L:Nat)(aG n2:Int)(N2 L2:Nat)(bd el:List St):AV:=.tuple [(.agg [(u8<|.ofNat 7),(i6 to),(u8<|op),(i6 nn),(.U N 0 L),(u8<|aG),(i6 n2),(.U N2 0 L2),(.U (nm (bd.map aP).flatten) 0 bd.length),(.U (nm (el.map aP).flatten) 0 el.length)]),(.bool true)]
noncomputable abbrev OS(bd:List St)(a:MN)(el:List St):List AV:=[(.U (nm (bd.map aP).flatten) 0 bd.length),i0,i0,(.bool true),(i6 a.x0),(i6 a.x1),(i6 a.x2),(i6 a.x3),(i6 a.x4),(i6 a.x5),(i6 a.x6),(i6 a.x7),(.U (nm (el.map aP).flatten) 0 el.length)]
theorem aib{B:aL}{a:MN}{n c:Nat}{u:AV}{fs:List Fr}{A1:MN}{m1 c1:Nat}{u1:AV}{br:List Fr}{A2:MN}{m2 c2:Nat}{u2:AV}{bp:List Fr}{N L N2 L2:Nat}{to op nn aG n2 z wi t:Int}{bd el ol fb:List St}{fa ft y0 y1 y2 y3 y4 y5 y6 y7:Int}{fo:Bool}{ub:AV}(mc:Mt LM B)(h1:1<=n)(hn:n<=fs.length)(hc:n<=c)(hf:fs.length<=1000000)(hR:fs.length*13<=top)(aB:0<=(av (fs.take n)<|((0+n:Nat):Int) - 1).ah/\(av (fs.take n)<|((0+n:Nat):Int) - 1).ah<=1000000)(cm:0<=a.steps/\a.steps<=1000000000000)(hlen:bp.length<=1000000)(nN:(AV.U A2.G A2.q A2.lg).bG=true)(k0:bH 10 (aT a.pre n (.aq c 13) a.steps u fs)=true)(k1:vR kY (aT a.pre n (.aq c 13) a.steps u fs) []=some (.agg [(u8<|.ofNat 1),i0,i0]))(k2:((JW to op nn N L aG n2 N2 L2 bd el):AV).hi=true)(k3:vR iT (aT a.pre n (.aq c 13) a.steps u fs) []=some (JW to op nn N L aG n2 N2 L2 bd el))(k4:eR (dG bZ JP) u []=some ((.int .i64 0:AV),ub))(k5:bH 10 (JV a n ub fs bd el)=true)(k6:dJ eJ (JV a n ub fs bd el) []=some (.tuple [],(aT A1.pre m1 (.aq c1 13) A1.steps u1 br)))(k7:bH 10 (aT A1.pre m1 (.aq c1 13) A1.steps u1 br)=true)(k8:dJ eJ (aT A1.pre m1 (.aq c1 13) A1.steps u1 br) []=some (.tuple [],(aT A2.pre m2 (.aq c2 13) A2.steps u2 bp)))(k9:bH 10 (aT A2.pre m2 (.aq c2 13) A2.steps u2 bp)=true)(H:l7 B (az Tryz.f45) (aT A2.pre m2 (.aq c2 13) A2.steps u2 bp) (sH 45 2 38<|dv 45 [1,1,1,1,1,1,1,1,1])<|p7 A2 m2 (.aq c2 13) u2 bp):l7 B (az Tryz.f45) (aT A2.pre m2 (.aq c2 13) A2.steps u2 bp) (sF 45 Tryz.f45 [(.ptr<|some (270,0))])<|ak (ar++bx (dD 270 3<|aT a.pre n (.aq c 13) a.steps u fs)) 273:=by have ht:top=549755813888:=rfl;exact Am mc H (.st 8<|.rg<|.go 1<|.cg (.agg [(u8<|.ofNat 1),i0,i0]) (vG 272) (vQ 272<|aT a.pre n (.aq c 13) a.steps u fs)<|.go 3<|.en<|.st 6<|.rg<|.go 1<|.cg (JW to op nn N L aG n2 N2 L2 bd el) (vG 272) (vQ 272<|aT a.pre n (.aq c 13) a.steps u fs)<|.go 6<|.en<|.st 1<|.rg<|.go 4<|.vl (i6<|a.steps+1)<|.go 3<|.en<|.st 1<|.rg<|.go 1<|.il<|.st 1<|.rg<|.go 4<|.il<|.st 8<|.rg<|.go 2<|.ao [] (((fs).map aJ).flatten) ((((fs.take n)).map aJ).flatten)<|.go 1<|.en<|.rt 1<|.go 1<|.en<|.st 1<|.rg<|.go 3<|.vl (i6<|(((0+n):Nat):Int) - 1)<|.ix<|.go 1<|.ld [(i6<|(av (fs.take n)<|(((0+n):Nat):Int) - 1).ah)]<|.vl (i6<|(av (fs.take n)<|(((0+n):Nat):Int) - 1).ah+1)<|.ix<|.go 1<|.lh (aN aJ<|(fs.take n).set ((((0+n):Nat):Int) - 1).toNat<|Dy fs n)<|.en<|.rt 2<|.en<|.st 1<|.rg<|.go 6<|.il<|.st 3<|.rg<|.go 4<|.kt i0 ub<|.en<|.rg<|.go 10<|.il<|.st 3<|.rg<|.go 15<|.s3<|.go 2<|.an (((((fs.take n).set ((((0+n):Nat):Int) - 1).toNat<|Dy fs n)).map aJ).flatten) (OS bd a el) ((((((fs.take n).set ((((0+n):Nat):Int) - 1).toNat<|Dy fs n).take (((0+n):Nat):Int).toNat++[(⟨bd,0,0,true,[a.x0,a.x1,a.x2,a.x3,a.x4,a.x5,a.x6,a.x7],(some el)⟩:Fr)])).map aJ).flatten)<|.go 3<|.en<|.rg<|.go 1<|.cg (.tuple []) (vF 280<|aT A1.pre m1 (.aq c1 13) A1.steps u1 br) (vQ 280<|JV a n ub fs bd el)<|.en<|.rt 1<|.en<|.rt 1<|.en<|.st 1<|.rg<|.go 1<|.cg (.tuple []) (vF 280<|aT A2.pre m2 (.aq c2 13) A2.steps u2 bp) (vQ 280<|aT A1.pre m1 (.aq c1 13) A1.steps u1 br)<|.en<|.st 2<|(Al 2 A2 m2 (.aq c2 13) u2 bp 280 281))<|yC LM 35 272 (vR kY) [] (aT a.pre n (.aq c 13) a.steps u fs) (.agg [(u8<|.ofNat 1),i0,i0]) k0 k1<|jK LM 53 272 (vR iT) [] (aT a.pre n (.aq c 13) a.steps u fs) (JW to op nn N L aG n2 N2 L2 bd el) k0 k3 cw k2<|ai BO<|Ak (fs:=fs) (n:=n) ae dR dR<|ai BN<|dc ((((0+n):Nat):Int) - 1) (((0+n):Nat):Int)<|ai (jO fA dR (jh (l:=(fs.take n)) (z:=((((0+n):Nat):Int) - 1)) ae dR) 1 1 rfl)<|ai BM<|dc ((((0+n):Nat):Int) - 1) (((0+n):Nat):Int)<|ai (oA fA dR (jh (l:=(fs.take n)) (z:=((((0+n):Nat):Int) - 1)) ae dR) (c':=(Dy fs n)) (r:=[(i6<|((av (fs.take n)<|(((0+n):Nat):Int) - 1).ah+1))]) 1 rfl rfl rfl)<|ai k4<|ai (show 0<=(((0+n):Nat):Int) from ae)<|ai (show(((0+n):Nat):Int)<=(((0+n):Nat):Int) from ae)<|ai (show(((0+n):Nat):Int)<=Int.ofNat (iP (0+n)<|.aq (0+n) 13) from(show(((0+n):Nat):Int)<=(((0+n):Nat):Int) from by omega))<|HL (fs:=((fs.take n).set ((((0+n):Nat):Int) - 1).toNat<|Dy fs n)) (n:=(((0+n):Nat):Int).toNat) (f:=(⟨bd,0,0,true,[a.x0,a.x1,a.x2,a.x3,a.x4,a.x5,a.x6,a.x7],(some el)⟩:Fr)) (cs:=(OS bd a el)) (show aJ (⟨bd,0,0,true,[a.x0,a.x1,a.x2,a.x3,a.x4,a.x5,a.x6,a.x7],(some el)⟩:Fr)=(OS bd a el) from rfl) ae dR dR<|wm LM 65 280 (dJ eJ) [] (JV a n ub fs bd el) (aT A1.pre m1 (.aq c1 13) A1.steps u1 br) k5 k6 k7<|wm LM 65 280 (dJ eJ) [] (aT A1.pre m1 (.aq c1 13) A1.steps u1 br) (aT A2.pre m2 (.aq c2 13) A2.steps u2 bp) k7 k8 k9<|EL 45 2 38 (dv 45 [1,1,1,1,1,1,1,1,1]) A2 m2 (.aq c2 13) u2 bp 280 281 hlen nN
end Xo
end
section
open Go Go.Rn Go.RowKit Go.Proofs
namespace Xp
open cv fW eH gO fy gZ fc cG dt cR cW fw eV fL fN fS gg fT gh gP gQ g9 ia iF iW jH jI kZ lE jT lW
noncomputable abbrev zg(fs:List Fr)(n:Nat):Fr:=({(av (fs.take n)<|(((0+n):Nat):Int) - 1) with ah:=((av (fs.take n)<|(((0+n):Nat):Int) - 1).ah+1),turns:=(av (fs.take n)<|(((0+n):Nat):Int) - 1).turns}:Fr)
noncomputable abbrev JX(a:MN)(y0 y1 y2 y3 y4 y5 y6 y7 wi:Int)(ub:AV)(fs:List Fr)(n:Nat)(ol:List St):VS:=aT [(i6 a.vars),(.U a.G a.q a.lg),(i6 y0),(i6 y1),(i6 y2),(i6 y3),(i6 y4),(i6 y5),(i6 y6),(i6 y7)] ((((wi).toNat:Nat):Int).toNat+1) (.aq ((((wi).toNat:Nat):Int).toNat+1) 13) (a.steps+1) ub<|((fs.take n).set ((((0+n):Nat):Int) - 1).toNat<|zg fs n).take (((wi).toNat:Nat):Int).toNat++[(⟨ol,0,0,false,[0,0,0,0,0,0,0,0],none⟩:Fr)]
noncomputable abbrev JY(to op nn:Int)(N L:Nat)(aG n2:Int)(N2 L2:Nat)(bd el:List St):AV:=.tuple [(.agg [(u8<|.ofNat 6),(i6 to),(u8<|op),(i6 nn),(.U N 0 L),(u8<|aG),(i6 n2),(.U N2 0 L2),(.U (nm (bd.map aP).flatten) 0 bd.length),(.U (nm (el.map aP).flatten) 0 el.length)]),(.bool true)]
noncomputable abbrev JZ(a:MN)(n:Nat)(u:AV)(fs:List Fr):VS:=aT a.pre (0+n) (.aq (0+n) 13) (a.steps+1) u<|(fs.take n).set ((((0+n):Nat):Int) - 1).toNat<|zg fs n
noncomputable abbrev OT(ol:List St):List AV:=[(.U (nm (ol.map aP).flatten) 0 ol.length),i0,i0,(.bool false),i0,i0,i0,i0,i0,i0,i0,i0,(.slice none 0<|.known 0)]
theorem aic{B:aL}{a:MN}{n c:Nat}{u:AV}{fs:List Fr}{A1:MN}{m1 c1:Nat}{u1:AV}{br:List Fr}{A2:MN}{m2 c2:Nat}{u2:AV}{bp:List Fr}{N L N2 L2:Nat}{to op nn aG n2 z wi t:Int}{bd el ol fb:List St}{fa ft y0 y1 y2 y3 y4 y5 y6 y7:Int}{fo:Bool}{ub:AV}(mc:Mt LM B)(h1:1<=n)(hn:n<=fs.length)(hc:n<=c)(hf:fs.length<=1000000)(hR:fs.length*13<=top)(aB:0<=(av (fs.take n)<|((0+n:Nat):Int) - 1).ah/\(av (fs.take n)<|((0+n:Nat):Int) - 1).ah<=1000000)(cm:0<=a.steps/\a.steps<=1000000000000)(hlen:bp.length<=1000000)(nN:(AV.U A2.G A2.q A2.lg).bG=true)(hz:1<=wi/\wi<(n:Int))(k0:bH 10 (aT a.pre n (.aq c 13) a.steps u fs)=true)(k1:vR kY (aT a.pre n (.aq c 13) a.steps u fs) []=some (.agg [(u8<|.ofNat 1),i0,i0]))(k2:((JY to op nn N L aG n2 N2 L2 bd el):AV).hi=true)(k3:vR iT (aT a.pre n (.aq c 13) a.steps u fs) []=some (JY to op nn N L aG n2 N2 L2 bd el))(k4:bH 10 (JZ a n u fs)=true)(k5:vR rr (JZ a n u fs) []=some (i6 wi))(k6:((fs.take n).set ((((0+n):Nat):Int) - 1).toNat<|zg fs n)[wi.toNat]? =some (⟨fb,fa,ft,fo,[y0,y1,y2,y3,y4,y5,y6,y7],some ol⟩:Fr))(k7:eR (dG bZ JQ) u []=some ((.int .i64 0:AV),ub))(k8:bH 10 (JX a y0 y1 y2 y3 y4 y5 y6 y7 wi ub fs n ol)=true)(k9:dJ eJ (JX a y0 y1 y2 y3 y4 y5 y6 y7 wi ub fs n ol) []=some (.tuple [],(aT A1.pre m1 (.aq c1 13) A1.steps u1 br)))(sg:bH 10 (aT A1.pre m1 (.aq c1 13) A1.steps u1 br)=true)(ym:dJ eJ (aT A1.pre m1 (.aq c1 13) A1.steps u1 br) []=some (.tuple [],(aT A2.pre m2 (.aq c2 13) A2.steps u2 bp)))(k12:bH 10 (aT A2.pre m2 (.aq c2 13) A2.steps u2 bp)=true)(H:l7 B (az Tryz.f45) (aT A2.pre m2 (.aq c2 13) A2.steps u2 bp) (sH 45 2 38<|dv 45 [1,1,1,1,1,1,1,1,1])<|p7 A2 m2 (.aq c2 13) u2 bp):l7 B (az Tryz.f45) (aT A2.pre m2 (.aq c2 13) A2.steps u2 bp) (sF 45 Tryz.f45 [(.ptr<|some (270,0))])<|ak (ar++bx (dD 270 3<|aT a.pre n (.aq c 13) a.steps u fs)) 273:=by have ht:top=549755813888:=rfl;exact Am mc H (.st 8<|.rg<|.go 1<|.cg (.agg [(u8<|.ofNat 1),i0,i0]) (vG 272) (vQ 272<|aT a.pre n (.aq c 13) a.steps u fs)<|.go 3<|.en<|.st 6<|.rg<|.go 1<|.cg (JY to op nn N L aG n2 N2 L2 bd el) (vG 272) (vQ 272<|aT a.pre n (.aq c 13) a.steps u fs)<|.go 6<|.en<|.st 1<|.rg<|.go 4<|.vl (i6<|a.steps+1)<|.go 3<|.en<|.st 1<|.rg<|.go 1<|.il<|.st 1<|.rg<|.go 4<|.il<|.st 8<|.rg<|.go 2<|.ao [] (((fs).map aJ).flatten) ((((fs.take n)).map aJ).flatten)<|.go 1<|.en<|.rt 1<|.go 1<|.en<|.st 1<|.rg<|.go 3<|.vl (i6<|(((0+n):Nat):Int) - 1)<|.ix<|.go 1<|.ld [(i6<|(av (fs.take n)<|(((0+n):Nat):Int) - 1).ah)]<|.vl (i6<|(av (fs.take n)<|(((0+n):Nat):Int) - 1).ah+1)<|.ix<|.go 1<|.lh (aN aJ<|(fs.take n).set ((((0+n):Nat):Int) - 1).toNat<|zg fs n)<|.en<|.rt 2<|.en<|.st 1<|.rg<|.go 6<|.il<|.st 3<|.rg<|.go 1<|.cg (i6 wi) (vG 276) (vQ 276<|JZ a n u fs)<|.go 1<|.en<|.st 1<|.rg<|.go 5<|.ix<|.ld [(.U (nm (fb.map aP).flatten) 0 fb.length),(i6 fa),(i6 ft),(.bool fo),(i6 y0),(i6 y1),(i6 y2),(i6 y3),(i6 y4),(i6 y5),(i6 y6),(i6 y7),(.U (nm (ol.map aP).flatten) 0 ol.length)]<|.go 2<|.en<|.st 1<|.rg<|.go 6<|.so<|.go 3<|.en<|.st 1<|.rg<|.go 4<|.kt i0 ub<|.en<|.st 2<|.rg<|.go 4<|.il<|.st 3<|.rg<|.go 15<|.s3<|.go 2<|.an (((((fs.take n).set ((((0+n):Nat):Int) - 1).toNat<|zg fs n)).map aJ).flatten) (OT ol) ((((((fs.take n).set ((((0+n):Nat):Int) - 1).toNat<|zg fs n).take (((wi).toNat:Nat):Int).toNat++[(⟨ol,0,0,false,[0,0,0,0,0,0,0,0],none⟩:Fr)])).map aJ).flatten)<|.go 3<|.en<|.rg<|.go 1<|.cg (.tuple []) (vF 281<|aT A1.pre m1 (.aq c1 13) A1.steps u1 br) (vQ 281<|JX a y0 y1 y2 y3 y4 y5 y6 y7 wi ub fs n ol)<|.en<|.rt 1<|.en<|.rt 1<|.en<|.st 1<|.rg<|.go 1<|.cg (.tuple []) (vF 281<|aT A2.pre m2 (.aq c2 13) A2.steps u2 bp) (vQ 281<|aT A1.pre m1 (.aq c1 13) A1.steps u1 br)<|.en<|.st 2<|(Al 2 A2 m2 (.aq c2 13) u2 bp 281 282))<|yC LM 35 272 (vR kY) [] (aT a.pre n (.aq c 13) a.steps u fs) (.agg [(u8<|.ofNat 1),i0,i0]) k0 k1<|jK LM 53 272 (vR iT) [] (aT a.pre n (.aq c 13) a.steps u fs) (JY to op nn N L aG n2 N2 L2 bd el) k0 k3 cw k2<|ai BO<|Ak (fs:=fs) (n:=n) ae dR dR<|ai BN<|dc ((((0+n):Nat):Int) - 1) (((0+n):Nat):Int)<|ai (jO fA dR (jh (l:=(fs.take n)) (z:=((((0+n):Nat):Int) - 1)) ae dR) 1 1 rfl)<|ai BM<|dc ((((0+n):Nat):Int) - 1) (((0+n):Nat):Int)<|ai (oA fA dR (jh (l:=(fs.take n)) (z:=((((0+n):Nat):Int) - 1)) ae dR) (c':=(zg fs n)) (r:=[(i6<|((av (fs.take n)<|(((0+n):Nat):Int) - 1).ah+1))]) 1 rfl rfl rfl)<|yC LM 55 276 (vR rr) [] (JZ a n u fs) (i6 wi) k4 k5<|dc wi (((0+n):Nat):Int)<|ai (jO fA dR k6 0 13 rfl)<|ai (show(0:Int)=0 from rfl)<|ai (show 0<=wi from ae)<|ai (show wi<=Int.ofNat (iP (0+n)<|.aq (0+n) 13) from(show wi<=(((0+n):Nat):Int) from by omega))<|ai k7<|ai (show 0<=(((wi).toNat:Nat):Int) from ae)<|ai (show(((wi).toNat:Nat):Int)<=(((wi).toNat:Nat):Int) from ae)<|ai (show(((wi).toNat:Nat):Int)<=Int.ofNat (iP ((wi).toNat)<|.aq (0+n) 13) from(show(((wi).toNat:Nat):Int)<=(((0+n):Nat):Int) from by omega))<|HL (fs:=((fs.take n).set ((((0+n):Nat):Int) - 1).toNat<|zg fs n)) (n:=(((wi).toNat:Nat):Int).toNat) (f:=(⟨ol,0,0,false,[0,0,0,0,0,0,0,0],none⟩:Fr)) (cs:=(OT ol)) (show aJ (⟨ol,0,0,false,[0,0,0,0,0,0,0,0],none⟩:Fr)=(OT ol) from rfl) ae dR dR<|wm LM 65 281 (dJ eJ) [] (JX a y0 y1 y2 y3 y4 y5 y6 y7 wi ub fs n ol) (aT A1.pre m1 (.aq c1 13) A1.steps u1 br) k8 k9 sg<|wm LM 65 281 (dJ eJ) [] (aT A1.pre m1 (.aq c1 13) A1.steps u1 br) (aT A2.pre m2 (.aq c2 13) A2.steps u2 bp) sg ym k12<|EL 45 2 38 (dv 45 [1,1,1,1,1,1,1,1,1]) A2 m2 (.aq c2 13) u2 bp 281 282 hlen nN
end Xp
end
section
open Go Go.Rn Go.RowKit Go.Proofs
namespace Xq
open cv fW eH gO fy gZ fc cG dt cR cW fw eV fL fN fS gg fT gh gP gQ g9 ia iF iW jH jI kZ lE jT lW
noncomputable abbrev xD(a:MN)(to xx:Int)(n:Nat)(u:AV)(fs:List Fr):VS:=aT ((a.pre:List AV).set (2+to.toNat)<|i6 xx) (0+n) (.aq (0+n) 13) (a.steps+1) u<|(fs.take n).set ((((0+n):Nat):Int) - 1).toNat ({(av (fs.take n)<|(((0+n):Nat):Int) - 1) with ah:=((av (fs.take n)<|(((0+n):Nat):Int) - 1).ah+1),turns:=(av (fs.take n)<|(((0+n):Nat):Int) - 1).turns}:Fr)
noncomputable abbrev J0(to op nn:Int)(N L:Nat)(aG n2:Int)(N2 L2:Nat)(bd el:List St):AV:=.tuple [(.agg [(u8<|.ofNat 2),(i6 to),(u8<|op),(i6 nn),(.U N 0 L),(u8<|aG),(i6 n2),(.U N2 0 L2),(.U (nm (bd.map aP).flatten) 0 bd.length),(.U (nm (el.map aP).flatten) 0 el.length)]),(.bool true)]
theorem aid{B:aL}{a:MN}{n c:Nat}{u:AV}{fs:List Fr}{A1:MN}{m1 c1:Nat}{u1:AV}{br:List Fr}{A2:MN}{m2 c2:Nat}{u2:AV}{bp:List Fr}{N L N2 L2:Nat}{to op nn aG n2 z wi t:Int}{bd el ol fb:List St}{fa ft y0 y1 y2 y3 y4 y5 y6 y7:Int}{fo:Bool}{ub:AV}{xx:Int}(mc:Mt LM B)(h1:1<=n)(hn:n<=fs.length)(hc:n<=c)(hf:fs.length<=1000000)(hR:fs.length*13<=top)(aB:0<=(av (fs.take n)<|((0+n:Nat):Int) - 1).ah/\(av (fs.take n)<|((0+n:Nat):Int) - 1).ah<=1000000)(cm:0<=a.steps/\a.steps<=1000000000000)(hlen:br.length<=1000000)(nN:(AV.U A1.G A1.q A1.lg).bG=true)(h0:0<=to)(h8:to<8)(k0:bH 10 (aT a.pre n (.aq c 13) a.steps u fs)=true)(k1:vR kY (aT a.pre n (.aq c 13) a.steps u fs) []=some (.agg [(u8<|.ofNat 2),(i6 wi),i0]))(k2:((J0 to op nn N L aG n2 N2 L2 bd el):AV).hi=true)(k3:vR iT (aT a.pre n (.aq c 13) a.steps u fs) []=some (J0 to op nn N L aG n2 N2 L2 bd el))(k4:bH 10 (xD a to xx n u fs)=true)(k5:dJ eJ (xD a to xx n u fs) []=some (.tuple [],(aT A1.pre m1 (.aq c1 13) A1.steps u1 br)))(k6:bH 10 (aT A1.pre m1 (.aq c1 13) A1.steps u1 br)=true)(H:l7 B (az Tryz.f51) (aT A1.pre m1 (.aq c1 13) A1.steps u1 br) (sH 51 4 38<|dv 51 [1,1,1,1,1,1,1,1])<|p7 A1 m1 (.aq c1 13) u1 br):l7 B (az Tryz.f51) (aT A1.pre m1 (.aq c1 13) A1.steps u1 br) (sF 51 Tryz.f51 [(.ptr<|some (270,0)),(i6 xx)])<|ak (ar++bx (dD 270 3<|aT a.pre n (.aq c 13) a.steps u fs)) 273:=by have ht:top=549755813888:=rfl;exact Am mc H (.st 8<|.rg<|.go 1<|.cg (.agg [(u8<|.ofNat 2),(i6 wi),i0]) (vG 272) (vQ 272<|aT a.pre n (.aq c 13) a.steps u fs)<|.go 3<|.en<|.st 4<|.rg<|.go 1<|.cg (J0 to op nn N L aG n2 N2 L2 bd el) (vG 272) (vQ 272<|aT a.pre n (.aq c 13) a.steps u fs)<|.go 6<|.en<|.st 1<|.rg<|.go 4<|.vl (i6<|a.steps+1)<|.go 3<|.en<|.st 1<|.rg<|.go 1<|.il<|.st 1<|.rg<|.go 4<|.il<|.st 8<|.rg<|.go 2<|.ao [] (((fs).map aJ).flatten) ((((fs.take n)).map aJ).flatten)<|.go 1<|.en<|.rt 1<|.go 1<|.en<|.st 1<|.rg<|.go 3<|.vl (i6<|(((0+n):Nat):Int) - 1)<|.ix<|.go 1<|.ld [(i6<|(av (fs.take n)<|(((0+n):Nat):Int) - 1).ah)]<|.vl (i6<|(av (fs.take n)<|(((0+n):Nat):Int) - 1).ah+1)<|.ix<|.go 1<|.lh (aN aJ<|(fs.take n).set ((((0+n):Nat):Int) - 1).toNat ({(av (fs.take n)<|(((0+n):Nat):Int) - 1) with ah:=((av (fs.take n)<|(((0+n):Nat):Int) - 1).ah+1),turns:=(av (fs.take n)<|(((0+n):Nat):Int) - 1).turns}:Fr))<|.en<|.rt 2<|.en<|.st 1<|.rg<|.go 6<|.Hv<|.lh (aN lU<|((a.row (.ptr<|some (271,0)) (.slice (some (275,0)) ((0+n))<|.aq (0+n) 13)<|i6<|(a.steps+1)):List AV).set (2+to.toNat)<|i6 xx)<|.en<|.st 1<|.rg<|.go 1<|.cg (.tuple []) (Kn 270 dX eK 3 270 271 275<|aT A1.pre m1 (.aq c1 13) A1.steps u1 br) (Gv 270 dX eK 3 270 271 275<|xD a to xx n u fs)<|.en<|.st 2<|(Al 4 A1 m1 (.aq c1 13) u1 br 275 276))<|yC LM 35 272 (vR kY) [] (aT a.pre n (.aq c 13) a.steps u fs) (.agg [(u8<|.ofNat 2),(i6 wi),i0]) k0 k1<|jK LM 53 272 (vR iT) [] (aT a.pre n (.aq c 13) a.steps u fs) (J0 to op nn N L aG n2 N2 L2 bd el) k0 k3 cw k2<|ai BO<|Ak (fs:=fs) (n:=n) ae dR dR<|ai BN<|dc ((((0+n):Nat):Int) - 1) (((0+n):Nat):Int)<|ai (jO fA dR (jh (l:=(fs.take n)) (z:=((((0+n):Nat):Int) - 1)) ae dR) 1 1 rfl)<|ai BM<|dc ((((0+n):Nat):Int) - 1) (((0+n):Nat):Int)<|ai (oA fA dR (jh (l:=(fs.take n)) (z:=((((0+n):Nat):Int) - 1)) ae dR) (c':=({(av (fs.take n)<|(((0+n):Nat):Int) - 1) with ah:=((av (fs.take n)<|(((0+n):Nat):Int) - 1).ah+1),turns:=(av (fs.take n)<|(((0+n):Nat):Int) - 1).turns}:Fr)) (r:=[(i6<|((av (fs.take n)<|(((0+n):Nat):Int) - 1).ah+1))]) 1 rfl rfl rfl)<|dc to (Int.ofNat 8)<|ai (Nu (c':=(i6 xx)) (show((a.row (.ptr<|some (271,0)) (.slice (some (275,0)) ((0+n))<|.aq (0+n) 13)<|i6<|(a.steps+1)):List AV).length<=top from aM.1 aX) (UL (a.row (.ptr<|some (271,0)) (.slice (some (275,0)) ((0+n))<|.aq (0+n) 13)<|i6<|(a.steps+1)) (k:=2+to.toNat) ae) rfl)<|ai (Oe (P:=pg) (F:=FU) (sp:=sp LM) (g:=65) (J:=270) (h0:=dX) (ns:=eK) (rest:=[]) (n:=5) (kp:=10) (k:=3) (val:=dJ eJ) (a:=270) (r1:=271) (r2:=275) (st:=(xD a to xx n u fs)) (ba:=(aT A1.pre m1 (.aq c1 13) A1.steps u1 br)) (y:=.tuple []) cw cw cw cw (by simp only[List.length_set];rfl) k4 k5 cw k6)<|ai (show true=true/\true=true/\(some (aN lU<|((a.row (.ptr<|some (271,0)) (.slice (some (275,0)) ((0+n))<|.aq (0+n) 13)<|i6<|(a.steps+1)):List AV).set (2+to.toNat)<|i6 xx):Option ab)=some (bU<|dQ ((xD a to xx n u fs)).R 271 275)/\(some (.tok 3 ((xD a to xx n u fs)).u):Option ab)=some (.tok 3 ((xD a to xx n u fs)).u)/\some (bU ((xD a to xx n u fs)).row)=some (bU ((xD a to xx n u fs)).row) from⟨rfl,rfl,congrArg some<|UM (pre:=a.pre) (post:=[(i6<|(a.steps+1))]) (len:=(0+n)) (i:=(2+to.toNat)) (r1:=271) (r2:=275) (cap:=(.aq (0+n) 13)) (c:=(i6 xx)) (by show(2+to.toNat)<10;omega),rfl,rfl⟩)<|EL 51 4 38 (dv 51 [1,1,1,1,1,1,1,1]) A1 m1 (.aq c1 13) u1 br 275 276 hlen nN
end Xq
end
section
open Go Go.Rn Go.RowKit Go.Proofs
namespace ni
open cv fW eH gO fc cG dt cR cW fw eV fL fN fS gg fT gh gP gQ g9 ia iF iW jH jI fy gZ
variable {fs:List Fr} {f:Fr}
def lO:Nat->List Fr->bO->Option (List Fr×bO)
 |0,_,_=>none
 |_+1,[],b=>some ([],b)
 |k+1,f::r,b=>
  if f.ah<(f.block.length:Int) then some (f::r,b)
  else if 0<f.turns then if 0<(f.block.length:Int) then some ({f with ah:=0,turns:=f.turns - 1}::r,b) else lO k ({f with ah:=0,turns:=f.turns - 1}::r) b
  else if f.cM=true then(if 2<=b.length then lO k r (gR b) else none)
  else lO k r b
def below:List Fr->Option (Fr×List Fr)
 |[]=>none
 |f::r=>if f.cM=true then some (f,r) else below r
theorem ND{n:Nat}{r:List Fr}(hn:n<=fs.length)(h:(fs.take n).reverse=f::r):∃m,n=m+1/\m<fs.length/\fs[m]? =some f/\(fs.take m).reverse=r:=by
 cases n with
 |zero=>simp at h
 |succ m=>
  have hm:m<fs.length:=by omega
  rw[List.take_add_one,List.getElem?_eq_getElem hm] at h;simp only[Option.toList,List.reverse_append,List.reverse_cons,List.reverse_nil,List.nil_append,List.cons_append,List.cons.injEq] at h;exact⟨m,rfl,hm,by rw[List.getElem?_eq_getElem hm,h.1],h.2⟩
theorem ac3{m:Nat}(h:fs[m]? =some f):(fs.take<|m+1).reverse=f::(fs.take m).reverse:=by rw[List.take_add_one,h];simp only[Option.toList,List.reverse_append,List.reverse_cons,List.reverse_nil,List.nil_append,List.cons_append]
theorem NF{m:Nat}(h:fs[m]? =some f):av fs (m:Int)=f:=by unfold av;rw[List.getD_eq_getElem?_getD,show((m:Int)).toNat=m by omega,h];rfl
theorem Ug{m:Nat}(h:fs[m]? =some f):av fs (((m+1:Nat):Int) - 1)=f:=by rw[show(((m+1:Nat):Int) - 1)=(m:Int) by omega];exact NF h
theorem take_set{m:Nat}(g:Fr)(hm:m<fs.length):((fs.set m g).take<|m+1).reverse=g::(fs.take m).reverse:=by rw[ac3 (f:=g)<|by rw[List.getElem?_set_self hm]];congr 2;rw[List.take_set_of_le<|Nat.le_refl m]
theorem Ix:∀(k n:Nat) (fs:List Fr) (b:bO) (st ba:List Fr) (b':bO),lO k st b=some (ba,b')->n<=fs.length->(fs.take n).reverse=st->∃n' de,oy k n fs b=some (n',de,b')/\n'<=n/\de.length=fs.length/\(de.take n').reverse=ba
 |0,_,_,_,_,_,_,h,_,_=>by cases h
 |k+1,n,fs,b,st,ba,b',h,hn,e=>by
  cases st with
  |nil=>
   have n0:n=0:=by have:=congrArg List.length e;rw[List.length_reverse,List.length_take] at this;simp only[List.length_nil] at this;omega
   unfold lO at h;injection h with h;injection h with h1 h2
   subst h1;subst h2;exact⟨n,fs,by unfold oy;rw[if_pos n0],Nat.le_refl _,rfl,e⟩
  |cons f r=>
   obtain⟨m,rfl,hm,hf,hr⟩:=ND hn e;have ef:=Ug hf;have em:(((m+1:Nat):Int) - 1).toNat=m:=by omega
   unfold lO at h;unfold oy;rw[if_neg ae];simp only[ef,em];by_cases c1:f.ah<(f.block.length:Int)
   ·rw[if_pos c1] at h ⊢;injection h with h;injection h with h1 h2
    subst h1;subst h2;exact⟨m+1,fs,rfl,Nat.le_refl _,rfl,e⟩
   ·rw[if_neg c1] at h ⊢;by_cases c2:0<f.turns
    ·rw[if_pos c2] at h ⊢;have e2:=take_set {f with ah:=0,turns:=f.turns - 1} hm;rw[hr] at e2;by_cases c3:0<(f.block.length:Int)
     ·rw[if_pos c3] at h ⊢;injection h with h;injection h with h1 h2
      subst h1;subst h2;exact⟨m+1,_,rfl,Nat.le_refl _,List.length_set,e2⟩
     ·rw[if_neg c3] at h ⊢;obtain⟨n',de,a1,a2,a3,a4⟩:=Ix k (m+1) _ b _ _ _ h (by rw[List.length_set];exact hn) e2;exact⟨n',de,a1,a2,a3.trans List.length_set,a4⟩
    ·rw[if_neg c2] at h ⊢;by_cases c4:f.cM=true
     ·rw[if_pos c4] at h ⊢;by_cases c5:2<=b.length
      ·rw[if_pos c5] at h ⊢;obtain⟨n',de,a1,a2,a3,a4⟩:=Ix k m fs _ _ _ _ h ae hr;exact⟨n',de,a1,by omega,a3,a4⟩
      ·rw[if_neg c5] at h;cases h
     ·rw[if_neg c4] at h ⊢;obtain⟨n',de,a1,a2,a3,a4⟩:=Ix k m fs _ _ _ _ h ae hr;exact⟨n',de,a1,by omega,a3,a4⟩
theorem NG:∀(n:Nat) (fs:List Fr) (st:List Fr),n<=fs.length->(fs.take n).reverse=st->(below st=none->iC fs n= -1)/\(∀g r,below st=some (g,r)->∃i:Nat,iC fs n=(i:Int)/\i<n/\fs[i]? =some g/\(fs.take i).reverse=r)
 |0,fs,st,hn,e=>by rw[List.take_zero] at e;subst e;exact⟨fun _=>rfl,fun g r h=>by cases h⟩
 |n+1,fs,st,hn,e=>by
  cases st with
  |nil=>have:=congrArg List.length e;rw[List.length_reverse,List.length_take] at this;simp only[List.length_nil] at this;omega
  |cons f r=>
   obtain⟨m,Lp,hm,hf,hr⟩:=ND hn e;have Lp:n=m:=by omega
   subst Lp;have ef:=NF hf;obtain⟨h1,h2⟩:=NG n fs r ae hr;unfold below iC;rw[ef];by_cases c:f.cM=true
   ·rw[if_pos c,if_pos c];refine⟨fun h=>(by cases h),fun g r' h=>?_⟩;injection h with h;injection h with e1 e2
    subst e1;subst e2;exact⟨n,rfl,by omega,hf,hr⟩
   ·rw[if_neg c,if_neg c];refine⟨h1,fun g r' h=>?_⟩;obtain⟨i,a1,a2,a3,a4⟩:=h2 g r' h;exact⟨i,a1,by omega,a3,a4⟩
theorem CM:∀(k:Nat) (st:List Fr) (b:bO) (ba:List Fr) (b':bO),lO k st b=some (ba,b')->ba=[]\/∃f r,ba=f::r/\f.ah<(f.block.length:Int)
 |0,_,_,_,_,h=>by cases h
 |k+1,[],b,ba,b',h=>by
  unfold lO at h;injection h with h;injection h with h1 h2
  exact .inl h1.symm
 |k+1,f::r,b,ba,b',h=>by
  unfold lO at h;by_cases c1:f.ah<(f.block.length:Int)
  ·rw[if_pos c1] at h;injection h with h;injection h with h1 h2
   exact .inr ⟨f,r,h1.symm,c1⟩
  ·rw[if_neg c1] at h;by_cases c2:0<f.turns
   ·rw[if_pos c2] at h;by_cases c3:0<(f.block.length:Int)
    ·rw[if_pos c3] at h;injection h with h;injection h with h1 h2
     exact .inr ⟨_,r,h1.symm,c3⟩
    ·rw[if_neg c3] at h;exact CM k _ b _ _ h
   ·rw[if_neg c2] at h;by_cases c4:f.cM=true
    ·rw[if_pos c4] at h;by_cases c5:2<=b.length
     ·rw[if_pos c5] at h;exact CM k _ _ _ _ h
     ·rw[if_neg c5] at h;cases h
    ·rw[if_neg c4] at h;exact CM k _ _ _ _ h
theorem Zn{k:Nat}{st:List Fr}{b:bO}{ba:List Fr}{b':bO}(h:lO k st b=some (ba,b')):lO 1 ba b'=some (ba,b'):=by
 rcases CM k st b ba b' h with rfl|⟨f,r,rfl,hf⟩
 ·rfl
 ·unfold lO;rw[if_pos hf]
def dS(a:dW)(e:Ex):Int:=(zt e a.l a.aO).1
def Z8:List Int:=[0,0,0,0,0,0,0,0]
def mf(z:Int):Int:=eP (cP z 0) 8
def fin(a:dW)(st:List Fr)(b:bO):Option dW:=match lO 1000 st b with
 |some p=>some {a with fs:=p.1.reverse,b:=p.2}
 |none=>none
def D0(a:dW):Option dW:=match a.fs.reverse with
 |[]=>none
 |f::r=>match f.block[f.ah.toNat]? with
  |none=>none
  |some (.mk kind to ea eb bd el)=>
   if kind=1 then fin {a with l:=a.l.set to.toNat<|dS a ea,steps:=a.steps+1} ({f with ah:=f.ah+1}::r) a.b
   else if kind=2 then fin {a with l:=a.l.set to.toNat (ky a.b<|iG (dS a ea) a.vars).1,steps:=a.steps+1} ({f with ah:=f.ah+1}::r) a.b
   else if kind=3 then fin {a with steps:=a.steps+1} ({f with ah:=f.ah+1}::r) (ml a.b (iG (dS a ea) a.vars)<|dS a eb)
   else if kind=4 then fin {a with steps:=a.steps+1} (⟨if dS a ea≠0 then bd else el,0,0,false,Z8,none⟩::{f with ah:=f.ah+1}::r) a.b
   else if kind=5 then(if 0<mf (dS a ea) then fin {a with steps:=a.steps+1} (⟨bd,0,mf (dS a ea) - 1,false,Z8,none⟩::{f with ah:=f.ah+1}::r) a.b else fin {a with steps:=a.steps+1} ({f with ah:=f.ah+1}::r) a.b)
   else if kind=6 then(match below (f::r) with
    |some (⟨_,_,_,_,kept,some ol⟩,r')=>fin {a with l:=kept,steps:=a.steps+1} (⟨ol,0,0,false,Z8,none⟩::r') a.b.dropLast
    |_=>none)
   else if kind=7 then fin {a with steps:=a.steps+1} (⟨bd,0,0,true,a.l,some el⟩::{f with ah:=f.ah+1}::r) (a.b++[[]])
   else none
def A6(a:dW)(x:Int):Option dW:=match a.fs.reverse with
 |[]=>none
 |f::r=>match f.block[f.ah.toNat]? with
  |none=>none
  |some (.mk _ to _ _ _ _)=>fin {a with l:=a.l.set to.toNat x,steps:=a.steps+1} ({f with ah:=f.ah+1}::r) a.b
def eW(a:dW):Int×Int×Int:=match a.fs.reverse with
 |[]=>(3,0,0)
 |f::r=>match f.block[f.ah.toNat]? with
  |none=>(0,0,0)
  |some (.mk kind _ ea _ _ _)=>if kind=8 then(3,0,dS a ea) else if kind=6/\below (f::r)=none then(4,0,0) else if kind=2/\(ky a.b<|iG (dS a ea) a.vars).2=false then(2,iG (dS a ea) a.vars,0) else(1,0,0)
end ni
end
section
open Go Go.Rn Go.RowKit Go.Proofs
namespace pO
open cv fW eH gO fc cG dt cR cW fw eV fL fN fS gg fT gh gP gQ g9 ia iF iW jH jI fy gZ kZ lE jT lW ni Xn WD WE WG WH Xo Xp Xq
variable {to aG nn n2 wi:Int} {n1 c1 c m2 c2:Nat} {lb la:List Ex} {br fs bp:List Fr} {el bd:List St} {b1 b b2:bO} {a A1 A2:MN} {B:aL}
noncomputable section
def gM(fs:List Fr)(n:Nat):List Fr:=(fs.take n).set ((((0+n):Nat):Int) - 1).toNat ({(av (fs.take n)<|(((0+n):Nat):Int) - 1) with ah:=((av (fs.take n)<|(((0+n):Nat):Int) - 1).ah+1),turns:=(av (fs.take n)<|(((0+n):Nat):Int) - 1).turns}:Fr)
abbrev qo(fs:List Fr)(k:Nat)(f:Fr):List Fr:=fs.take k++[f]
noncomputable abbrev OU(ka to op nn:Int)(la:List Ex)(aG n2:Int)(lb:List Ex)(bd el:List St):List AV:=[.int .u8 ka,.int .i64 to,.int .u8 op,.int .i64 nn,.U (nm<|cN la) 0 la.length,.int .u8 aG,.int .i64 n2,.U (nm<|cN lb) 0 lb.length,.U (nm (bd.map aP).flatten) 0 bd.length,.U (nm (el.map aP).flatten) 0 el.length]
noncomputable abbrev zh(a:MN)(n c:Nat)(fs:List Fr)(b:bO):AS:=ak (ar++bx (dD 270 3<|dh a n c fs b)) 273
theorem j1{ka:Int}{kb:VS->List AV->AV×VS->Prop}{kc:Nat}(hk:(ka=1/\kb=zR/\kc=67)\/(ka=2/\kb=zA/\kc=68)\/(ka=3/\kb=ze/\kc=69)){n:Nat}{op:Int}(mc:Mt LM B)(m0:di a n c fs b)(h1:1<=n)(h6:n<=6)(b6:b.length<=6)(hs:mK fs n<|some<|St.mk ka to (.mk op nn la) (.mk aG n2 lb) bd el)(ke:nS a (iC fs n) b (some<|St.mk ka to (.mk op nn la) (.mk aG n2 lb) bd el)=(1,0,0))(aB:0<=(av (fs.take n)<|((0+n:Nat):Int) - 1).ah/\(av (fs.take n)<|((0+n:Nat):Int) - 1).ah<=1000000)(cm:0<=a.steps/\a.steps<=1000000000000)(mp:di {a with steps:=a.steps+1} (0+n) (0+n) (gM fs n) b)(m1:di A1 n1 c1 br b1)(lJ:di A2 m2 c2 bp b2)(hX:dJ kb (dh {a with steps:=a.steps+1} (0+n) (0+n) (gM fs n) b) [.agg<|aP<|St.mk ka to (.mk op nn la) (.mk aG n2 lb) bd el]=some (.tuple [],(dh A1 n1 c1 br b1)))(pZ:dJ eJ (dh A1 n1 c1 br b1) []=some (.tuple [],(dh A2 m2 c2 bp b2))):au pg B 271 (gW 270 3 pg (az Tryz.f45) (.int .i64 0)<|dh A2 m2 c2 bp b2) (sF 45 Tryz.f45 [(.ptr<|some (270,0))])<|zh a n c fs b:=by
 have hN:=xd m0 hs;have hK:=zf m0 h6 b6 hs;rw[ke] at hK;have hv:=tA mp<|.mk op nn la;have hA:=qm<|.mk op nn la;have eS:aP (St.mk ka to (.mk op nn la) (.mk aG n2 lb) bd el)=(OU ka to op nn la aG n2 lb bd el):=by rw[wU,aD,aD];rfl
 have hH:=xI<|St.mk ka to (.mk op nn la) (.mk aG n2 lb) bd el;unfold qz at hN;simp only[eS] at hN hH hX;simp only[aD] at hv hA;have hB:(AV.tuple [.agg<|OU ka to op nn la aG n2 lb bd el,.bool true]:AV).hi=true:=by show([_,AV.bool true].all AV.kj)=true;rw[List.all_cons,show(AV.agg _).kj=true from hH];rfl
 have qP:([.agg<|OU ka to op nn la aG n2 lb bd el]:List AV).all AV.hi=true:=by rw[List.all_cons,hH];rfl
 exact step1 hk (a:=a) (n:=n) (c:=c) (u:=bZ b) (fs:=fs) (A1:=A1) (m1:=n1) (c1:=c1) (u1:=bZ b1) (br:=br) (A2:=A2) (m2:=m2) (c2:=c2) (u2:=bZ b2) (bp:=bp) (N:=nm<|cN la) (L:=la.length) (N2:=nm<|cN lb) (L2:=lb.length) (to:=to) (op:=op) (nn:=nn) (aG:=aG) (n2:=n2) (bd:=bd) (el:=el) (z:=(dE a<|.mk op nn la)) (wi:=0) (t:=0) (ol:=[]) (fb:=[]) (fa:=0) (ft:=0) (fo:=false) (ub:=.tuple []) (y0:=0) (y1:=0) (y2:=0) (y3:=0) (y4:=0) (y5:=0) (y6:=0) (y7:=0) mc h1 m0.mW m0.p6 m0.len zL aB cm lJ.len lJ.aO.bG
  wt
  wt
  wt
  wt
  wt
  wt
  wt
  wt
  wt
  wt
  (BF mc)
noncomputable abbrev Dz(to op nn:Int)(la:List Ex)(aG n2:Int)(lb:List Ex)(bd el:List St):List AV:=[.int .u8 4,.int .i64 to,.int .u8 op,.int .i64 nn,.U (nm<|cN la) 0 la.length,.int .u8 aG,.int .i64 n2,.U (nm<|cN lb) 0 lb.length,.U (nm (bd.map aP).flatten) 0 bd.length,.U (nm (el.map aP).flatten) 0 el.length]
theorem j4y{n:Nat}{op:Int}(mc:Mt LM B)(m0:di a n c fs b)(h1:1<=n)(h6:n<=6)(b6:b.length<=6)(hs:mK fs n<|some<|St.mk 4 to (.mk op nn la) (.mk aG n2 lb) bd el)(ke:nS a (iC fs n) b (some<|St.mk 4 to (.mk op nn la) (.mk aG n2 lb) bd el)=(1,0,0))(aB:0<=(av (fs.take n)<|((0+n:Nat):Int) - 1).ah/\(av (fs.take n)<|((0+n:Nat):Int) - 1).ah<=1000000)(cm:0<=a.steps/\a.steps<=1000000000000)(mp:di {a with steps:=a.steps+1} (0+n) (0+n) (gM fs n) b)(m1:di A1 n1 c1 br b1)(lJ:di A2 m2 c2 bp b2)(mE:di {a with steps:=a.steps+1} (0+n+1) (0+n+1) (qo (gM fs n) (0+n) ⟨bd,0,0,false,Z8,none⟩) b)(hE:dJ eJ (dh {a with steps:=a.steps+1} (0+n+1) (0+n+1) (qo (gM fs n) (0+n) ⟨bd,0,0,false,Z8,none⟩) b) []=some (.tuple [],(dh A1 n1 c1 br b1)))(pZ:dJ eJ (dh A1 n1 c1 br b1) []=some (.tuple [],(dh A2 m2 c2 bp b2)))(hz:(dE a<|.mk op nn la)≠0):au pg B 271 (gW 270 3 pg (az Tryz.f45) (.int .i64 0)<|dh A2 m2 c2 bp b2) (sF 45 Tryz.f45 [(.ptr<|some (270,0))])<|zh a n c fs b:=by
 have hN:=xd m0 hs;have hK:=zf m0 h6 b6 hs;rw[ke] at hK;have hv:=tA mp<|.mk op nn la;have hA:=qm<|.mk op nn la;have eS:aP (St.mk 4 to (.mk op nn la) (.mk aG n2 lb) bd el)=(Dz to op nn la aG n2 lb bd el):=by rw[wU,aD,aD];rfl
 have hH:=xI<|St.mk 4 to (.mk op nn la) (.mk aG n2 lb) bd el;unfold qz at hN;simp only[eS] at hN hH;simp only[aD] at hv hA;have hB:(AV.tuple [.agg<|Dz to op nn la aG n2 lb bd el,.bool true]:AV).hi=true:=by show([_,AV.bool true].all AV.kj)=true;rw[List.all_cons,show(AV.agg _).kj=true from hH];rfl
 have qP:([.agg<|Dz to op nn la aG n2 lb bd el]:List AV).all AV.hi=true:=by rw[List.all_cons,hH];rfl
 exact agn (a:=a) (n:=n) (c:=c) (u:=bZ b) (fs:=fs) (A1:=A1) (m1:=n1) (c1:=c1) (u1:=bZ b1) (br:=br) (A2:=A2) (m2:=m2) (c2:=c2) (u2:=bZ b2) (bp:=bp) (N:=nm<|cN la) (L:=la.length) (N2:=nm<|cN lb) (L2:=lb.length) (to:=to) (op:=op) (nn:=nn) (aG:=aG) (n2:=n2) (bd:=bd) (el:=el) (z:=(dE a<|.mk op nn la)) (wi:=0) (t:=0) (ol:=[]) (fb:=[]) (fa:=0) (ft:=0) (fo:=false) (ub:=.tuple []) (y0:=0) (y1:=0) (y2:=0) (y3:=0) (y4:=0) (y5:=0) (y6:=0) (y7:=0) mc h1 m0.mW m0.p6 m0.len zL aB cm lJ.len lJ.aO.bG hz
  gp
  gp
  gp
  gp
  gp
  gp
  gp
  gp
  gp
  gp
  gp
  gp
  (BF mc)
theorem j4n{n:Nat}{op:Int}(mc:Mt LM B)(m0:di a n c fs b)(h1:1<=n)(h6:n<=6)(b6:b.length<=6)(hs:mK fs n<|some<|St.mk 4 to (.mk op nn la) (.mk aG n2 lb) bd el)(ke:nS a (iC fs n) b (some<|St.mk 4 to (.mk op nn la) (.mk aG n2 lb) bd el)=(1,0,0))(aB:0<=(av (fs.take n)<|((0+n:Nat):Int) - 1).ah/\(av (fs.take n)<|((0+n:Nat):Int) - 1).ah<=1000000)(cm:0<=a.steps/\a.steps<=1000000000000)(mp:di {a with steps:=a.steps+1} (0+n) (0+n) (gM fs n) b)(m1:di A1 n1 c1 br b1)(lJ:di A2 m2 c2 bp b2)(mE:di {a with steps:=a.steps+1} (0+n+1) (0+n+1) (qo (gM fs n) (0+n) ⟨el,0,0,false,Z8,none⟩) b)(hE:dJ eJ (dh {a with steps:=a.steps+1} (0+n+1) (0+n+1) (qo (gM fs n) (0+n) ⟨el,0,0,false,Z8,none⟩) b) []=some (.tuple [],(dh A1 n1 c1 br b1)))(pZ:dJ eJ (dh A1 n1 c1 br b1) []=some (.tuple [],(dh A2 m2 c2 bp b2)))(hz:(dE a<|.mk op nn la)=0):au pg B 271 (gW 270 3 pg (az Tryz.f45) (.int .i64 0)<|dh A2 m2 c2 bp b2) (sF 45 Tryz.f45 [(.ptr<|some (270,0))])<|zh a n c fs b:=by
 have hN:=xd m0 hs;have hK:=zf m0 h6 b6 hs;rw[ke] at hK;have hv:=tA mp<|.mk op nn la;have hA:=qm<|.mk op nn la;have eS:aP (St.mk 4 to (.mk op nn la) (.mk aG n2 lb) bd el)=(Dz to op nn la aG n2 lb bd el):=by rw[wU,aD,aD];rfl
 have hH:=xI<|St.mk 4 to (.mk op nn la) (.mk aG n2 lb) bd el;unfold qz at hN;simp only[eS] at hN hH;simp only[aD] at hv hA;have hB:(AV.tuple [.agg<|Dz to op nn la aG n2 lb bd el,.bool true]:AV).hi=true:=by show([_,AV.bool true].all AV.kj)=true;rw[List.all_cons,show(AV.agg _).kj=true from hH];rfl
 have qP:([.agg<|Dz to op nn la aG n2 lb bd el]:List AV).all AV.hi=true:=by rw[List.all_cons,hH];rfl
 exact ago (a:=a) (n:=n) (c:=c) (u:=bZ b) (fs:=fs) (A1:=A1) (m1:=n1) (c1:=c1) (u1:=bZ b1) (br:=br) (A2:=A2) (m2:=m2) (c2:=c2) (u2:=bZ b2) (bp:=bp) (N:=nm<|cN la) (L:=la.length) (N2:=nm<|cN lb) (L2:=lb.length) (to:=to) (op:=op) (nn:=nn) (aG:=aG) (n2:=n2) (bd:=bd) (el:=el) (z:=(dE a<|.mk op nn la)) (wi:=0) (t:=0) (ol:=[]) (fb:=[]) (fa:=0) (ft:=0) (fo:=false) (ub:=.tuple []) (y0:=0) (y1:=0) (y2:=0) (y3:=0) (y4:=0) (y5:=0) (y6:=0) (y7:=0) mc h1 m0.mW m0.p6 m0.len zL aB cm lJ.len lJ.aO.bG hz
  gp
  gp
  gp
  gp
  gp
  gp
  gp
  gp
  gp
  gp
  gp
  gp
  (BF mc)
noncomputable abbrev DA(to op nn:Int)(la:List Ex)(aG n2:Int)(lb:List Ex)(bd el:List St):List AV:=[.int .u8 5,.int .i64 to,.int .u8 op,.int .i64 nn,.U (nm<|cN la) 0 la.length,.int .u8 aG,.int .i64 n2,.U (nm<|cN lb) 0 lb.length,.U (nm (bd.map aP).flatten) 0 bd.length,.U (nm (el.map aP).flatten) 0 el.length]
theorem j5t{n:Nat}{op:Int}(mc:Mt LM B)(m0:di a n c fs b)(h1:1<=n)(h6:n<=6)(b6:b.length<=6)(hs:mK fs n<|some<|St.mk 5 to (.mk op nn la) (.mk aG n2 lb) bd el)(ke:nS a (iC fs n) b (some<|St.mk 5 to (.mk op nn la) (.mk aG n2 lb) bd el)=(1,0,0))(aB:0<=(av (fs.take n)<|((0+n:Nat):Int) - 1).ah/\(av (fs.take n)<|((0+n:Nat):Int) - 1).ah<=1000000)(cm:0<=a.steps/\a.steps<=1000000000000)(mp:di {a with steps:=a.steps+1} (0+n) (0+n) (gM fs n) b)(m1:di A1 n1 c1 br b1)(lJ:di A2 m2 c2 bp b2)(mE:di {a with steps:=a.steps+1} (0+n+1) (0+n+1) (qo (gM fs n) (0+n) ⟨bd,0,(mf<|dE a<|.mk op nn la) - 1,false,Z8,none⟩) b)(hE:dJ eJ (dh {a with steps:=a.steps+1} (0+n+1) (0+n+1) (qo (gM fs n) (0+n) ⟨bd,0,(mf<|dE a<|.mk op nn la) - 1,false,Z8,none⟩) b) []=some (.tuple [],(dh A1 n1 c1 br b1)))(pZ:dJ eJ (dh A1 n1 c1 br b1) []=some (.tuple [],(dh A2 m2 c2 bp b2)))(hz:0<mf (dE a<|.mk op nn la)/\mf (dE a<|.mk op nn la)<=8):au pg B 271 (gW 270 3 pg (az Tryz.f45) (.int .i64 0)<|dh A2 m2 c2 bp b2) (sF 45 Tryz.f45 [(.ptr<|some (270,0))])<|zh a n c fs b:=by
 have hN:=xd m0 hs;have hK:=zf m0 h6 b6 hs;rw[ke] at hK;have hv:=tA mp<|.mk op nn la;have hA:=qm<|.mk op nn la;have eS:aP (St.mk 5 to (.mk op nn la) (.mk aG n2 lb) bd el)=(DA to op nn la aG n2 lb bd el):=by rw[wU,aD,aD];rfl
 have hH:=xI<|St.mk 5 to (.mk op nn la) (.mk aG n2 lb) bd el;unfold qz at hN;simp only[eS] at hN hH;simp only[aD] at hv hA;have hB:(AV.tuple [.agg<|DA to op nn la aG n2 lb bd el,.bool true]:AV).hi=true:=by show([_,AV.bool true].all AV.kj)=true;rw[List.all_cons,show(AV.agg _).kj=true from hH];rfl
 have qP:([.agg<|DA to op nn la aG n2 lb bd el]:List AV).all AV.hi=true:=by rw[List.all_cons,hH];rfl
 exact agp (a:=a) (n:=n) (c:=c) (u:=bZ b) (fs:=fs) (A1:=A1) (m1:=n1) (c1:=c1) (u1:=bZ b1) (br:=br) (A2:=A2) (m2:=m2) (c2:=c2) (u2:=bZ b2) (bp:=bp) (N:=nm<|cN la) (L:=la.length) (N2:=nm<|cN lb) (L2:=lb.length) (to:=to) (op:=op) (nn:=nn) (aG:=aG) (n2:=n2) (bd:=bd) (el:=el) (z:=(dE a<|.mk op nn la)) (wi:=0) (t:=0) (ol:=[]) (fb:=[]) (fa:=0) (ft:=0) (fo:=false) (ub:=.tuple []) (y0:=0) (y1:=0) (y2:=0) (y3:=0) (y4:=0) (y5:=0) (y6:=0) (y7:=0) mc h1 m0.mW m0.p6 m0.len zL aB cm lJ.len lJ.aO.bG hz
  gp
  gp
  gp
  gp
  gp
  gp
  gp
  gp
  gp
  gp
  gp
  gp
  (BF mc)
theorem j5o{n:Nat}{op:Int}(mc:Mt LM B)(m0:di a n c fs b)(h1:1<=n)(h6:n<=6)(b6:b.length<=6)(hs:mK fs n<|some<|St.mk 5 to (.mk op nn la) (.mk aG n2 lb) bd el)(ke:nS a (iC fs n) b (some<|St.mk 5 to (.mk op nn la) (.mk aG n2 lb) bd el)=(1,0,0))(aB:0<=(av (fs.take n)<|((0+n:Nat):Int) - 1).ah/\(av (fs.take n)<|((0+n:Nat):Int) - 1).ah<=1000000)(cm:0<=a.steps/\a.steps<=1000000000000)(mp:di {a with steps:=a.steps+1} (0+n) (0+n) (gM fs n) b)(m1:di A1 n1 c1 br b1)(ju:mf (dE a<|.mk op nn la)<=0)(pZ:dJ eJ (dh {a with steps:=a.steps+1} (0+n) (0+n) (gM fs n) b) []=some (.tuple [],(dh A1 n1 c1 br b1))):au pg B 271 (gW 270 3 pg (az Tryz.f45) (.int .i64 0)<|dh A1 n1 c1 br b1) (sF 45 Tryz.f45 [(.ptr<|some (270,0))])<|zh a n c fs b:=by
 have hN:=xd m0 hs;have hK:=zf m0 h6 b6 hs;rw[ke] at hK;have hv:=tA mp<|.mk op nn la;have hA:=qm<|.mk op nn la;have eS:aP (St.mk 5 to (.mk op nn la) (.mk aG n2 lb) bd el)=(DA to op nn la aG n2 lb bd el):=by rw[wU,aD,aD];rfl
 have hH:=xI<|St.mk 5 to (.mk op nn la) (.mk aG n2 lb) bd el;unfold qz at hN;simp only[eS] at hN hH;simp only[aD] at hv hA;have hB:(AV.tuple [.agg<|DA to op nn la aG n2 lb bd el,.bool true]:AV).hi=true:=by show([_,AV.bool true].all AV.kj)=true;rw[List.all_cons,show(AV.agg _).kj=true from hH];rfl
 have qP:([.agg<|DA to op nn la aG n2 lb bd el]:List AV).all AV.hi=true:=by rw[List.all_cons,hH];rfl
 exact agq (a:=a) (n:=n) (c:=c) (u:=bZ b) (fs:=fs) (A1:=A1) (m1:=n1) (c1:=c1) (u1:=bZ b1) (br:=br) (A2:=A1) (m2:=n1) (c2:=c1) (u2:=bZ b1) (bp:=br) (N:=nm<|cN la) (L:=la.length) (N2:=nm<|cN lb) (L2:=lb.length) (to:=to) (op:=op) (nn:=nn) (aG:=aG) (n2:=n2) (bd:=bd) (el:=el) (z:=(dE a<|.mk op nn la)) (wi:=0) (t:=0) (ol:=[]) (fb:=[]) (fa:=0) (ft:=0) (fo:=false) (ub:=.tuple []) (y0:=0) (y1:=0) (y2:=0) (y3:=0) (y4:=0) (y5:=0) (y6:=0) (y7:=0) mc h1 m0.mW m0.p6 m0.len zL aB cm m1.len m1.aO.bG ju
  yv
  yv
  yv
  yv
  yv
  yv
  yv
  yv
  yv
  (BF mc)
noncomputable abbrev OV(to op nn:Int)(la:List Ex)(aG n2:Int)(lb:List Ex)(bd el:List St):List AV:=[.int .u8 7,.int .i64 to,.int .u8 op,.int .i64 nn,.U (nm<|cN la) 0 la.length,.int .u8 aG,.int .i64 n2,.U (nm<|cN lb) 0 lb.length,.U (nm (bd.map aP).flatten) 0 bd.length,.U (nm (el.map aP).flatten) 0 el.length]
theorem j7{n:Nat}{op:Int}(mc:Mt LM B)(m0:di a n c fs b)(h1:1<=n)(h6:n<=6)(b6:b.length<=6)(hs:mK fs n<|some<|St.mk 7 to (.mk op nn la) (.mk aG n2 lb) bd el)(ke:nS a (iC fs n) b (some<|St.mk 7 to (.mk op nn la) (.mk aG n2 lb) bd el)=(1,0,0))(aB:0<=(av (fs.take n)<|((0+n:Nat):Int) - 1).ah/\(av (fs.take n)<|((0+n:Nat):Int) - 1).ah<=1000000)(cm:0<=a.steps/\a.steps<=1000000000000)(mp:di {a with steps:=a.steps+1} (0+n) (0+n) (gM fs n) b)(m1:di A1 n1 c1 br b1)(lJ:di A2 m2 c2 bp b2)(mE:di {a with steps:=a.steps+1} (0+n+1) (0+n+1) (qo (gM fs n) (0+n) ⟨bd,0,0,true,a.l,some el⟩)<|b++[[]])(hE:dJ eJ (dh {a with steps:=a.steps+1} (0+n+1) (0+n+1) (qo (gM fs n) (0+n) ⟨bd,0,0,true,a.l,some el⟩)<|b++[[]]) []=some (.tuple [],(dh A1 n1 c1 br b1)))(pZ:dJ eJ (dh A1 n1 c1 br b1) []=some (.tuple [],(dh A2 m2 c2 bp b2)))(YC:b.length<7):au pg B 271 (gW 270 3 pg (az Tryz.f45) (.int .i64 0)<|dh A2 m2 c2 bp b2) (sF 45 Tryz.f45 [(.ptr<|some (270,0))])<|zh a n c fs b:=by
 have hN:=xd m0 hs;have hK:=zf m0 h6 b6 hs;rw[ke] at hK;have hv:=tA mp<|.mk op nn la;have hA:=qm<|.mk op nn la;have eS:aP (St.mk 7 to (.mk op nn la) (.mk aG n2 lb) bd el)=(OV to op nn la aG n2 lb bd el):=by rw[wU,aD,aD];rfl
 have hH:=xI<|St.mk 7 to (.mk op nn la) (.mk aG n2 lb) bd el;unfold qz at hN;simp only[eS] at hN hH;simp only[aD] at hv hA;have hB:(AV.tuple [.agg<|OV to op nn la aG n2 lb bd el,.bool true]:AV).hi=true:=by show([_,AV.bool true].all AV.kj)=true;rw[List.all_cons,show(AV.agg _).kj=true from hH];rfl
 have qP:([.agg<|OV to op nn la aG n2 lb bd el]:List AV).all AV.hi=true:=by rw[List.all_cons,hH];rfl
 have hD:eR (dG bZ JP) (bZ b) []=some ((.int .i64 0:AV),bZ<|b++[[]]):=by
  unfold eR;rw[AW wW];show(match ([]:List AV).all AV.hi with
   |true=>((if List.length b<7 then some ((AV.int .i64 0:AV),b++[[]]) else none).map (fun p:AV×bO=>((p.1,bZ p.2):AV×AV))).bind fun p:AV×AV=>match p.1.hi with
    |true=>some p
    |false=>none
   |false=>none)=_
  rw[if_pos YC];rfl
 exact aib (a:=a) (n:=n) (c:=c) (u:=bZ b) (fs:=fs) (A1:=A1) (m1:=n1) (c1:=c1) (u1:=bZ b1) (br:=br) (A2:=A2) (m2:=m2) (c2:=c2) (u2:=bZ b2) (bp:=bp) (N:=nm<|cN la) (L:=la.length) (N2:=nm<|cN lb) (L2:=lb.length) (to:=to) (op:=op) (nn:=nn) (aG:=aG) (n2:=n2) (bd:=bd) (el:=el) (z:=(dE a<|.mk op nn la)) (wi:=0) (t:=0) (ol:=[]) (fb:=[]) (fa:=0) (ft:=0) (fo:=false) (ub:=bZ<|b++[[]]) (y0:=0) (y1:=0) (y2:=0) (y3:=0) (y4:=0) (y5:=0) (y6:=0) (y7:=0) mc h1 m0.mW m0.p6 m0.len zL aB cm lJ.len lJ.aO.bG
  wq
  wq
  wq
  wq
  wq
  wq
  wq
  wq
  wq
  wq
  (BF mc)
noncomputable abbrev OW(to op nn:Int)(la:List Ex)(aG n2:Int)(lb:List Ex)(bd el:List St):List AV:=[.int .u8 6,.int .i64 to,.int .u8 op,.int .i64 nn,.U (nm<|cN la) 0 la.length,.int .u8 aG,.int .i64 n2,.U (nm<|cN lb) 0 lb.length,.U (nm (bd.map aP).flatten) 0 bd.length,.U (nm (el.map aP).flatten) 0 el.length]
theorem j6{n:Nat}{op y0 y1 y2 y3 y4 y5 y6 y7 fa ft:Int}{ol fb:List St}{fo:Bool}(mc:Mt LM B)(m0:di a n c fs b)(h1:1<=n)(h6:n<=6)(b6:b.length<=6)(hs:mK fs n<|some<|St.mk 6 to (.mk op nn la) (.mk aG n2 lb) bd el)(ke:nS a (iC fs n) b (some<|St.mk 6 to (.mk op nn la) (.mk aG n2 lb) bd el)=(1,0,0))(aB:0<=(av (fs.take n)<|((0+n:Nat):Int) - 1).ah/\(av (fs.take n)<|((0+n:Nat):Int) - 1).ah<=1000000)(cm:0<=a.steps/\a.steps<=1000000000000)(mp:di {a with steps:=a.steps+1} (0+n) (0+n) (gM fs n) b)(m1:di A1 n1 c1 br b1)(lJ:di A2 m2 c2 bp b2)(mE:di {a with steps:=a.steps+1,x0:=y0,x1:=y1,x2:=y2,x3:=y3,x4:=y4,x5:=y5,x6:=y6,x7:=y7} (wi.toNat+1) (wi.toNat+1) (qo (gM fs n) wi.toNat ⟨ol,0,0,false,Z8,none⟩) b.dropLast)(hE:dJ eJ (dh {a with steps:=a.steps+1,x0:=y0,x1:=y1,x2:=y2,x3:=y3,x4:=y4,x5:=y5,x6:=y6,x7:=y7} (wi.toNat+1) (wi.toNat+1) (qo (gM fs n) wi.toNat ⟨ol,0,0,false,Z8,none⟩) b.dropLast) []=some (.tuple [],(dh A1 n1 c1 br b1)))(pZ:dJ eJ (dh A1 n1 c1 br b1) []=some (.tuple [],(dh A2 m2 c2 bp b2)))(hwi:iC (gM fs n) (0+n)=wi)(hz:1<=wi/\wi<(n:Int))(bS:(gM fs n)[wi.toNat]? =some (⟨fb,fa,ft,fo,[y0,y1,y2,y3,y4,y5,y6,y7],some ol⟩:Fr))(yj:2<=b.length):au pg B 271 (gW 270 3 pg (az Tryz.f45) (.int .i64 0)<|dh A2 m2 c2 bp b2) (sF 45 Tryz.f45 [(.ptr<|some (270,0))])<|zh a n c fs b:=by
 have hN:=xd m0 hs;have hK:=zf m0 h6 b6 hs;rw[ke] at hK;have hv:=tA mp<|.mk op nn la;have hA:=qm<|.mk op nn la;have eS:aP (St.mk 6 to (.mk op nn la) (.mk aG n2 lb) bd el)=(OW to op nn la aG n2 lb bd el):=by rw[wU,aD,aD];rfl
 have hH:=xI<|St.mk 6 to (.mk op nn la) (.mk aG n2 lb) bd el;unfold qz at hN;simp only[eS] at hN hH;simp only[aD] at hv hA;have hB:(AV.tuple [.agg<|OW to op nn la aG n2 lb bd el,.bool true]:AV).hi=true:=by show([_,AV.bool true].all AV.kj)=true;rw[List.all_cons,show(AV.agg _).kj=true from hH];rfl
 have qP:([.agg<|OW to op nn la aG n2 lb bd el]:List AV).all AV.hi=true:=by rw[List.all_cons,hH];rfl
 have hW:=Tp mp ae;rw[hwi] at hW;have hD:eR (dG bZ JQ) (bZ b) []=some ((.int .i64 0:AV),bZ b.dropLast):=by
  unfold eR;rw[AW wW];show(match ([]:List AV).all AV.hi with
   |true=>((if 2<=List.length b/\List.length b<=6 then some ((AV.int .i64 0:AV),b.dropLast) else none).map (fun p:AV×bO=>((p.1,bZ p.2):AV×AV))).bind fun p:AV×AV=>match p.1.hi with
    |true=>some p
    |false=>none
   |false=>none)=_
  rw[if_pos ⟨yj,b6⟩];rfl
 exact aic (a:=a) (n:=n) (c:=c) (u:=bZ b) (fs:=fs) (A1:=A1) (m1:=n1) (c1:=c1) (u1:=bZ b1) (br:=br) (A2:=A2) (m2:=m2) (c2:=c2) (u2:=bZ b2) (bp:=bp) (N:=nm<|cN la) (L:=la.length) (N2:=nm<|cN lb) (L2:=lb.length) (to:=to) (op:=op) (nn:=nn) (aG:=aG) (n2:=n2) (bd:=bd) (el:=el) (z:=(dE a<|.mk op nn la)) (wi:=wi) (t:=0) (ol:=ol) (fb:=fb) (fa:=fa) (ft:=ft) (fo:=fo) (ub:=bZ b.dropLast) (y0:=y0) (y1:=y1) (y2:=y2) (y3:=y3) (y4:=y4) (y5:=y5) (y6:=y6) (y7:=y7) mc h1 m0.mW m0.p6 m0.len zL aB cm lJ.len lJ.aO.bG hz
  qQ
  qQ
  qQ
  qQ
  qQ
  qQ
  qQ
  qQ
  qQ
  qQ
  qQ
  qQ
  qQ
  (BF mc)
noncomputable abbrev OX(to op nn:Int)(la:List Ex)(aG n2:Int)(lb:List Ex)(bd el:List St):List AV:=[.int .u8 2,.int .i64 to,.int .u8 op,.int .i64 nn,.U (nm<|cN la) 0 la.length,.int .u8 aG,.int .i64 n2,.U (nm<|cN lb) 0 lb.length,.U (nm (bd.map aP).flatten) 0 bd.length,.U (nm (el.map aP).flatten) 0 el.length]
theorem jA{n:Nat}{op xx:Int}(mc:Mt LM B)(m0:di a n c fs b)(h1:1<=n)(h6:n<=6)(b6:b.length<=6)(hs:mK fs n<|some<|St.mk 2 to (.mk op nn la) (.mk aG n2 lb) bd el)(ke:nS a (iC fs n) b (some<|St.mk 2 to (.mk op nn la) (.mk aG n2 lb) bd el)=(2,wi,0))(aB:0<=(av (fs.take n)<|((0+n:Nat):Int) - 1).ah/\(av (fs.take n)<|((0+n:Nat):Int) - 1).ah<=1000000)(cm:0<=a.steps/\a.steps<=1000000000000)(mp:di {a with steps:=a.steps+1} (0+n) (0+n) (gM fs n) b)(m1:di A1 n1 c1 br b1)(h0:0<=to)(h8:to<8)(mx:di (MN.ib {a with steps:=a.steps+1} to xx) (0+n) (0+n) (gM fs n) b)(pZ:dJ eJ (dh (MN.ib {a with steps:=a.steps+1} to xx) (0+n) (0+n) (gM fs n) b) []=some (.tuple [],(dh A1 n1 c1 br b1))):au pg B 271 (gW 270 3 pg (az Tryz.f51) (.int .i64 0)<|dh A1 n1 c1 br b1) (sF 51 Tryz.f51 [(.ptr<|some (270,0)),(i6 xx)])<|zh a n c fs b:=by
 have hN:=xd m0 hs;have hK:=zf m0 h6 b6 hs;rw[ke] at hK;have hv:=tA mp<|.mk op nn la;have hA:=qm<|.mk op nn la;have eS:aP (St.mk 2 to (.mk op nn la) (.mk aG n2 lb) bd el)=(OX to op nn la aG n2 lb bd el):=by rw[wU,aD,aD];rfl
 have hH:=xI<|St.mk 2 to (.mk op nn la) (.mk aG n2 lb) bd el;unfold qz at hN;simp only[eS] at hN hH;simp only[aD] at hv hA;have hB:(AV.tuple [.agg<|OX to op nn la aG n2 lb bd el,.bool true]:AV).hi=true:=by show([_,AV.bool true].all AV.kj)=true;rw[List.all_cons,show(AV.agg _).kj=true from hH];rfl
 have qP:([.agg<|OX to op nn la aG n2 lb bd el]:List AV).all AV.hi=true:=by rw[List.all_cons,hH];rfl
 have hx:= @OP {a with steps:=a.steps+1} (0+n) (0+n) (gM fs n) b to xx h0 h8;unfold gQ.vM at hx;rw[←hx] at pZ;have X3:=mx.bH;rw[←hx] at X3;exact aid (a:=a) (n:=n) (c:=c) (u:=bZ b) (fs:=fs) (A1:=A1) (m1:=n1) (c1:=c1) (u1:=bZ b1) (br:=br) (A2:=A1) (m2:=n1) (c2:=c1) (u2:=bZ b1) (bp:=br) (N:=nm<|cN la) (L:=la.length) (N2:=nm<|cN lb) (L2:=lb.length) (to:=to) (op:=op) (nn:=nn) (aG:=aG) (n2:=n2) (bd:=bd) (el:=el) (z:=(dE a<|.mk op nn la)) (wi:=wi) (t:=0) (ol:=[]) (fb:=[]) (fa:=0) (ft:=0) (fo:=false) (ub:=.tuple []) (y0:=0) (y1:=0) (y2:=0) (y3:=0) (y4:=0) (y5:=0) (y6:=0) (y7:=0) (xx:=xx) mc h1 m0.mW m0.p6 m0.len zL aB cm m1.len m1.aO.bG h0 h8
  Cq
  Cq
  Cq
  Cq
  Cq
  Cq
  Cq
  (aia mc)
end
end pO
end
section
open Go Go.Rn Go.RowKit Go.Proofs
namespace pP
open cv fW eH gO fc cG dt cR cW fw eV fL fN fS gg fT gh gP gQ g9 ia iF iW jH jI fy gZ kZ lE jT lW ni pO
variable {fs ba st:List Fr} {b b':bO} {A:MN} {s:AS} {rs:List ResultVar} {k:Nat} {P:Program} {B:aL}
theorem Qb{n m:Nat}{Q Q':Tr AV->List Nat->Option Code->AS->Prop}{fr:AF}(hm:m<=n)(h:∀t d j s,Q t d j s->Q' t d j s)(H:au P B n Q fr s):au P B m Q' fr s:=by intro ρ w b a cs q1 q2 q3;obtain⟨aV,j,s1,σ,a',w',e1,e2,e3,e4⟩:=H ρ w b a cs q1 q2 q3;exact⟨aV,j,s1,σ,a',w',h _ _ _ _ e1,by omega,fun k hk ht=>e3 k ae ht,e4⟩
theorem Xr{R R':AV->AS->Prop}(h:∀y s,R y s->R' y s):∀t d j s,Rn.Fin P rs R t d j s->Rn.Fin P rs R' t d j s:=by intro t d j s q;obtain⟨v,s2,a,b⟩:=q;exact⟨v,s2,a,h _ _ b⟩
noncomputable def mn(a:dW):MN:=⟨a.vars,nm (a.aO.map zq).flatten,0,a.aO.length,a.aO,a.l.getD 0 0,a.l.getD 1 0,a.l.getD 2 0,a.l.getD 3 0,a.l.getD 4 0,a.l.getD 5 0,a.l.getD 6 0,a.l.getD 7 0,a.steps⟩
theorem Xs{a:dW}(h:a.l.length=8):(mn a).l=a.l:=(JS a.l h).symm
theorem mq{a:dW}(h:a.l.length=8)(e:Ex):dE (mn a) e=dS a e:=by unfold dE dS;rw[Xs h];rfl
theorem Uh(a:dW)(bM:List Fr)(c:Nat):dD 270 3 (dh (mn a) a.fs.length c (a.fs++bM) a.b)=ks a bM c:=rfl
structure Good (a:dW):Prop where
 ok:Bj a
 oh:im a.fs
 gy:a.fs.length<=6
 b6:a.b.length<=6
 steps:0<=a.steps/\a.steps<=1000000000000
 ah:∀f∈a.fs,0<=f.ah/\f.ah<=1000000
theorem im.app{l m:List Fr}(h:im l)(k:im m):im<|l++m:=fun f hf=>by
 rcases List.mem_append.1 hf with q|q
 ·exact h f q
 ·exact k f q
theorem im.take{l:List Fr}(h:im l)(n:Nat):im<|l.take n:=fun f hf=>h f<|List.mem_of_mem_take hf
section
variable {a:dW} {bM:List Fr} {c:Nat} {f:Fr} {r:List Fr} {m:Nat}
theorem Good.eB(h:Good a)(hj:nA a bM c):di (mn a) a.fs.length c (a.fs++bM) a.b:=⟨eh.aS Lq a.aO,h.ok.2.1,im.app h.oh hj.2.2,by rw[List.length_append];omega,hj.1,hj.2.1,h.ok.2.2.2.2⟩
theorem Ig:∀{k n:Nat} {fs:List Fr} {b:bO} {n':Nat} {de:List Fr} {b':bO},oy k n fs b=some (n',de,b')->n<=fs.length->im fs->fq b->im de/\fq b'
 |0,_,_,_,_,_,_,h,_,_,_=>by cases h
 |k+1,n,fs,b,n',de,b',h,hn,hf,hb=>by
  unfold oy at h;by_cases n0:n=0
  ·rw[if_pos n0] at h;injection h with h;injection h with e1 h;injection h with e2 e3
   subst e2;subst e3;exact⟨hf,hb⟩
  ·rw[if_neg n0] at h;simp only at h;have aB:=hf.at<|(n:Int) - 1;have hk:=hf.kept (z:=(n:Int) - 1) ae ae;by_cases c1:(av fs<|(n:Int) - 1).ah<(((av fs<|(n:Int) - 1).block.length:Nat):Int)
   ·rw[if_pos c1] at h;injection h with h;injection h with e1 h;injection h with e2 e3
    subst e2;subst e3;exact⟨hf,hb⟩
   ·rw[if_neg c1] at h;by_cases c2:0<(av fs<|(n:Int) - 1).turns
    ·rw[if_pos c2] at h;have hs:im<|fs.set ((n:Int) - 1).toNat {av fs ((n:Int) - 1) with ah:=0,turns:=(av fs<|(n:Int) - 1).turns - 1}:=hf.set ⟨⟨by show 0<=_ - 1;omega,by show _ - 1<=1000000;omega⟩,hk⟩;by_cases c3:0<(((av fs<|(n:Int) - 1).block.length:Nat):Int)
     ·rw[if_pos c3] at h;injection h with h;injection h with e1 h;injection h with e2 e3
      subst e2;subst e3;exact⟨hs,hb⟩
     ·rw[if_neg c3] at h;exact Ig h (by rw[List.length_set];exact hn) hs hb
    ·rw[if_neg c2] at h;by_cases c4:(av fs<|(n:Int) - 1).cM=true
     ·rw[if_pos c4] at h;by_cases c5:2<=b.length
      ·rw[if_pos c5] at h;exact Ig h ae hf<|IP hb c5
      ·rw[if_neg c5] at h;cases h
     ·rw[if_neg c4] at h;exact Ig h ae hf hb
structure jR (A:MN) (n c:Nat) (fs:List Fr) (b:bO) (ba:List Fr) (b':bO) (n':Nat) (de:List Fr):Prop where
 eB:di A n' c de b'
 run:dJ eJ (dh A n c fs b) []=some (.tuple [],dh A n' c de b')
 eq:(de.take n').reverse=ba
 len:de.length=fs.length
 le:n'<=n
theorem ru{n c:Nat}(m:di A n c fs b)(e:(fs.take n).reverse=st)(h:lO k st b=some (ba,b')):∃n' de,jR A n c fs b ba b' n' de:=by
 obtain⟨n',de,a1,a2,a3,a4⟩:=Ix k n fs b st ba b' h m.mW e;obtain⟨q1,q2⟩:=Ig a1 m.mW m.oh m.buf;have eZ:n'<=de.length:=by rw[a3];have:=m.mW;omega
 exact⟨n',de,⟨m.aO,q2,q1,eZ,by have:=m.p6;omega,by rw[a3];exact m.len,m.vars⟩,abF m a1,a4,a3,a2⟩
theorem jR.again{n c:Nat}{n':Nat}{de:List Fr}(h:lO k st b=some (ba,b'))(d:jR A n c fs b ba b' n' de):∃n2 bp,jR A n' c de b' ba b' n2 bp:=ru d.eB d.eq<|Zn h
theorem tB{fr:AF}{n c:Nat}{y:AV}{a':dW}(hA:A=mn a')(hb:b=a'.b)(ok:Bj a')(m:di A n c fs b)(e:(fs.take n).reverse=a'.fs.reverse)(H:au pg B 271 (gW 270 3 pg rs y<|dh A n c fs b) fr s):au pg B 271 (iD XT pg rs 4 y<|dk a') fr s:=by
 subst hA;subst hb;have e:fs.take n=a'.fs:=List.reverse_inj.1 e;have hl:a'.fs.length=n:=by rw[←e,List.length_take];have:=m.mW;omega
 have e2:fs=a'.fs++fs.drop n:=by rw[←e,List.take_append_drop]
 refine Qb (Nat.le_refl _) (Xr fun y1 s' q=>⟨q.1,ks a' (fs.drop n) c,XT.BQ a' ok _ c ⟨by rw[hl];exact m.p6,by rw[←e2];exact m.len,fun f hf=>m.oh f<|List.mem_of_mem_drop hf⟩,?_⟩) H;have hx:=q.2;rw[←Uh,hl, ←e2];exact hx
structure nF (a:dW) (bM:List Fr) (f:Fr) (r:List Fr) (m:Nat):Prop where
 n:a.fs.length=m+1
 get:(a.fs++bM)[m]? =some f
 rest:((a.fs++bM).take m).reverse=r
 all:((a.fs++bM).take<|m+1).reverse=f::r
 mem:f∈a.fs
theorem OY(h:a.fs.reverse=f::r):∃m,nF a bM f r m:=by
 have e:(a.fs++bM).take a.fs.length=a.fs:=List.take_left;have e2:((a.fs++bM).take a.fs.length).reverse=f::r:=by rw[e];exact h
 obtain⟨m,h1,h2,h3,h4⟩:=ND (by rw[List.length_append];omega) e2;refine⟨m,h1,h3,h4,by rw[←h1];exact e2,?_⟩;have:f∈a.fs.reverse:=by rw[h];exact List.mem_cons_self
 exact List.mem_reverse.1 this
theorem sY(t:nF a bM f r m)(h0:0<=f.ah){s:St}(hs:f.block[f.ah.toNat]? =some s):mK (a.fs++bM) a.fs.length<|some s:=by
 have e:zS (a.fs++bM) a.fs.length=f:=by unfold zS;rw[t.n];exact Ug t.get
 exact .inr ⟨by rw[t.n];omega,by rw[e];exact h0,s,by rw[e];exact hs,rfl⟩
theorem Jn(t:nF a bM f r m):av ((a.fs++bM).take a.fs.length) (((0+a.fs.length:Nat):Int) - 1)=f/\gM (a.fs++bM) a.fs.length=((a.fs++bM).take a.fs.length).set m {f with ah:=f.ah+1}:=by
 have e0:((((0+a.fs.length):Nat):Int) - 1)=(m:Int):=by rw[t.n];omega
 have hg:((a.fs++bM).take a.fs.length)[m]? =some f:=by rw[List.getElem?_take_of_lt qI];exact t.get
 have e:av ((a.fs++bM).take a.fs.length) (((0+a.fs.length:Nat):Int) - 1)=f:=by rw[e0];exact NF hg
 refine⟨e,?_⟩;unfold gM;rw[e,e0];rfl
theorem s8(t:nF a bM f r m):(gM (a.fs++bM) a.fs.length).length=a.fs.length/\((gM (a.fs++bM) a.fs.length).take<|0+a.fs.length).reverse={f with ah:=f.ah+1}::r/\gM (a.fs++bM) a.fs.length=(gM (a.fs++bM) a.fs.length).take (0+a.fs.length):=by
 have e:(a.fs++bM).take a.fs.length=a.fs:=List.take_left;have el:(gM (a.fs++bM) a.fs.length).length=a.fs.length:=by rw[(Jn t).2,e,List.length_set]
 refine⟨el,?_,by rw[List.take_of_length_le (by rw[el];omega)]⟩;rw[(Jn t).2,e,Nat.zero_add,t.n,take_set _ qI];have:=t.rest;rw[List.take_append_of_le_length qI] at this;rw[this]
theorem Good.mp(h:Good a)(hj:nA a bM c)(t:nF a bM f r m):di {mn a with steps:=a.steps+1} (0+a.fs.length) (0+a.fs.length) (gM (a.fs++bM) a.fs.length) a.b:=by obtain⟨p1,p2,p3⟩:=s8 t;refine⟨(h.eB hj).aO,h.ok.2.1,?_,by rw[p1];omega,Nat.le_refl _,by rw[p1];have:=h.gy;omega,(h.eB hj).vars⟩;rw[(Jn t).2];exact(im.take (h.eB hj).oh _).set<|h.oh f t.mem
theorem Good.aB(h:Good a)(t:nF a bM f r m):0<=(av ((a.fs++bM).take a.fs.length)<|((0+a.fs.length:Nat):Int) - 1).ah/\(av ((a.fs++bM).take a.fs.length)<|((0+a.fs.length:Nat):Int) - 1).ah<=1000000:=by rw[(Jn t).1];exact h.ah f t.mem
theorem tC(h:Good a)(t:nF a bM f r m)(cm:a.fs.reverse=f::r)(s:St)(hs:f.block[f.ah.toNat]? =some s):nS (mn a) (iC (a.fs++bM) a.fs.length) a.b (some s)=eW a:=by
 obtain⟨kind,to,ea,eb,bd,el⟩:=s;have hw:=NG a.fs.length (a.fs++bM) (f::r) (by rw[List.length_append];omega) (by rw[t.n];exact t.all);unfold eW;rw[Ft,cm];simp only[hs,mq h.ok.1];have ev:(mn a).vars=a.vars:=rfl;rw[ev];by_cases c8:kind=8
 ·rw[if_pos c8,if_pos c8]
 ·rw[if_neg c8,if_neg c8];cases hb:below (f::r) with
  |none=>
   have e:=hw.1 hb;rw[e];by_cases c6:kind=6
   ·rw[if_pos ⟨c6,by omega⟩,if_pos ⟨c6,rfl⟩]
   ·simp only[c6,false_and,if_false]
  |some p=>obtain⟨i,e,_⟩:=hw.2 p.1 p.2 hb;rw[e,if_neg (show ¬(kind=6/\(i:Int)<0) from fun q=>by have:=q.2;omega),if_neg (show ¬(kind=6/\some p=none) from fun q=>by cases q.2)]
end
end pP
end
section
open Go Go.Rn Go.RowKit Go.Proofs
namespace rV
open cv fW eH gO fc cG dt cR cW fw eV fL fN fS gg fT gh gP gQ g9 ia iF iW jH jI fy gZ kZ lE jT lW ni pO pP
variable {b b':bO} {fs:List Fr} {s:Int} {A:MN}
theorem len8{l:List Int}(h:l.length=8):∃a b c d e f g i,l=[a,b,c,d,e,f,g,i]:=⟨_,_,_,_,_,_,_,_,JS l h⟩
theorem Om{a:dW}(h:a.l.length=8){to z:Int}(h0:0<=to)(h8:to<8):MN.ib {mn a with steps:=s} to z=mn ⟨a.vars,a.aO,a.l.set to.toNat z,b,fs,s⟩:=by obtain⟨vars,aO,l,b0,fs0,st⟩:=a;obtain⟨x0,x1,x2,x3,x4,x5,x6,x7,rfl⟩:=len8 h;rcases Va h0 h8 with rfl|rfl|rfl|rfl|rfl|rfl|rfl|rfl<;>rfl
theorem FJ{A':MN}{n c k:Nat}{g:Fr}(m:di A n c fs b)(hk:k<=fs.length)(hl:fs.length<=1000)(e1:A'.G=A.G/\A'.q=A.q/\A'.lg=A.lg/\A'.aO=A.aO/\A'.vars=A.vars)(hg:(0<=g.turns/\g.turns<=1000000)/\g.kept.length=8)(hb:fq b'):
 di A' (k+1) (k+1) (qo fs k g) b'/\((qo fs k g).take<|k+1).reverse=g::(fs.take k).reverse:=by
 have hlen:(qo fs k g).length=k+1:=by rw[List.length_append,List.length_take];simp only[List.length_cons,List.length_nil];omega
 obtain⟨q1,q2,q3,q4,q5⟩:=e1;refine⟨⟨by rw[q1,q2,q3,q4];exact m.aO,hb,im.app (im.take m.oh k) fun f hf=>?_,by rw[hlen];omega,Nat.le_refl _,by rw[hlen];omega,by rw[q5];exact m.vars⟩,?_⟩
 ·rw[List.mem_singleton] at hf;subst hf;exact hg
 ·rw[List.take_of_length_le (by rw[hlen];omega)];simp only[List.reverse_append,List.reverse_cons,List.reverse_nil,List.nil_append,List.cons_append]
structure uR (a:dW) (f:Fr) (r:List Fr) (kind to:Int):Prop where
 ah:0<=f.ah
 to:kind=1\/kind=2->0<=to/\to<8
 aie:kind=6->∀g r',below (f::r)=some (g,r')->r'≠[]/\2<=a.b.length
theorem uS{a a':dW}{st:List Fr}(h:fin a st b=some a'):∃ba b',lO 1000 st b=some (ba,b')/\a'={a with fs:=ba.reverse,b:=b'}:=by
 unfold fin at h;split at h
 ·rename_i p e;injection h with h;exact⟨p.1,p.2,e,h.symm⟩
 ·cases h
theorem uT{a:dW}(h:Bj a){l:List Int}{ba:List Fr}{n c n':Nat}{de:List Fr}(d:jR A n c fs b ba b' n' de)(hl:l.length=8)(hn:n<=1000):Bj ⟨a.vars,a.aO,l,b',ba.reverse,s⟩:=by refine⟨hl,d.eB.buf,?_,h.2.2.2.1,h.2.2.2.2⟩;show ba.reverse.length<=1000;rw[←d.eq,List.reverse_reverse,List.length_take];have:=d.le;omega
theorem Tq{f f1:Fr}{r:List Fr}(ho:f1.cM=f.cM):below (f1::r)=if f.cM=true then some (f1,r) else below r:=by show(if f1.cM=true then some (f1,r) else below r)=_;rw[ho]
theorem Ui(z:Int):mf z<=8:=by
 unfold mf eP;split<;>rename_i q
 ·omega
 ·have:=of_decide_eq_false q;omega
noncomputable abbrev LS:bV:=[Qa,mm,iE,jF,kP,me,yU,P8,Pt,OM,OI,OJ]
section
variable {B:aL} {a a':dW} {bM:List Fr} {c m:Nat} {f:Fr} {r:List Fr} {kind to:Int} {ea eb:Ex} {bd el:List St}
theorem aeM(mc:Mt LS B)(h:Good a)(hj:nA a bM c)(t:nF a bM f r m)(cm:a.fs.reverse=f::r)(hs:f.block[f.ah.toNat]? =some (.mk 1 to ea eb bd el))(hd:uR a f r 1 to)(hk:eW a=(1,0,0))(hf:fin {a with l:=a.l.set to.toNat<|dS a ea,steps:=a.steps+1} ({f with ah:=f.ah+1}::r) a.b=some a'):
 au pg B 271 (iD XT pg (az Tryz.f45) 4 (.int .i64 0)<|dk a') (sF 45 Tryz.f45 [.ptr<|some (270,0)]) (ak (ar++bx (ks a bM c)) 273):=by
 obtain⟨ba,b',e1,rfl⟩:=uS hf;have h0:=(hd.to<|.inl rfl);have mp:=h.mp hj t;obtain⟨p1,p2,p3⟩:=s8 t;obtain⟨op,nn,la⟩:=ea;obtain⟨aG,n2,lb⟩:=eb;obtain⟨n',de,d⟩:=ru (mp.ib (i:=to) (z:=dS a<|.mk op nn la)) p2 e1;have ev:dE {mn a with steps:=a.steps+1} (.mk op nn la)=dS a (.mk op nn la):=mq h.ok.1 _;have hX:=agm mp (kind:=1) (ea:=.mk op nn la) (eb:=.mk aG n2 lb) (bd:=bd) (el:=el) h0.1 h0.2;rw[ev] at hX;have key:=j1 (.inl ⟨rfl,rfl,rfl⟩) mc (h.eB hj) qI h.gy h.b6 (sY t hd.ah hs) ((tC h t cm _ hs).trans hk) (h.aB t) h.steps mp mp.ib d.eB hX d.run;exact tB (a':=⟨a.vars,a.aO,a.l.set to.toNat<|dS a<|.mk op nn la,b',ba.reverse,a.steps+1⟩) (Om h.ok.1 h0.1 h0.2) rfl (uT h.ok d (by rw[List.length_set];exact h.ok.1) (by have:=h.gy;omega)) d.eB GX key
theorem aeN(mc:Mt LS B)(h:Good a)(hj:nA a bM c)(t:nF a bM f r m)(cm:a.fs.reverse=f::r)(hs:f.block[f.ah.toNat]? =some (.mk 2 to ea eb bd el))(hd:uR a f r 2 to)(hk:eW a=(1,0,0))(hf:fin {a with l:=a.l.set to.toNat (ky a.b<|iG (dS a ea) a.vars).1,steps:=a.steps+1} ({f with ah:=f.ah+1}::r) a.b=some a'):
 au pg B 271 (iD XT pg (az Tryz.f45) 4 (.int .i64 0)<|dk a') (sF 45 Tryz.f45 [.ptr<|some (270,0)]) (ak (ar++bx (ks a bM c)) 273):=by
 obtain⟨ba,b',e1,rfl⟩:=uS hf;have mp:=h.mp hj t;obtain⟨p1,p2,p3⟩:=s8 t;have n6:=h.gy;obtain⟨op,nn,la⟩:=ea;obtain⟨aG,n2,lb⟩:=eb;have ev:dE {mn a with steps:=a.steps+1} (.mk op nn la)=dS a (.mk op nn la):=mq h.ok.1 _;have uE:dE (mn a) (.mk op nn la)=dS a (.mk op nn la):=mq h.ok.1 _;have h0:=(hd.to<|.inr rfl);obtain⟨n',de,d⟩:=ru (mp.ib (i:=to) (z:=(ky a.b<|iG (dS a<|.mk op nn la) a.vars).1)) p2 e1;have hX:=aeK mp h.b6 (kind:=2) (ea:=.mk op nn la) (eb:=.mk aG n2 lb) (bd:=bd) (el:=el) h0.1 h0.2;rw[ev] at hX;have key:=j1 (.inr<|.inl ⟨rfl,rfl,rfl⟩) mc (h.eB hj) qI h.gy h.b6 (sY t hd.ah hs) ((tC h t cm _ hs).trans hk) (h.aB t) h.steps mp mp.ib d.eB hX d.run;exact tB (a':=⟨a.vars,a.aO,a.l.set to.toNat (ky a.b<|iG (dS a<|.mk op nn la) a.vars).1,b',ba.reverse,a.steps+1⟩) (Om h.ok.1 h0.1 h0.2) rfl (uT h.ok d (by rw[List.length_set];exact h.ok.1) ae) d.eB GX key
theorem aeO(mc:Mt LS B)(h:Good a)(hj:nA a bM c)(t:nF a bM f r m)(cm:a.fs.reverse=f::r)(hs:f.block[f.ah.toNat]? =some (.mk 3 to ea eb bd el))(hd:uR a f r 3 to)(hk:eW a=(1,0,0))(hf:fin {a with steps:=a.steps+1} ({f with ah:=f.ah+1}::r) (ml a.b (iG (dS a ea) a.vars)<|dS a eb)=some a'):
 au pg B 271 (iD XT pg (az Tryz.f45) 4 (.int .i64 0)<|dk a') (sF 45 Tryz.f45 [.ptr<|some (270,0)]) (ak (ar++bx (ks a bM c)) 273):=by
 obtain⟨ba,b',e1,rfl⟩:=uS hf;have mp:=h.mp hj t;obtain⟨p1,p2,p3⟩:=s8 t;have n6:=h.gy;obtain⟨op,nn,la⟩:=ea;obtain⟨aG,n2,lb⟩:=eb;have ev:dE {mn a with steps:=a.steps+1} (.mk op nn la)=dS a (.mk op nn la):=mq h.ok.1 _;have uE:dE (mn a) (.mk op nn la)=dS a (.mk op nn la):=mq h.ok.1 _;have ev2:dE {mn a with steps:=a.steps+1} (.mk aG n2 lb)=dS a (.mk aG n2 lb):=mq h.ok.1 _;have mb:di {mn a with steps:=a.steps+1} (0+a.fs.length) (0+a.fs.length) (gM (a.fs++bM) a.fs.length)<|ml a.b (iG (dS a<|.mk op nn la) a.vars)<|dS a<|.mk aG n2 lb:=⟨mp.aO,M4 mp.buf _ _,mp.oh,mp.mW,mp.p6,mp.len,mp.vars⟩;obtain⟨n',de,d⟩:=ru mb p2 e1;have hX:=ac2 mp h.b6 (kind:=3) (to:=to) (ea:=.mk op nn la) (eb:=.mk aG n2 lb) (bd:=bd) (el:=el);rw[ev,ev2] at hX;have key:=j1 (.inr<|.inr ⟨rfl,rfl,rfl⟩) mc (h.eB hj) qI h.gy h.b6 (sY t hd.ah hs) ((tC h t cm _ hs).trans hk) (h.aB t) h.steps mp mb d.eB hX d.run;exact tB (a':=⟨a.vars,a.aO,a.l,b',ba.reverse,a.steps+1⟩) rfl rfl (uT h.ok d h.ok.1 ae) d.eB GX key
theorem ac4(mc:Mt LS B)(h:Good a)(hj:nA a bM c)(t:nF a bM f r m)(cm:a.fs.reverse=f::r)(hs:f.block[f.ah.toNat]? =some (.mk 4 to ea eb bd el))(hd:uR a f r 4 to)(hk:eW a=(1,0,0))(hz:dS a ea≠0)(hf:fin {a with steps:=a.steps+1} (⟨bd,0,0,false,Z8,none⟩::{f with ah:=f.ah+1}::r) a.b=some a'):
 au pg B 271 (iD XT pg (az Tryz.f45) 4 (.int .i64 0)<|dk a') (sF 45 Tryz.f45 [.ptr<|some (270,0)]) (ak (ar++bx (ks a bM c)) 273):=by
 obtain⟨ba,b',e1,rfl⟩:=uS hf;have mp:=h.mp hj t;obtain⟨p1,p2,p3⟩:=s8 t;have n6:=h.gy;obtain⟨op,nn,la⟩:=ea;obtain⟨aG,n2,lb⟩:=eb;have ev:dE {mn a with steps:=a.steps+1} (.mk op nn la)=dS a (.mk op nn la):=mq h.ok.1 _;have uE:dE (mn a) (.mk op nn la)=dS a (.mk op nn la):=mq h.ok.1 _;obtain⟨mE,eE⟩:=FJ (A':={mn a with steps:=a.steps+1}) (k:=0+a.fs.length) (b':=a.b) (g:=⟨bd,0,0,false,Z8,none⟩) mp tY tY ⟨rfl,rfl,rfl,rfl,rfl⟩ ⟨⟨by show(0:Int)<=0;omega,by show(0:Int)<=1000000;omega⟩,rfl⟩ mp.buf;rw[p2] at eE;obtain⟨n1,br,d⟩:=ru mE eE e1;obtain⟨n',de,d2⟩:=d.again e1;have key:=j4y mc (h.eB hj) qI h.gy h.b6 (sY t hd.ah hs) ((tC h t cm _ hs).trans hk) (h.aB t) h.steps mp d.eB d2.eB mE d.run d2.run (by rw[uE];exact hz);exact tB (a':=⟨a.vars,a.aO,a.l,b',ba.reverse,a.steps+1⟩) rfl rfl (uT h.ok d h.ok.1 ae) d2.eB GW key
theorem ac5(mc:Mt LS B)(h:Good a)(hj:nA a bM c)(t:nF a bM f r m)(cm:a.fs.reverse=f::r)(hs:f.block[f.ah.toNat]? =some (.mk 4 to ea eb bd el))(hd:uR a f r 4 to)(hk:eW a=(1,0,0))(hz:dS a ea=0)(hf:fin {a with steps:=a.steps+1} (⟨el,0,0,false,Z8,none⟩::{f with ah:=f.ah+1}::r) a.b=some a'):
 au pg B 271 (iD XT pg (az Tryz.f45) 4 (.int .i64 0)<|dk a') (sF 45 Tryz.f45 [.ptr<|some (270,0)]) (ak (ar++bx (ks a bM c)) 273):=by
 obtain⟨ba,b',e1,rfl⟩:=uS hf;have mp:=h.mp hj t;obtain⟨p1,p2,p3⟩:=s8 t;have n6:=h.gy;obtain⟨op,nn,la⟩:=ea;obtain⟨aG,n2,lb⟩:=eb;have ev:dE {mn a with steps:=a.steps+1} (.mk op nn la)=dS a (.mk op nn la):=mq h.ok.1 _;have uE:dE (mn a) (.mk op nn la)=dS a (.mk op nn la):=mq h.ok.1 _;obtain⟨mE,eE⟩:=FJ (A':={mn a with steps:=a.steps+1}) (k:=0+a.fs.length) (b':=a.b) (g:=⟨el,0,0,false,Z8,none⟩) mp tY tY ⟨rfl,rfl,rfl,rfl,rfl⟩ ⟨⟨by show(0:Int)<=0;omega,by show(0:Int)<=1000000;omega⟩,rfl⟩ mp.buf;rw[p2] at eE;obtain⟨n1,br,d⟩:=ru mE eE e1;obtain⟨n',de,d2⟩:=d.again e1;have key:=j4n mc (h.eB hj) qI h.gy h.b6 (sY t hd.ah hs) ((tC h t cm _ hs).trans hk) (h.aB t) h.steps mp d.eB d2.eB mE d.run d2.run (by rw[uE];exact hz);exact tB (a':=⟨a.vars,a.aO,a.l,b',ba.reverse,a.steps+1⟩) rfl rfl (uT h.ok d h.ok.1 ae) d2.eB GW key
theorem ac6(mc:Mt LS B)(h:Good a)(hj:nA a bM c)(t:nF a bM f r m)(cm:a.fs.reverse=f::r)(hs:f.block[f.ah.toNat]? =some (.mk 5 to ea eb bd el))(hd:uR a f r 5 to)(hk:eW a=(1,0,0))(hz:0<mf (dS a ea))(hf:fin {a with steps:=a.steps+1} (⟨bd,0,mf (dS a ea) - 1,false,Z8,none⟩::{f with ah:=f.ah+1}::r) a.b=some a'):
 au pg B 271 (iD XT pg (az Tryz.f45) 4 (.int .i64 0)<|dk a') (sF 45 Tryz.f45 [.ptr<|some (270,0)]) (ak (ar++bx (ks a bM c)) 273):=by
 obtain⟨ba,b',e1,rfl⟩:=uS hf;have mp:=h.mp hj t;obtain⟨p1,p2,p3⟩:=s8 t;have n6:=h.gy;obtain⟨op,nn,la⟩:=ea;obtain⟨aG,n2,lb⟩:=eb;have ev:dE {mn a with steps:=a.steps+1} (.mk op nn la)=dS a (.mk op nn la):=mq h.ok.1 _;have uE:dE (mn a) (.mk op nn la)=dS a (.mk op nn la):=mq h.ok.1 _;have h8:=Ui<|dS a<|.mk op nn la;obtain⟨mE,eE⟩:=FJ (A':={mn a with steps:=a.steps+1}) (k:=0+a.fs.length) (b':=a.b) (g:=⟨bd,0,mf (dS a<|.mk op nn la) - 1,false,Z8,none⟩) mp tY tY ⟨rfl,rfl,rfl,rfl,rfl⟩ ⟨⟨by show 0<=mf _ - 1;omega,by show mf _ - 1<=1000000;omega⟩,rfl⟩ mp.buf;rw[p2] at eE;obtain⟨n1,br,d⟩:=ru mE eE e1;obtain⟨n',de,d2⟩:=d.again e1;rw[←uE] at mE d hz h8;have key:=j5t mc (h.eB hj) qI h.gy h.b6 (sY t hd.ah hs) ((tC h t cm _ hs).trans hk) (h.aB t) h.steps mp d.eB d2.eB mE d.run d2.run ⟨hz,h8⟩;exact tB (a':=⟨a.vars,a.aO,a.l,b',ba.reverse,a.steps+1⟩) rfl rfl (uT h.ok d h.ok.1 ae) d2.eB GW key
theorem ac7(mc:Mt LS B)(h:Good a)(hj:nA a bM c)(t:nF a bM f r m)(cm:a.fs.reverse=f::r)(hs:f.block[f.ah.toNat]? =some (.mk 5 to ea eb bd el))(hd:uR a f r 5 to)(hk:eW a=(1,0,0))(hz:¬(0<mf (dS a ea)))(hf:fin {a with steps:=a.steps+1} ({f with ah:=f.ah+1}::r) a.b=some a'):
 au pg B 271 (iD XT pg (az Tryz.f45) 4 (.int .i64 0)<|dk a') (sF 45 Tryz.f45 [.ptr<|some (270,0)]) (ak (ar++bx (ks a bM c)) 273):=by
 obtain⟨ba,b',e1,rfl⟩:=uS hf;have mp:=h.mp hj t;obtain⟨p1,p2,p3⟩:=s8 t;have n6:=h.gy;obtain⟨op,nn,la⟩:=ea;obtain⟨aG,n2,lb⟩:=eb;have ev:dE {mn a with steps:=a.steps+1} (.mk op nn la)=dS a (.mk op nn la):=mq h.ok.1 _;have uE:dE (mn a) (.mk op nn la)=dS a (.mk op nn la):=mq h.ok.1 _;obtain⟨n',de,d⟩:=ru mp p2 e1;have key:=j5o mc (h.eB hj) qI h.gy h.b6 (sY t hd.ah hs) ((tC h t cm _ hs).trans hk) (h.aB t) h.steps mp d.eB (by rw[uE];omega) d.run;exact tB (a':=⟨a.vars,a.aO,a.l,b',ba.reverse,a.steps+1⟩) rfl rfl (uT h.ok d h.ok.1 ae) d.eB GX key
theorem aeP(mc:Mt LS B)(h:Good a)(hj:nA a bM c)(t:nF a bM f r m)(cm:a.fs.reverse=f::r)(hs:f.block[f.ah.toNat]? =some (.mk 7 to ea eb bd el))(hd:uR a f r 7 to)(hk:eW a=(1,0,0))(hf:fin {a with steps:=a.steps+1} (⟨bd,0,0,true,a.l,some el⟩::{f with ah:=f.ah+1}::r) (a.b++[[]])=some a'):
 au pg B 271 (iD XT pg (az Tryz.f45) 4 (.int .i64 0)<|dk a') (sF 45 Tryz.f45 [.ptr<|some (270,0)]) (ak (ar++bx (ks a bM c)) 273):=by
 obtain⟨ba,b',e1,rfl⟩:=uS hf;have mp:=h.mp hj t;obtain⟨p1,p2,p3⟩:=s8 t;have n6:=h.gy;obtain⟨op,nn,la⟩:=ea;obtain⟨aG,n2,lb⟩:=eb;have ev:dE {mn a with steps:=a.steps+1} (.mk op nn la)=dS a (.mk op nn la):=mq h.ok.1 _;have uE:dE (mn a) (.mk op nn la)=dS a (.mk op nn la):=mq h.ok.1 _;have h6:a.b.length<7:=by have:=h.b6;omega
 obtain⟨mE,eE⟩:=FJ (A':={mn a with steps:=a.steps+1}) (k:=0+a.fs.length) (b':=a.b++[[]]) (g:=⟨bd,0,0,true,a.l,some el⟩) mp tY tY ⟨rfl,rfl,rfl,rfl,rfl⟩ ⟨⟨by show(0:Int)<=0;omega,by show(0:Int)<=1000000;omega⟩,h.ok.1⟩<|Of mp.buf h6;rw[p2] at eE;obtain⟨n1,br,d⟩:=ru mE eE e1;obtain⟨n',de,d2⟩:=d.again e1;rw[←Xs h.ok.1] at mE d;have key:=j7 mc (h.eB hj) qI h.gy h.b6 (sY t hd.ah hs) ((tC h t cm _ hs).trans hk) (h.aB t) h.steps mp d.eB d2.eB mE d.run d2.run h6;exact tB (a':=⟨a.vars,a.aO,a.l,b',ba.reverse,a.steps+1⟩) rfl rfl (uT h.ok d h.ok.1 ae) d2.eB GW key
theorem aeQ(mc:Mt LS B)(h:Good a)(hj:nA a bM c)(t:nF a bM f r m)(cm:a.fs.reverse=f::r)(hs:f.block[f.ah.toNat]? =some (.mk 6 to ea eb bd el))(hd:uR a f r 6 to)(hk:eW a=(1,0,0)){fb ol:List St}{fa ft:Int}{fo:Bool}{kept:List Int}{r':List Fr}(wJ:below (f::r)=some (⟨fb,fa,ft,fo,kept,some ol⟩,r'))(hf:fin {a with l:=kept,steps:=a.steps+1} (⟨ol,0,0,false,Z8,none⟩::r') a.b.dropLast=some a'):
 au pg B 271 (iD XT pg (az Tryz.f45) 4 (.int .i64 0)<|dk a') (sF 45 Tryz.f45 [.ptr<|some (270,0)]) (ak (ar++bx (ks a bM c)) 273):=by
 obtain⟨ba,b',e1,rfl⟩:=uS hf;have mp:=h.mp hj t;obtain⟨p1,p2,p3⟩:=s8 t;have n6:=h.gy;obtain⟨op,nn,la⟩:=ea;obtain⟨aG,n2,lb⟩:=eb;have ev:dE {mn a with steps:=a.steps+1} (.mk op nn la)=dS a (.mk op nn la):=mq h.ok.1 _;have uE:dE (mn a) (.mk op nn la)=dS a (.mk op nn la):=mq h.ok.1 _;obtain⟨hr,yj⟩:=hd.aie rfl _ _ wJ;have Qc:∃YD,below ({f with ah:=f.ah+1}::r)=some ((⟨fb,YD,ft,fo,kept,some ol⟩:Fr),r'):=by
  rw[Tq (f1:={f with ah:=f.ah+1}) (f:=f) (r:=r) rfl];rw[Tq (f1:=f) (f:=f) rfl] at wJ;by_cases c:f.cM=true
  ·rw[if_pos c] at wJ ⊢;injection wJ with wJ
   injection wJ with g1 g2
   subst g1;subst g2;exact⟨_,rfl⟩
  ·rw[if_neg c] at wJ ⊢;exact⟨_,wJ⟩
 obtain⟨YD,Qc⟩:=Qc;obtain⟨_,hw⟩:=NG (0+a.fs.length) _ _ tY p2;obtain⟨i,w1,w2,w3,w4⟩:=hw _ _ Qc;have hi:1<=i:=by
  cases i with
  |zero=>exact absurd w4.symm (by rw[List.take_zero];exact hr)
  |succ i=>omega
 have Q6:kept.length=8:=(mp.oh _<|List.mem_of_getElem? w3).2;obtain⟨y0,y1,y2,y3,y4,y5,y6,y7,rfl⟩:=len8 Q6;have iJ:((i:Int)).toNat=i:=by omega
 obtain⟨mE,eE⟩:=FJ (A':={mn a with steps:=a.steps+1,x0:=y0,x1:=y1,x2:=y2,x3:=y3,x4:=y4,x5:=y5,x6:=y6,x7:=y7}) (k:=i) (b':=a.b.dropLast) (g:=⟨ol,0,0,false,Z8,none⟩) mp tY tY ⟨rfl,rfl,rfl,rfl,rfl⟩ ⟨⟨by show(0:Int)<=0;omega,by show(0:Int)<=1000000;omega⟩,rfl⟩<|Og mp.buf yj;rw[w4] at eE;obtain⟨n1,br,d⟩:=ru mE eE e1;obtain⟨n',de,d2⟩:=d.again e1;have hn:i+1<=1000:=by omega
 rw[←iJ] at mE d w3;have key:=j6 (wi:=(i:Int)) mc (h.eB hj) qI h.gy h.b6 (sY t hd.ah hs) ((tC h t cm _ hs).trans hk) (h.aB t) h.steps mp d.eB d2.eB mE d.run d2.run w1 ⟨by omega,by omega⟩ w3 yj;exact tB (a':=⟨a.vars,a.aO,[y0,y1,y2,y3,y4,y5,y6,y7],b',ba.reverse,a.steps+1⟩) rfl rfl (uT h.ok d2 rfl (by have:=d.le;omega)) d2.eB GW key
end
end rV
end
section
open Go Go.Rn Go.RowKit Go.Proofs
namespace rW
open cv fW eH gO fc cG dt cR cW fw eV fL fN fS gg fT gh gP gQ g9 ia iF iW jH jI fy gZ kZ lE jT lW ni pO pP rV
variable {L:bV}
noncomputable section
structure OZ (a:dW):Prop where
 pM:Good a
 top:a.fs=[]\/∃f r s,a.fs.reverse=f::r/\0<=f.ah/\f.block[f.ah.toNat]? =some s
structure NH (a:dW):Prop where
 pM:Good a
 ask:eW a=(1,0,0)
 top:∃f r kind to ea eb bd el,a.fs.reverse=f::r/\f.block[f.ah.toNat]? =some (.mk kind to ea eb bd el)/\uR a f r kind to
structure O0 (a:dW):Prop where
 pM:Good a
 ask:∃v,eW a=(2,v,0)
 top:∃f r kind to ea eb bd el,a.fs.reverse=f::r/\0<=f.ah/\f.block[f.ah.toNat]? =some (.mk kind to ea eb bd el)/\0<=to/\to<8
section
variable {B:aL} {a a':dW} {bM:List Fr} {c:Nat}
theorem ac8(mc:Mt LS B)(h:NH a)(hj:nA a bM c)(hs:D0 a=some a'):
 au pg B 271 (iD XT pg (az Tryz.f45) 4 (.int .i64 0)<|dk a') (sF 45 Tryz.f45 [.ptr<|some (270,0)]) (ak (ar++bx (ks a bM c)) 273):=by
 obtain⟨hg,hk,f,r,kind,to,ea,eb,bd,el,cm,hb,hd⟩:=h;obtain⟨m,t⟩:=OY (bM:=bM) cm;unfold D0 at hs;rw[cm] at hs;simp only[hb] at hs;by_cases c1:kind=1
 ·subst c1;rw[if_pos rfl] at hs;exact aeM mc hg hj t cm hb hd hk hs
 rw[if_neg c1] at hs;by_cases c2:kind=2
 ·subst c2;rw[if_pos rfl] at hs;exact aeN mc hg hj t cm hb hd hk hs
 rw[if_neg c2] at hs;by_cases c3:kind=3
 ·subst c3;rw[if_pos rfl] at hs;exact aeO mc hg hj t cm hb hd hk hs
 rw[if_neg c3] at hs;by_cases c4:kind=4
 ·subst c4;rw[if_pos rfl] at hs;by_cases z:dS a ea=0
  ·rw[if_neg fun q=>q z] at hs;exact ac5 mc hg hj t cm hb hd hk z hs
  ·rw[if_pos z] at hs;exact ac4 mc hg hj t cm hb hd hk z hs
 rw[if_neg c4] at hs;by_cases c5:kind=5
 ·subst c5;rw[if_pos rfl] at hs;by_cases z:0<mf (dS a ea)
  ·rw[if_pos z] at hs;exact ac6 mc hg hj t cm hb hd hk z hs
  ·rw[if_neg z] at hs;exact ac7 mc hg hj t cm hb hd hk z hs
 rw[if_neg c5] at hs;by_cases c6:kind=6
 ·subst c6;rw[if_pos rfl] at hs;split at hs
  ·rename_i e;exact aeQ mc hg hj t cm hb hd hk e hs
  ·cases hs
 rw[if_neg c6] at hs;by_cases c7:kind=7
 ·subst c7;rw[if_pos rfl] at hs;exact aeP mc hg hj t cm hb hd hk hs
 rw[if_neg c7] at hs;cases hs
theorem aeR(mc:Mt LS B)(h:O0 a)(hj:nA a bM c){x:Int}(hs:A6 a x=some a'):
 au pg B 271 (iD XT pg (az Tryz.f51) 4 (.int .i64 0)<|dk a') (sF 51 Tryz.f51 [.ptr<|some (270,0),.int .i64 x]) (ak (ar++bx (ks a bM c)) 273):=by
 obtain⟨hg,⟨v,hk⟩,f,r,kind,to,ea,eb,bd,el,cm,h0,hb,t0,t8⟩:=h;obtain⟨m,t⟩:=OY (bM:=bM) cm;have k2:kind=2:=by
  have hk:=hk;unfold eW at hk;rw[cm] at hk;simp only[hb] at hk;split at hk
  ·injection hk with q;exact absurd q ae
  split at hk
  ·injection hk with q;exact absurd q ae
  split at hk
  ·rename_i q;exact q.1
  ·injection hk with q;exact absurd q ae
 subst k2;unfold A6 at hs;rw[cm] at hs;simp only[hb] at hs;obtain⟨ba,b',e1,rfl⟩:=uS hs;have mp:=hg.mp hj t;obtain⟨p1,p2,p3⟩:=s8 t;have n6:=hg.gy;obtain⟨n',de,d⟩:=ru (mp.ib (i:=to) (z:=x)) p2 e1;have ha:=(tC hg t cm _ hb).trans hk;obtain⟨op,nn,la⟩:=ea;obtain⟨aG,n2,lb⟩:=eb;have key:=jA mc (hg.eB hj) qI hg.gy hg.b6 (sY t h0 hb) ha (hg.aB t) hg.steps mp d.eB t0 t8 mp.ib d.run;exact tB (a':=⟨a.vars,a.aO,a.l.set to.toNat x,b',ba.reverse,a.steps+1⟩) (Om hg.ok.1 t0 t8) rfl (uT hg.ok d (by rw[List.length_set];exact hg.ok.1) ae) d.eB GX key
theorem aeS(mc:Mt [mm,iE,jF,kP,me] B)(h:OZ a)(hj:nA a bM c):
 au pg B 271 (iD XT pg (az Tryz.f35) 4 (BX<|eW a)<|dk a) (sF 35 Tryz.f35 [.ptr<|some (270,0)]) (ak (ar++bx (ks a bM c)) 273):=by
 have key:∃o,mK (a.fs++bM) a.fs.length o/\nS (mn a) (iC (a.fs++bM) a.fs.length) a.b o=eW a:=by
  rcases h.top with e|⟨f,r,s,cm,h0,hb⟩
  ·refine⟨none,.inl ⟨by rw[e];rfl,rfl⟩,?_⟩;unfold eW;rw[e];rfl
  ·obtain⟨m,t⟩:=OY (bM:=bM) cm;exact⟨some s,sY t h0 hb,tC h.pM t cm s hb⟩
 obtain⟨o,h1,h2⟩:=key;have hm:=h.pM.eB hj;have H:=Vb mc hm h.pM.gy h.pM.b6 h1;rw[h2] at H;refine tB (a':=a) rfl rfl h.pM.ok hm (by rw[List.take_left])<|Qb ae (fun _ _ _ _ q=>q) H
end
open Classical in
def D1(a:dW)(rest:List AV):Option<|AV×dW:=if rest=[]/\NH a then(D0 a).map fun a'=>(.int .i64 0,a') else none
open Classical in
def BY(a:dW)(rest:List AV):Option<|AV×dW:=match rest with
 |[.int .i64 x]=>if O0 a then(A6 a x).map fun a'=>(.int .i64 0,a') else none
 |_=>none
open Classical in
def kf(a:dW)(rest:List AV):Option<|AV×dW:=if rest=[]/\OZ a then some (BX<|eW a,a) else none
def WI:FuncId×KE:=(45,.tok 4<|dG dk D1)
def Xt:FuncId×KE:=(51,.tok 4<|dG dk BY)
theorem VV(hP:bE pg):aU LS:=aeL hP<|NC hP<|Df hP<|FV hP<|IQ hP<|Mo hP<|SA hP<|aeG hP<|ac0 hP<|abC hP<|abz hP<|abA hP cJ
theorem On{a:dW}{bM:List Fr}{c:Nat}:∀p∈ks a bM c,p.1<273:=fun p hp=>by simp only[ks,List.mem_cons,List.not_mem_nil,or_false] at hp;rcases hp with rfl|rfl|rfl<;>(show _<273;simp only;omega)
theorem ac9(hP:bE pg)(h:aU L):aU<|WI::L:=by
 refine C8 sj hP hZ qk iS ig lV lC h (VV hP) Tryz.func45 (body:=a9 pg 45 []) aX aX fun v rest y v' e=>?_;obtain⟨a,a',rfl,e1,rfl⟩:=AK e;unfold D1 at e1;split at e1
 ·rename_i q;obtain⟨rfl,hd⟩:=q;cases hs:D0 a with
  |none=>rw[hs] at e1;cases e1
  |some a2=>
   rw[hs] at e1;injection e1 with e1;injection e1 with e2 e3
   subst e2;subst e3;refine⟨aM.1 aX,fun L hx=>?_⟩;generalize hv:dk a=v at hx;cases hx with
   |BQ b hb bM c hj=>have:=CQ _ _ hv;subst this;exact⟨273,by omega,aM.1 aX,On,fun B mc=>ac8 mc hd hj hs⟩
 ·cases e1
theorem aeT(hP:bE pg)(h:aU L):aU<|Xt::L:=by
 refine C8 sj hP hZ qk iS ig lV lC h (VV hP) Tryz.func51 (body:=a9 pg 51 []) aX aX fun v rest y v' e=>?_;obtain⟨a,a',rfl,e1,rfl⟩:=AK e;unfold BY at e1;split at e1
 ·rename_i x;split at e1
  ·rename_i hd;cases hs:A6 a x with
   |none=>rw[hs] at e1;cases e1
   |some a2=>
    rw[hs] at e1;injection e1 with e1;injection e1 with e2 e3
    subst e2;subst e3;refine⟨aM.1 aX,fun L hx=>?_⟩;generalize hv:dk a=v at hx;cases hx with
    |BQ b hb bM c hj=>have:=CQ _ _ hv;subst this;exact⟨273,by omega,aM.1 aX,On,fun B mc=>aeR mc hd hj hs⟩
  ·cases e1
 ·cases e1
end
end rW
end
section
open Go Go.Rn Go.RowKit Go.Proofs
namespace Xu
open cv fW eH gO zy pL qJ tT fc cG dt cR cW fw eV fL fN fS gg fT gh gP gQ g9 ia iF iW jH jI fy gZ kZ lE jT lW ni pO pP rV rW
variable {B:aL} {vars:Int} {tx:List St} {q G m2 c2:Nat} {aO:List Int} {u2:AV} {bp:List Fr} {A2:MN}
noncomputable abbrev zi(tx:List St):AV:=.U (nm (tx.map aP).flatten) 0 tx.length
theorem aeU(mc:Mt [Em,Db,DX,oC 60,yU] B)(hv:vars<1\/vars>32):au pg B 270 (Rn.Fin pg (az Tryz.f22) fun y _=>y= .tuple [.ptr none,.int .i64 1]) (sF 22 Tryz.f22 [(zi tx),(i6 vars),(.U G q aO.length)])<|ak ar 270:=by exact wS mc (.st 5<|.rg<|.go 1<|.fk (.go 5<|.en<|.rt 4 .no)<|.go 2<|.fk (.go 2<|.en<|.rt 4 .no)<|.no)<|ax (vars<1) (fun _=>(show((.tuple [(.ptr none),(i6<|.ofNat 1)]):AV)= .tuple [.ptr none,.int .i64 1] from rfl)) fun _=>(ax (vars>32) (fun _=>(show((.tuple [(.ptr none),(i6<|.ofNat 1)]):AV)= .tuple [.ptr none,.int .i64 1] from rfl)) bF)
theorem ada(mc:Mt [Em,Db,DX,oC 60,yU] B)(ua:bg (aW zx) [(zi tx),.int .i64 (aO.length:Int)]=some (.bool false))(hv:1<=vars/\vars<=32):au pg B 270 (Rn.Fin pg (az Tryz.f22) fun y _=>y= .tuple [.ptr none,.int .i64 4]) (sF 22 Tryz.f22 [(zi tx),(i6 vars),(.U G q aO.length)])<|ak ar 270:=by exact wS mc (.st 5<|.rg<|.go 1<|.fk (.no)<|.go 2<|.fk (.no)<|.go 2<|.en<|.st 2<|.rg<|.go 3<|.kn (.bool false)<|.go 2<|.en<|.rt 4 .no)<|ax (vars<1) bF fun _=>(ax (vars>32) bF fun _=>(ai ua (show((.tuple [(.ptr none),(i6<|.ofNat 4)]):AV)= .tuple [.ptr none,.int .i64 4] from rfl)))
noncomputable abbrev DB(A2:MN)(m2 c2:Nat)(u2:AV)(bp:List Fr):List<|Nat×Option ab:=ar++[(270,some<|.cells 13 (Tr.fill (A2.row (.ptr<|some (271,0)) (.slice (some (272,0)) (m2)<|.aq c2 13)<|i6 A2.steps) 0 .nil) []),(271,some<|.tok 3 u2),(272,some<|aN aJ bp)]
theorem aif(mc:Mt [Em,Db,DX,oC 60,yU] B):au pg B 270 (Rn.Fin pg (az Tryz.f22) fun y s'=>y= .tuple [.ptr<|some (270,0),.int .i64 0]/\∀m o,(m,o)∈dD 270 3 (⟨⟨A2.pre,m2,(.aq c2 13),[(i6 A2.steps)]⟩,u2,(bp.map aJ).flatten⟩:VS)->s'.h.get m=some o) (⟨22,aQ [(6,(.ptr<|some (270,0))),(7,i0)],34,(dv 22 [1,1,1,1,1]),[],none⟩:AF)<|ak (DB A2 m2 c2 u2 bp) 273:=by exact wS mc (.rt 1 .no)<|nL (st:=(⟨⟨A2.pre,m2,(.aq c2 13),[(i6 A2.steps)]⟩,u2,(bp.map aJ).flatten⟩:VS)) (s:=ak (ar++[(270,some<|.cells 13 (Tr.fill (A2.row (.ptr<|some (271,0)) (.slice (some (272,0)) (m2)<|.aq c2 13)<|i6 A2.steps) 0 .nil) []),(271,(some<|.tok 3 u2)),(272,(some<|aN aJ bp))]) 273) (show((.tuple [(.ptr<|some (270,0)),i0]):AV)= .tuple [.ptr<|some (270,0),.int .i64 0] from rfl) cw cw cw
noncomputable abbrev Bt(vars:Int)(aO:List Int)(tx:List St):VS:=(⟨⟨[(i6 vars),(.U (nm (aO.map bj).flatten) 0 aO.length),i0,i0,i0,i0,i0,i0,i0,i0],1,(.aq 1 13),[.int .i64 0]⟩,(bZ [[]]),(([(⟨tx,0,0,false,[0,0,0,0,0,0,0,0],none⟩:Fr)]).map aJ).flatten⟩:VS)
noncomputable abbrev O1(u2:AV)(A2:MN)(m2 c2:Nat)(bp:List Fr):List<|Nat×Option ab:=ar++[(270,(some<|.tok 3 u2)),(271,some<|.cells 13 (Tr.fill (A2.row (.ptr<|some (270,0)) (.slice (some (274,0)) (m2)<|.aq c2 13)<|i6 A2.steps) 0 .nil) []),(274,(some<|aN aJ bp))]
theorem agr(mc:Mt [Em,Db,DX,oC 60,yU] B)(ua:bg (aW zx) [(zi tx),.int .i64 (aO.length:Int)]=some (.bool true))(hv:1<=vars/\vars<=32)(nZ:bg (aW Bn) [(.U G q aO.length)]=some (.U (nm (aO.map bj).flatten) 0 aO.length))(Q7:bg (aW<|ql 60) [(zi tx)]=some (zi tx))(Cp:lB Ps []=some (some<|bZ [[]],fun p=>p))(hlen:bp.length<=1000000)(nN:(AV.U A2.G A2.q A2.lg).bG=true)(k0:bH 10 (Bt vars aO tx)=true)(k1:dJ eJ (Bt vars aO tx) []=some (.tuple [],(⟨⟨A2.pre,m2,(.aq c2 13),[.int .i64 A2.steps]⟩,u2,(bp.map aJ).flatten⟩:VS)))(k2:bH 10 (⟨⟨A2.pre,m2,(.aq c2 13),[.int .i64 A2.steps]⟩,u2,(bp.map aJ).flatten⟩:VS)=true):au pg B 270 (Rn.Fin pg (az Tryz.f22) fun y s'=>y= .tuple [.ptr<|some (270,0),.int .i64 0]/\∀m o,(m,o)∈dD 270 3 (⟨⟨A2.pre,m2,(.aq c2 13),[(i6 A2.steps)]⟩,u2,(bp.map aJ).flatten⟩:VS)->s'.h.get m=some o) (sF 22 Tryz.f22 [(zi tx),(i6 vars),(.U G q aO.length)])<|ak ar 270:=by have ht:top=549755813888:=rfl;exact wC mc (C:=(fun fr s1 _=>fr=(⟨22,aQ [(6,(.ptr<|some (270,0))),(7,i0)],34,(dv 22 [1,1,1,1,1]),[],none⟩:AF)/\s1=(ak (DB A2 m2 c2 u2 bp) 273))) (fun fr s1 p hC=>by obtain⟨rfl,rfl⟩:=hC;exact aif mc) (.st 5<|.rg<|.go 1<|.fk (.no)<|.go 2<|.fk (.no)<|.go 2<|.en<|.st 2<|.rg<|.go 3<|.kn (.bool true)<|.go 2<|.en<|.st 4<|.rg<|.go 2<|.kn (.U (nm (aO.map bj).flatten) 0 aO.length)<|.nt (some<|bZ [[]]) (fun p=>p)<|.go 3<|.en<|.st 1<|.rg<|.go 2<|.kn (zi tx)<|.go 1<|.il<|.st 4<|.rg<|.go 1<|.cg (.tuple []) (Kn 270 dX eK 3 271 270 274 (⟨⟨A2.pre,m2,(.aq c2 13),[.int .i64 A2.steps]⟩,u2,(bp.map aJ).flatten⟩:VS)) (Gv 270 dX eK 3 271 270 274<|Bt vars aO tx)<|.en<|.rt 1<|.en<|.st 2<|.rn [(6,(.ptr<|some (271,0))),(7,i0)] (O1 u2 A2 m2 c2 bp) [(6,(.ptr<|some (270,0))),(7,i0)] (DB A2 m2 c2 u2 bp) 275 273 .no)<|ax (vars<1) bF fun _=>(ax (vars>32) bF fun _=>(ai ua<|ai nZ<|ai Cp<|ai Q7<|ai (Oe (P:=pg) (F:=FU) (sp:=sp [Em,Db,DX,oC 60,yU]) (g:=65) (J:=270) (h0:=dX) (ns:=eK) (rest:=[]) (n:=5) (kp:=10) (k:=3) (val:=dJ eJ) (a:=271) (r1:=270) (r2:=274) (st:=(Bt vars aO tx)) (ba:=(⟨⟨A2.pre,m2,(.aq c2 13),[.int .i64 A2.steps]⟩,u2,(bp.map aJ).flatten⟩:VS)) (y:=.tuple []) cw cw cw cw rfl k0 k1 cw k2)<|agc (a:=bU<|dQ ((Bt vars aO tx)).R 270 274) (b:=.tok 3 ((Bt vars aO tx)).u) (c:=bU ((Bt vars aO tx)).row)<|ai (mS [(6,(.ptr<|some (271,0))),(7,i0)])<|ai (mO<|O1 u2 A2 m2 c2 bp)<|ai (show iV FU 270 275 [(6,(.ptr<|some (271,0))),(7,i0)] (O1 u2 A2 m2 c2 bp) [(6,(.ptr<|some (270,0))),(7,i0)] (DB A2 m2 c2 u2 bp) 273 from BC (ps:=[(270,271),(271,270),(272,274)]) (lo:=270) (bz:=275) ae cw cw (fun r hr ht=>⟨⟨by unfold top;omega,_,(mi 0),((bw.ptr<|rq hr)).z⟩,⟨⟨by unfold top;omega,_,(mi 1),vi⟩,trivial⟩⟩) fun r hr ht=>⟨pc (mi 1) (rq hr) rp<|VQ (l:=[(i6 A2.vars),(.U A2.G A2.q A2.lg),(i6 A2.x0),(i6 A2.x1),(i6 A2.x2),(i6 A2.x3),(i6 A2.x4),(i6 A2.x5),(i6 A2.x6),(i6 A2.x7),(.ptr<|some (270,0)),(.slice (some (274,0)) (m2)<|.aq c2 13),(i6 A2.steps)]) (m:=[(i6 A2.vars),(.U A2.G A2.q A2.lg),(i6 A2.x0),(i6 A2.x1),(i6 A2.x2),(i6 A2.x3),(i6 A2.x4),(i6 A2.x5),(i6 A2.x6),(i6 A2.x7),(.ptr<|some (271,0)),(.slice (some (272,0)) (m2)<|.aq c2 13),(i6 A2.steps)]) ⟨vi,⟨((Bp ht GV)).z,⟨vi,⟨vi,⟨vi,⟨vi,⟨vi,⟨vi,⟨vi,⟨vi,⟨((bw.ptr<|rq hr)).z,⟨((bw.slice<|rq hr)).z,⟨vi,trivial⟩⟩⟩⟩⟩⟩⟩⟩⟩⟩⟩⟩⟩,⟨pc (mi 0) (rq hr) (gJ.refl _) yV,⟨pc (mi 2) (rq hr) (gJ.refl _)<|I9 ht hlen,trivial⟩⟩⟩) (show(⟨22,aQ [(6,(.ptr<|some (270,0))),(7,i0)],34,(dv 22 [1,1,1,1,1]),[],none⟩:AF)=(⟨22,aQ [(6,(.ptr<|some (270,0))),(7,i0)],34,(dv 22 [1,1,1,1,1]),[],none⟩:AF)/\(ak (DB A2 m2 c2 u2 bp) 273)=(ak (DB A2 m2 c2 u2 bp) 273) from⟨rfl,rfl⟩)))
end Xu
end
section
open Go Go.Rn Go.RowKit Go.Proofs
namespace xO
open cv fW eH gO zy pL nQ nE ue qx zO qJ tT fc cG dt cR cW fw eV fL fN fS gg fT gh gP gQ g9 ia iF iW jH jI fy gZ kZ lE jT lW ni pO pP rV rW Xu
variable {p:Option AV×(AV->AV)}
noncomputable section
theorem vh(l:List St):nm (bA l)=nm (l.map aP).flatten:=by rw[uL]
def BG(tx:List St):Fr:=⟨tx,0,0,false,Z8,none⟩
def mA(e:Int)(p:AV):AV:=.tuple [p,.int .i64 e]
def zB(args:List AV)(p:Option AV×(AV->AV)):Prop:=∃(tx:List St) (vars:Int) (aO:List Int) (G q:Nat),args=[.U (nm (tx.map aP).flatten) 0 tx.length,.int .i64 vars,.U G q aO.length]/\eh bj 1 (.U G q aO.length) aO/\aO.length<=1000/\(((vars<1\/vars>32)/\p=(none,mA 1))\/((1<=vars/\vars<=32)/\rF 60 tx=true/\kR 60 tx=true/\∃b,zP tx (aO.length:Int) b/\((b=false/\p=(none,mA 4))\/(b=true/\qy 60 tx=true/\∃st bb,lO 1000 [BG tx] [[]]=some (st,bb)/\p=(some<|dk ⟨vars,aO,Z8,bb,st.reverse,0⟩,mA 0)))))
theorem adb{l:List St}{n:Int}{b b':Bool}(h:zP l n b)(h':zP l n b'):b=b':=by
 obtain⟨c1,c2,p,a1,a2,a3⟩:=h;obtain⟨c1',c2',p',b1,b2,b3⟩:=h';rw[a1] at b1;injection b1 with b1;injection b1 with _ q1 q2 _
 injection q1 with _ q1;injection q2 with _ q2
 rw[a2] at b2;injection b2 with b2
 rw[a3,b3,q1,q2,b2]
theorem zB.bW{args:List AV}{p':Option AV×(AV->AV)}(h:zB args p)(h':zB args p'):p=p':=by
 obtain⟨tx,vars,aO,G,q,rfl,i1,_,h⟩:=h;obtain⟨tx',vars',W9,G',q',e,i2,_,h'⟩:=h';simp only[List.cons.injEq,AV.U.injEq,AV.int.injEq,true_and,_root_.and_true] at e;obtain⟨⟨e1,e2⟩,rfl,rfl,rfl,e3⟩:=e;rw[←vh, ←vh] at e1;have e1:=sN _ _<|ti (lL _) (lL _) e1;subst e1;rw[←e3] at i2;have e4:=eh.inj wX i1 (by rw[e3] at i2 ⊢;exact i2);subst e4;rcases h with⟨a,rfl⟩|⟨a,_,_,b,m,h⟩<;>rcases h' with⟨a',rfl⟩|⟨a',_,_,b',m',h'⟩
 ·rfl
 ·omega
 ·omega
 ·have eb:=adb m m';subst eb;rcases h with⟨x,rfl⟩|⟨x,_,st,bb,s1,rfl⟩<;>rcases h' with⟨x',rfl⟩|⟨x',_,ba,bb',s2,rfl⟩
  ·rfl
  ·rw[x] at x';cases x'
  ·rw[x] at x';cases x'
  ·rw[s1] at s2;injection s2 with s2;injection s2 with g1 g2
   rw[g1,g2]
open Classical in
def xP(args:List AV):Option<|Option AV×(AV->AV):=if h:∃p,zB args p then some h.choose else none
theorem abH{args:List AV}(h:xP args=some p):zB args p:=by
 unfold xP at h;split at h
 ·rename_i q;injection h with h;rw[←h];exact q.choose_spec
 ·cases h
theorem Uj{args:List AV}(h:zB args p):xP args=some p:=by unfold xP;have q:∃p,zB args p:=⟨p,h⟩;rw[dif_pos q];exact congrArg some<|zB.bW q.choose_spec h
def WJ:FuncId×KE:=(22,.new 4 xP)
theorem ade(tx:List St):im [BG tx]:=fun f hf=>by rw[List.mem_singleton] at hf;subst hf;exact⟨⟨by show(0:Int)<=0;omega,by show(0:Int)<=1000000;omega⟩,rfl⟩
theorem adf(hP:bE pg){L:bV}(h:aU L):aU<|WJ::L:=by
 refine I3 sj hP hZ (aM.1 aX) iS ig h (aem hP<|aax hP<|acY hP<|To hP 60<|SA hP cJ) Tryz.func22 (body:=a9 pg 22 []) aX aX fun args p e=>?_;obtain⟨tx,vars,aO,G,q,rfl,i1,hl,h⟩:=abH e;have bG:[AV.U (nm (tx.map aP).flatten) 0 tx.length,.int .i64 (aO.length:Int)].all AV.hi=true:=by rw[List.all_cons, ←vh,tz];rfl
 have hm:∀b,rF 60 tx=true->kR 60 tx=true->zP tx (aO.length:Int) b->bg (aW zx) [.U (nm (tx.map aP).flatten) 0 tx.length,.int .i64 (aO.length:Int)]=some (.bool b):=fun b h1 h2 h3=>fH (fB zx.bW ⟨tx,_,b,by rw[vh],h1,h2,h3,rfl⟩) bG rfl;refine⟨aM.1 aX,fun e0 B mc=>?_,fun v e0=>?_⟩
 ·rw[←gY];rcases h with⟨a,rfl⟩|⟨a,d1,d2,b,m,h⟩
  ·exact aeU mc a
  ·rcases h with⟨rfl,rfl⟩|⟨_,_,_,_,_,rfl⟩
   ·exact ada mc (hm _ d1 d2 m) a
   ·cases e0
 ·rcases h with⟨a,rfl⟩|⟨a,d1,d2,b,m,h⟩
  ·cases e0
  rcases h with⟨rfl,rfl⟩|⟨rfl,gc,st,bb,hs,rfl⟩
  ·cases e0
  injection e0 with e0
  subst e0;refine⟨vx.QJ rfl,fun B mc=>?_⟩;rw[←gY];let A:MN:=⟨vars,nm (aO.map zq).flatten,0,aO.length,aO,0,0,0,0,0,0,0,0,0⟩;have m0:di A 1 1 [BG tx] [[]]:=⟨eh.aS Lq aO,OK,ade tx,Nat.le_refl 1,Nat.le_refl 1,by show 1<=1000000;omega,a⟩;obtain⟨n',de,d⟩:=ru (st:=[BG tx]) m0 rfl hs;have nZ:bg (aW Bn) [.U G q aO.length]=some (.U (nm (aO.map bj).flatten) 0 aO.length):=fH (fB Bn.bW ⟨G,q,aO,rfl,i1,by omega,rfl⟩) (by rw[List.all_cons,i1.hi];rfl) (eh.aS eI aO).hi;have Q7:bg (aW<|ql 60) [.U (nm (tx.map aP).flatten) 0 tx.length]=some (.U (nm (tx.map aP).flatten) 0 tx.length):=fH (fB ql.bW ⟨tx,by rw[vh],gc,by rw[vh]⟩) (by rw[List.all_cons, ←vh,tz];rfl) (by rw[←vh];exact tz tx);have ok:Bj ⟨vars,aO,Z8,bb,st.reverse,0⟩:=by refine⟨rfl,d.eB.buf,?_,hl,a⟩;show st.reverse.length<=1000;rw[←d.eq,List.reverse_reverse,List.length_take];have:=d.le;omega
  have key:=agr (vars:=vars) (G:=G) (q:=q) (tx:=tx) (aO:=aO) (A2:=A) (m2:=n') (c2:=1) (u2:=bZ bb) (bp:=de) mc (hm _ d1 d2 m) a nZ Q7 rfl d.eB.len d.eB.aO.bG PZ PZ PZ;have e1:de.take n'=st.reverse:=by rw[←d.eq,List.reverse_reverse]
  have eZ:(st.reverse).length=n':=by rw[←e1,List.length_take];have:=d.eB.mW;omega
  have e2:de=st.reverse++de.drop n':=by rw[←e1,List.take_append_drop]
  refine Qb (Nat.le_refl _) (Xr fun y1 s' q=>⟨q.1,ks ⟨vars,aO,Z8,bb,st.reverse,0⟩ (de.drop n') 1,XT.BQ _ ok _ _ ⟨by rw[eZ];exact d.eB.p6,by rw[←e2];exact d.eB.len,fun f hf=>d.eB.oh f<|List.mem_of_mem_drop hf⟩,?_⟩) key;have hx:=q.2;have e3:=Uh ⟨vars,aO,Z8,bb,st.reverse,0⟩ (de.drop n') 1;rw[←e3];show ∀m o,(m,o)∈dD 270 3 (dh _ (st.reverse).length 1 (st.reverse++de.drop n') bb)->_;rw[eZ, ←e2];exact hx
end
end xO
end
section
open Go Go.Rn Go.RowKit Go.Proofs
namespace D2
open cv cR fW eH gO jT wv pL cG Xh xO
variable {p:Option AV×(AV->AV)}
noncomputable section
def zC(args:List AV)(p:Option AV×(AV->AV)):Prop:=∃(init:List Int) (N o:Nat) (st dA:Int),args=[.U N o init.length,.int .i64 st,.int .i64 dA]/\eh bj 1 (.U N o init.length) init/\
  ((((init.length:Int)<1\/(init.length:Int)>32\/st<1\/st>(init.length:Int)\/dA<0\/dA>1099511627776)/\p=(none,mA 1))\/
   ((1<=init.length/\init.length<=32/\1<=st/\st<=(init.length:Int)/\0<=dA/\dA<=1099511627776)/\p=(some<|aE ⟨List.replicate st.toNat ⟨-1,0⟩,0,dA,init⟩,mA 0)))
theorem zC.bW{args:List AV}{p':Option AV×(AV->AV)}(h:zC args p)(h':zC args p'):p=p':=by
 obtain⟨init,N,o,st,dA,rfl,i1,h⟩:=h;obtain⟨amP,N',o',ba,amZ,e,i2,h'⟩:=h';simp only[List.cons.injEq,AV.U.injEq,AV.int.injEq,true_and,_root_.and_true] at e;obtain⟨⟨rfl,rfl,e3⟩,rfl,rfl⟩:=e;rw[←e3] at i2;have e4:=eh.inj wX i1 (by rw[e3] at i2 ⊢;exact i2);subst e4;rcases h with⟨a,rfl⟩|⟨a,rfl⟩<;>rcases h' with⟨a',rfl⟩|⟨a',rfl⟩
 ·rfl
 ·omega
 ·omega
 ·rfl
open Classical in
def vH(args:List AV):Option<|Option AV×(AV->AV):=if h:∃p,zC args p then some h.choose else none
theorem abI{args:List AV}(h:vH args=some p):zC args p:=by
 unfold vH at h;split at h
 ·rename_i q;injection h with h;rw[←h];exact q.choose_spec
 ·cases h
theorem Uk{args:List AV}(h:zC args p):vH args=some p:=by unfold vH;have q:∃p,zC args p:=⟨p,h⟩;rw[dif_pos q];exact congrArg some<|zC.bW q.choose_spec h
def WK:FuncId×KE:=(6,.new 2 vH)
theorem adg(hP:bE pg){L:bV}(h:aU L):aU<|WK::L:=by
 refine I3 sj hP hZ (aM.1 aX) iS ig h cJ Tryz.func6 (body:=a9 pg 6 []) aX aX fun args p e=>?_;obtain⟨init,N,o,st,dA,rfl,i1,h⟩:=abI e;refine⟨aM.1 aX,fun e0 B mc=>?_,fun v e0=>?_⟩
 ·rw[←gY];rcases h with⟨a,rfl⟩|⟨a,rfl⟩
  ·exact aey mc a
  ·cases e0
 ·rcases h with⟨a,rfl⟩|⟨a,rfl⟩
  ·cases e0
  injection e0 with e0
  subst e0;refine⟨vx.QJ rfl,fun B mc=>?_⟩;rw[←gY];obtain⟨b1,b2,b3,b4,b5,b6⟩:=a;cases init with
  |nil=>exact absurd b1 (by show ¬(1<=0);omega)
  |cons x l=>
   have hf:cT FU N o ((l.length+1)*1)=some ((x::l).map bj).flatten:=by
    rcases I4 eI.len i1 with q|q
    ·exact q
    ·cases q
   have est:st=(st.toNat:Int):=by omega
   have b4':st.toNat<=l.length+1:=by rw[List.length_cons] at b4;omega
   have dq:gU ⟨List.replicate st.toNat ⟨-1,0⟩,0,dA,x::l⟩:=⟨⟨by show 1<=(List.replicate _ _).length;rw[List.length_replicate];omega,by show(List.replicate _ _).length<=32;rw[List.length_replicate];rw[List.length_cons] at b2;omega⟩,⟨b1,b2⟩,by show(0:Int)<=0;omega,b6⟩;have key:=aez (N:=N) (o:=o) (m:=l.length) (S:=st.toNat) (dA:=dA) (init:=x::l) ⟨by omega,by rw[List.length_cons] at b2;omega⟩ b2 b4' ⟨b5,b6⟩ i1.len.2.1 ⟨i1.len.2.1,hf,rfl⟩ mc dq;rw[←est] at key;exact key
end
end D2
end
section
open Go Go.Rn Go.RowKit Go.Proofs
namespace Ep
open cv cR fW eH gO wv cG fc dt jI iW fT gh ni pP rW gg iF
variable {L:bV} {S:Type} {rest:List AV} {f:S->List AV->Option AV} {enc:S->AV}
noncomputable section
def bJ(enc:S->AV)(f:S->List AV->Option AV)(v:AV)(rest:List AV):Option AV:=(dG enc (fun a r=>(f a r).map fun y=>(y,a)) v rest).map (·.1)
theorem Um(inj:∀a b,enc a=enc b->a=b){a:S}:bJ enc f (enc a) rest=f a rest:=by unfold bJ;rw[AW inj];cases f a rest<;>rfl
theorem Ts{v:AV}{y:AV}(h:bJ enc f v rest=some y):∃a,v=enc a/\f a rest=some y:=by
 unfold bJ at h;cases q:dG enc (fun a r=>(f a r).map fun y=>(y,a)) v rest with
 |none=>rw[q] at h;cases h
 |some p=>
  rw[q] at h;injection h with h;subst h
  obtain⟨y,v'⟩:=p;obtain⟨a,a',e1,e2,e3⟩:=AK q;refine⟨a,e1,?_⟩;cases q2:f a rest with
  |none=>rw[q2] at e2;cases e2
  |some z=>rw[q2] at e2;injection e2 with e2;injection e2 with e2 _;exact congrArg some e2
def VW:FuncId×KE:=(35,.raw<|lX 4<|bJ dk fun a rest=>(kf a rest).map (·.1))
theorem abK(hP:bE pg)(h:aU L):aU<|VW::L:=by
 refine Ul sj hP hZ qk iS ig lV lC h (NC hP<|Df hP<|FV hP<|IQ hP<|Mo hP cJ) Tryz.func35 (body:=a9 pg 35 []) aX aX fun v rest y e=>?_;obtain⟨a,rfl,e1⟩:=Ts e;unfold kf at e1;split at e1
 ·rename_i q;obtain⟨rfl,hd⟩:=q;injection e1 with e1
  have e1:BX (eW a)=y:=e1;subst e1;refine⟨aM.1 aX,fun L hx=>?_⟩;generalize hv:dk a=v at hx;cases hx with
  |BQ b hb bM c hj=>have:=CQ _ _ hv;subst this;exact⟨273,by omega,aM.1 aX,On,fun B mc=>aeS mc hd hj⟩
 ·cases e1
def tD:bC->List AV->Option AV
 |a,[.int .i64 x0]=>some<|xu a x0
 |_,_=>none
def Vc:FuncId×KE:=(47,.raw<|lX 2<|bJ aE tD)
theorem AA{L0:bV}{g:Nat}{fn:Func}{F:bC->List AV->Option AV}(hP:bE pg)(h:aU L)(h0:aU L0)(cq:Tryz.prog.funcs[g]? =some fn)(H:∀a rest y,F a rest=some y->max fn.ntmps (rest.length+1)<=top/\∀B c1 c2,Mt L0 B->gU a->oS B g (max fn.ntmps<|rest.length+1) fn.results.toList a c1 c2 rest y (aE a))(cx:fn.body=some (a9 pg g []):=by kernel_rfl)(hn:(fn.name == "runtime.NumGoroutine")=false:=by kernel_rfl):aU<|(g,.raw<|lX 2<|bJ aE F)::L:=by
 refine Ul sj hP hZ qk iS ig lV lC h h0 cq cx hn fun v rest y e=>?_;obtain⟨a,rfl,e1⟩:=Ts e;obtain⟨q1,q2⟩:=H a rest y e1;refine⟨q1,fun L hx=>?_⟩;generalize hv:aE a=v at hx;cases hx with
 |heap b hb c1 c2=>have:=re _ _ hv;subst this;exact⟨273,by omega,aM.1 aX,gS,fun B mc=>q2 B c1 c2 mc hb⟩
theorem aaD(hP:bE pg)(h:aU L):aU<|Vc::L:=AA hP h cJ Tryz.func47 fun a rest y e=>by unfold tD at e;split at e<;>cases e;exact⟨aM.1 aX,fun B c1 c2 mc hb=>adV mc hb⟩
def ri:bC->List AV->Option AV
 |a,[.int .i64 x0]=>some<|yK a x0
 |_,_=>none
def Tt:FuncId×KE:=(48,.raw<|lX 2<|bJ aE ri)
theorem Zo(hP:bE pg)(h:aU L):aU<|Tt::L:=AA hP h cJ Tryz.func48 fun a rest y e=>by unfold ri at e;split at e<;>cases e;exact⟨aM.1 aX,fun B c1 c2 mc hb=>abi mc hb⟩
def Gg:bC->List AV->Option AV
 |a,[.int .i64 x0]=>some<|zc a x0
 |_,_=>none
def Vd:FuncId×KE:=(50,.raw<|lX 2<|bJ aE Gg)
theorem aaE(hP:bE pg)(h:aU L):aU<|Vd::L:=AA hP h cJ Tryz.func50 fun a rest y e=>by unfold Gg at e;split at e<;>cases e;exact⟨aM.1 aX,fun B c1 c2 mc hb=>adW mc hb⟩
def DC:bC->List AV->Option AV
 |a,[]=>some<|F5 a
 |_,_=>none
def Ve:FuncId×KE:=(42,.raw<|lX 2<|bJ aE DC)
theorem aaF(hP:bE pg)(h:aU L):aU<|Ve::L:=AA hP h cJ Tryz.func42 fun a rest y e=>by unfold DC at e;split at e<;>cases e;exact⟨aM.1 aX,fun B c1 c2 mc hb=>adX mc hb⟩
def oV:bC->List AV->Option AV
 |a,[]=>some<|Kj a
 |_,_=>none
def VX:FuncId×KE:=(24,.raw<|lX 2<|bJ aE oV)
theorem abL(hP:bE pg)(h:aU L):aU<|VX::L:=AA hP h cJ Tryz.func24 fun a rest y e=>by unfold oV at e;split at e<;>cases e;exact⟨aM.1 aX,fun B c1 c2 mc hb=>afJ mc hb⟩
def ov:bC->List AV->Option AV
 |a,[]=>some<|IJ a
 |_,_=>none
def Tu:FuncId×KE:=(29,.raw<|lX 2<|bJ aE ov)
theorem Zp(hP:bE pg)(h:aU L):aU<|Tu::L:=AA hP h cJ Tryz.func29 fun a rest y e=>by unfold ov at e;split at e<;>cases e;exact⟨aM.1 aX,fun B c1 c2 mc hb=>abj mc hb⟩
def ny:bC->List AV->Option AV
 |a,[.int .i64 x0]=>some<|sX a x0
 |_,_=>none
def Un:FuncId×KE:=(9,.raw<|lX 2<|bJ aE ny)
theorem ZP(hP:bE pg)(h:aU L):aU<|Un::L:=AA hP h cJ Tryz.func9 fun a rest y e=>by unfold ny at e;split at e<;>cases e;exact⟨aM.1 aX,fun B c1 c2 mc hb=>acz mc hb hb.1.1⟩
end
end Ep
end
section
open Go Go.Rn Go.RowKit Go.Proofs
namespace BZ
open cv fW eH gO nQ nE zO BB qJ tT fc cG dt ER cR cW fw eV fL fN fS gg fT gh gP gQ g9 ia iF iW jH jI fy gZ ni pO pP rV rW
def D4:St->Int| .mk _ t _ _ _ _=>t
def oi:Nat->List St->Prop
 |0,l=>l=[]
 |d+1,l=>l.length<=1000000/\∀s∈l,(1<=iQ s/\iQ s<=8)/\(0<=D4 s/\D4 s<8)/\oi d (cn s)/\oi d (cj s)
theorem Vf:∀d,oi d []
 |0=>rfl
 |d+1=>⟨Nat.zero_le _,fun s h=>by cases h⟩
def pe:List Fr->Nat
 |[]=>0
 |f::r=>pe r+(if f.cM=true then 1 else 0)
def vV:List Fr->Prop
 |[]=>True
 |f::r=>oi (6 - r.length) f.block/\(0<=f.ah/\f.ah<=(f.block.length:Int))/\(0<=f.turns/\f.turns<=7)/\f.kept.length=8/\(f.cM=true->r≠[]/\∃ol,f.other=some ol/\oi (6 - r.length) ol)/\vV r
structure Inv (st:List Fr) (b:bO):Prop where
 wf:vV st
 len:b.length=pe st+1
 buf:fq b
theorem aeW{d:Nat}{l:List St}(h:oi d l):l.length<=1000000:=by
 cases d with
 |zero=>have:l=[]:=h;subst this;exact Nat.zero_le _
 |succ d=>exact h.1
def vW:List Fr->Nat
 |[]=>0
 |f::r=>vW r+f.turns.toNat+1
theorem Ff:∀(k:Nat) (st:List Fr) (b:bO),Inv st b->vW st<k->∃ba b',lO k st b=some (ba,b')/\Inv ba b'/\ba.length<=st.length
 |0,_,_,_,h=>by omega
 |k+1,[],b,hi,_=>⟨[],b,rfl,hi,Nat.le_refl _⟩
 |k+1,f::r,b,hi,hm=>by
  obtain⟨⟨h1,h2,h3,h4,h5,h6⟩,hl,hb⟩:=hi;unfold lO;by_cases c1:f.ah<(f.block.length:Int)
  ·rw[if_pos c1];exact⟨_,_,rfl,⟨⟨h1,h2,h3,h4,h5,h6⟩,hl,hb⟩,Nat.le_refl _⟩
  ·rw[if_neg c1];by_cases c2:0<f.turns
   ·rw[if_pos c2];have i2:Inv ({f with ah:=0,turns:=f.turns - 1}::r) b:=⟨⟨h1,⟨by show(0:Int)<=0;omega,by show(0:Int)<=_;omega⟩,⟨by show 0<=f.turns - 1;omega,by show f.turns - 1<=7;omega⟩,h4,h5,h6⟩,hl,hb⟩;by_cases c3:0<(f.block.length:Int)
    ·rw[if_pos c3];exact⟨_,_,rfl,i2,Nat.le_refl _⟩
    ·rw[if_neg c3];exact Ff k _ b i2 (by show vW r+(f.turns - 1).toNat+1<k;have:vW (f::r)=vW r+f.turns.toNat+1:=rfl;omega)
   ·rw[if_neg c2];have eg:vW r<k:=by have:vW (f::r)=vW r+f.turns.toNat+1:=rfl;omega
    have hlen:b.length=pe r+(if f.cM=true then 1 else 0)+1:=hl;by_cases c4:f.cM=true
    ·rw[if_pos c4];rw[if_pos c4] at hlen;have c5:2<=b.length:=by omega
     rw[if_pos c5];obtain⟨ba,b',e,i,l⟩:=Ff k r (gR b) ⟨h6,by have:=HW b c5;omega,IP hb c5⟩ eg;exact⟨ba,b',e,i,by rw[List.length_cons];omega⟩
    ·rw[if_neg c4];rw[if_neg c4] at hlen;obtain⟨ba,b',e,i,l⟩:=Ff k r b ⟨h6,hlen,hb⟩ eg;exact⟨ba,b',e,i,by rw[List.length_cons];omega⟩
theorem Oo:∀{st:List Fr},vV st->vW st<=8*st.length
 |[],_=>Nat.le_refl _
 |f::r,h=>by have:=Oo h.2.2.2.2.2;have h3:=h.2.2.1;show vW r+f.turns.toNat+1<=8*(r.length+1);omega
theorem VY:∀{st:List Fr},vV st->pe st+1<=st.length\/pe st=0
 |[],_=>.inr rfl
 |f::r,h=>by
  rcases VY h.2.2.2.2.2 with q|q
  ·left;show pe r+(if f.cM=true then 1 else 0)+1<=r.length+1;split<;>omega
  ·by_cases c:f.cM=true
   ·obtain⟨hr,_⟩:=h.2.2.2.2.1 c;left;show pe r+(if f.cM=true then 1 else 0)+1<=r.length+1;rw[if_pos c];cases r with
    |nil=>exact absurd rfl hr
    |cons a r=>rw[List.length_cons];omega
   ·right;show pe r+(if f.cM=true then 1 else 0)=0;rw[if_neg c];exact q
structure mQ (a:dW):Prop where
 inv:Inv a.fs.reverse a.b
 l:a.l.length=8
 top:a.fs.reverse=[]\/∃f r,a.fs.reverse=f::r/\f.ah<(f.block.length:Int)
 aO:a.aO.length<=1000
 vars:1<=a.vars/\a.vars<=32
theorem Gh{f:Fr}{r:List Fr}(h:vV<|f::r)(ht:f.ah<(f.block.length:Int)):∃d s,6 - r.length=d+1/\f.block[f.ah.toNat]? =some s/\(1<=iQ s/\iQ s<=8)/\(0<=D4 s/\D4 s<8)/\oi d (cn s)/\oi d (cj s):=by
 have h0:=h.2.1.1;have bB:f.ah.toNat<f.block.length:=by omega
 have hb:=h.1;cases e:6 - r.length with
 |zero=>rw[e] at hb;have:f.block=[]:=hb;rw[this] at bB;simp at bB
 |succ d=>rw[e] at hb;obtain⟨q1,q2,q3,q4⟩:=hb.2 _<|List.getElem_mem bB;exact⟨d,_,rfl,List.getElem?_eq_getElem bB,q1,q2,q3,q4⟩
theorem VZ:∀{st:List Fr},vV st->∀f∈st,((0<=f.turns/\f.turns<=1000000)/\f.kept.length=8)/\(0<=f.ah/\f.ah<=1000000)
 |[],_,f,h=>by cases h
 |g::r,h,f,hf=>by
  rcases List.mem_cons.1 hf with rfl|hf
  ·have:=aeW h.1;have:=h.2.1;have:=h.2.2.1;exact⟨⟨by omega,h.2.2.2.1⟩,by omega⟩
  ·exact VZ h.2.2.2.2.2 f hf
section
variable {a:dW}
theorem mQ.gy(h:mQ a):a.fs.length<=6:=by
 rw[←List.length_reverse];rcases h.top with e|⟨f,r,e,ht⟩
 ·rw[e];exact Nat.zero_le _
 ·rw[e];have hw:=h.inv.wf;rw[e] at hw;obtain⟨d,_,hd,_⟩:=Gh hw ht;rw[List.length_cons];omega
theorem mQ.b6(h:mQ a):a.b.length<=6:=by have h6:=h.gy;rw[←List.length_reverse] at h6;have:=h.inv.len;rcases VY h.inv.wf with q|q<;>omega
theorem mQ.pM(h:mQ a)(hs:0<=a.steps/\a.steps<=1000000000000):Good a:=by have hw:=VZ h.inv.wf;exact⟨⟨h.l,h.inv.buf,by have:=h.gy;omega,h.aO,h.vars⟩,fun f hf=>(hw f<|List.mem_reverse.2 hf).1,h.gy,h.b6,hs,fun f hf=>(hw f<|List.mem_reverse.2 hf).2⟩
theorem mQ.ask(h:mQ a)(hs:0<=a.steps/\a.steps<=1000000000000):OZ a:=by
 refine⟨h.pM hs,?_⟩;rcases h.top with e|⟨f,r,e,ht⟩
 ·exact .inl<|List.reverse_eq_nil_iff.1 e
 ·have hw:=h.inv.wf;rw[e] at hw;obtain⟨d,s,_,q,_⟩:=Gh hw ht;exact .inr ⟨f,r,s,e,hw.2.1.1,q⟩
end
theorem NI:∀{st:List Fr} {g:Fr} {r':List Fr},vV st->below st=some (g,r')->vV (g::r')/\g.cM=true/\pe st=pe r'+1/\r'.length<st.length
 |[],_,_,_,h=>by cases h
 |f::r,g,r',hw,h=>by
  unfold ni.below at h;by_cases c:f.cM=true
  ·rw[if_pos c] at h;injection h with h;injection h with h1 h2
   subst h1;subst h2;exact⟨hw,c,by show pe r+(if f.cM=true then 1 else 0)=_;rw[if_pos c],by rw[List.length_cons];omega⟩
  ·rw[if_neg c] at h;obtain⟨a1,a2,a3,a4⟩:=NI hw.2.2.2.2.2 h;exact⟨a1,a2,by show pe r+(if f.cM=true then 1 else 0)=_;rw[if_neg c];exact a3,by rw[List.length_cons];omega⟩
theorem wY{a:dW}{st:List Fr}{b:bO}(hl:a.l.length=8)(hg:a.aO.length<=1000)(hv:1<=a.vars/\a.vars<=32)(hi:Inv st b)(hn:st.length<=8):∃a',fin a st b=some a'/\mQ a'/\a'.steps=a.steps/\a'.vars=a.vars/\a'.aO=a.aO:=by
 have hm:=Oo hi.wf;obtain⟨ba,b',e,i,l⟩:=Ff 1000 st b hi ae;refine⟨{a with fs:=ba.reverse,b:=b'},by unfold fin;rw[e],⟨?_,hl,?_,hg,hv⟩,rfl,rfl,rfl⟩
 ·show Inv ba.reverse.reverse b';rw[List.reverse_reverse];exact i
 ·show ba.reverse.reverse=[]\/∃f r,ba.reverse.reverse=f::r/\_;rw[List.reverse_reverse];exact CM _ _ _ _ _ e
theorem Ic(b:bO)(v x:Int):(ml b v x).length=b.length:=by
 rcases List.eq_nil_or_concat b with rfl|⟨l,m,rfl⟩
 ·rfl
 ·rw[List.concat_eq_append,Sz,List.length_append,List.length_append];rfl
section
variable {a:dW}
theorem M7(h:mQ a):eW a=(1,0,0)\/(∃v,eW a=(2,v,0)/\0<=v/\v<a.vars)\/(∃x,eW a=(3,0,x))\/eW a=(4,0,0):=by
 unfold eW;rcases h.top with e|⟨f,r,e,ht⟩
 ·rw[e];exact .inr<|.inr<|.inl ⟨0,rfl⟩
 ·have hw:=h.inv.wf;rw[e] at hw ⊢;obtain⟨d,⟨kind,to,ea,eb,bd,el⟩,_,q,_⟩:=Gh hw ht;simp only[q]
  repeat' split
  ·exact .inr<|.inr<|.inl ⟨_,rfl⟩
  ·exact .inr<|.inr<|.inr rfl
  ·exact .inr<|.inl ⟨_,rfl,aeI h.vars.1⟩
  ·exact .inl rfl
theorem Nn(h:mQ a)(hs:0<=a.steps/\a.steps<=1000000000000)(hk:eW a=(1,0,0)):NH a/\∃a',D0 a=some a'/\mQ a'/\a'.steps=a.steps+1/\a'.vars=a.vars/\a'.aO=a.aO:=by
 rcases h.top with e|⟨f,r,e,ht⟩
 ·exfalso;unfold eW at hk;rw[e] at hk;injection hk with q _;omega
 have hw:=h.inv.wf;have hlen:=h.inv.len;rw[e] at hw hlen;have h6:=h.gy;rw[←List.length_reverse,e,List.length_cons] at h6;obtain⟨d,⟨kind,to,ea,eb,bd,el⟩,hd,q,k1,k2,k3,k4⟩:=Gh hw ht;have k1:1<=kind/\kind<=8:=k1;have k2:0<=to/\to<8:=k2;have k3:oi d bd:=k3;have k4:oi d el:=k4;have ke:=hk;unfold eW at ke;rw[e] at ke;simp only[q] at ke;have n8:kind≠8:=fun c=>by rw[if_pos c] at ke;injection ke with z _;omega
 rw[if_neg n8] at ke;have n6:kind=6->below (f::r)≠none:=fun c z=>by rw[if_pos ⟨c,z⟩] at ke;injection ke with z _;omega
 have w1:vV<|{f with ah:=f.ah+1}::r:=⟨hw.1,⟨by show 0<=f.ah+1;have:=hw.2.1.1;omega,by show f.ah+1<=(f.block.length:Int);omega⟩,hw.2.2⟩;have i1:∀b:bO,fq b->b.length=a.b.length->Inv ({f with ah:=f.ah+1}::r) b:=fun b hb hl=>⟨w1,by rw[hl];exact hlen,hb⟩;have Q8:6 - (r.length+1)=d:=by omega
 have push:∀(g:Fr) (b:bO),oi d g.block->g.ah=0->(0<=g.turns/\g.turns<=7)->g.kept.length=8->g.cM=false->fq b->b.length=a.b.length->Inv (g::{f with ah:=f.ah+1}::r) b:=fun g b g1 g2 g3 g4 g5 hb hl=>⟨⟨by rw[List.length_cons,Q8];exact g1,by rw[g2];omega,g3,g4,fun c=>(by rw[g5] at c;cases c),w1⟩,by show b.length=pe ({f with ah:=f.ah+1}::r)+(if g.cM=true then 1 else 0)+1;rw[g5,hl];exact hlen,hb⟩;refine⟨⟨h.pM hs,hk,f,r,kind,to,ea,eb,bd,el,e,q,⟨hw.2.1.1,fun _=>k2,fun c g r' hb=>?_⟩⟩,?_⟩
 ·obtain⟨b1,b2,b3,_⟩:=NI hw hb;obtain⟨b4,_⟩:=b1.2.2.2.2.1 b2;exact⟨b4,by omega⟩
 ·unfold D0;rw[e];simp only[q];have l8:∀(z:Int),(a.l.set to.toNat z).length=8:=fun z=>by rw[List.length_set];exact h.l
  by_cases c1:kind=1
  ·rw[if_pos c1];exact wY (a:={a with l:=a.l.set to.toNat<|dS a ea,steps:=a.steps+1}) (l8 _) h.aO h.vars (i1 _ h.inv.buf rfl) GY
  rw[if_neg c1];by_cases c2:kind=2
  ·rw[if_pos c2];exact wY (a:={a with l:=a.l.set to.toNat (ky a.b<|iG (dS a ea) a.vars).1,steps:=a.steps+1}) (l8 _) h.aO h.vars (i1 _ h.inv.buf rfl) GY
  rw[if_neg c2];by_cases c3:kind=3
  ·rw[if_pos c3];exact wY (a:={a with steps:=a.steps+1}) h.l h.aO h.vars (i1 _ (M4 h.inv.buf _ _)<|Ic _ _ _) GY
  rw[if_neg c3];by_cases c4:kind=4
  ·rw[if_pos c4];exact wY (a:={a with steps:=a.steps+1}) h.l h.aO h.vars (push _ _ (by show oi d (if _ then bd else el);split;exact k3;exact k4) rfl ⟨by show(0:Int)<=0;omega,by show(0:Int)<=7;omega⟩ rfl rfl h.inv.buf rfl) P0
  rw[if_neg c4];by_cases c5:kind=5
  ·rw[if_pos c5];by_cases z:0<mf (dS a ea)
   ·rw[if_pos z];have:=Ui<|dS a ea;exact wY (a:={a with steps:=a.steps+1}) h.l h.aO h.vars (push _ _ k3 rfl ⟨by show 0<=mf _ - 1;omega,by show mf _ - 1<=7;omega⟩ rfl rfl h.inv.buf rfl) P0
   ·rw[if_neg z];exact wY (a:={a with steps:=a.steps+1}) h.l h.aO h.vars (i1 _ h.inv.buf rfl) GY
  rw[if_neg c5];by_cases c6:kind=6
  ·rw[if_pos c6];cases hb:below (f::r) with
   |none=>exact absurd hb<|n6 c6
   |some p=>
    obtain⟨⟨fb,fa,ft,fo,kept,oth⟩,r'⟩:=p;obtain⟨b1,b2,b3,b4⟩:=NI hw hb;obtain⟨b5,ol,b6,b7⟩:=b1.2.2.2.2.1 b2;have b6:oth=some ol:=b6;subst b6;have Q6:kept.length=8:=b1.2.2.2.1;refine wY (a:={a with l:=kept,steps:=a.steps+1}) Q6 h.aO h.vars ⟨⟨b7,⟨by show(0:Int)<=0;omega,by show(0:Int)<=_;omega⟩,⟨by show(0:Int)<=0;omega,by show(0:Int)<=7;omega⟩,rfl,fun c=>(by cases c),b1.2.2.2.2.2⟩,?_,Og h.inv.buf ae⟩ ?_
    ·rw[List.length_dropLast];show _=pe r'+(if false=true then 1 else 0)+1;rw[if_neg (by intro c;cases c)];omega
    ·rw[List.length_cons];rw[List.length_cons] at b4;omega
  rw[if_neg c6];by_cases c7:kind=7
  ·rw[if_pos c7];have YC:=h.b6;refine wY (a:={a with steps:=a.steps+1}) h.l h.aO h.vars ⟨⟨by rw[List.length_cons,Q8];exact k3,⟨by show(0:Int)<=0;omega,by show(0:Int)<=_;omega⟩,⟨by show(0:Int)<=0;omega,by show(0:Int)<=7;omega⟩,h.l,fun _=>⟨(by intro c;cases c),el,rfl,by rw[List.length_cons,Q8];exact k4⟩,w1⟩,?_,Of h.inv.buf ae⟩ P0;rw[List.length_append];show a.b.length+1=pe ({f with ah:=f.ah+1}::r)+(if true=true then 1 else 0)+1;rw[if_pos rfl,hlen];rfl
  ·exact absurd k1.2 ae
theorem aeX(h:mQ a)(hs:0<=a.steps/\a.steps<=1000000000000){v:Int}(hk:eW a=(2,v,0))(x:Int):O0 a/\∃a',A6 a x=some a'/\mQ a'/\a'.steps=a.steps+1/\a'.vars=a.vars/\a'.aO=a.aO:=by
 rcases h.top with e|⟨f,r,e,ht⟩
 ·exfalso;unfold eW at hk;rw[e] at hk;injection hk with q _;omega
 have hw:=h.inv.wf;have hlen:=h.inv.len;rw[e] at hw hlen;have h6:=h.gy;rw[←List.length_reverse,e,List.length_cons] at h6;obtain⟨d,⟨kind,to,ea,eb,bd,el⟩,hd,q,k1,k2,k3,k4⟩:=Gh hw ht;have k2:0<=to/\to<8:=k2;have w1:vV<|{f with ah:=f.ah+1}::r:=⟨hw.1,⟨by show 0<=f.ah+1;have:=hw.2.1.1;omega,by show f.ah+1<=(f.block.length:Int);omega⟩,hw.2.2⟩;refine⟨⟨h.pM hs,⟨v,hk⟩,f,r,kind,to,ea,eb,bd,el,e,hw.2.1.1,q,k2.1,k2.2⟩,?_⟩;unfold A6;rw[e];simp only[q];exact wY (a:={a with l:=a.l.set to.toNat x,steps:=a.steps+1}) (by rw[List.length_set];exact h.l) h.aO h.vars ⟨w1,hlen,h.inv.buf⟩ GY
end
end BZ
end
