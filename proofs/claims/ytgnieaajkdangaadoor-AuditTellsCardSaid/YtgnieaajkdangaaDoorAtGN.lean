import Derived.Test.YtgnieaajkdangaaDoorAtGJ
import Derived.Test.YtgnieaajkdangaaDoorAtGM
import Derived.Test.YtgnieaajkdangaaDoorAtGL
import Derived.Test.YtgnieaajkdangaaDoorRnGF
import Derived.Test.YtgnieaajkdangaaDoorRnGE
set_option maxRecDepth 100000
set_option maxHeartbeats 8000000
set_option linter.unusedSimpArgs false
section
open Go Go.Rn Go.RowKit Go.Proofs
namespace zZ
open cd cj cv cD cH cI cN gw eW fy fm fA pC kz gk
variable {n p nS m lo b:Nat} {V T S an ak nn oe fu eq:Int} {tr:List (List Int)} {aj:List Th} {ah:List Sr} {B:aZ} {v':AV} {tn ov ot:List Int} {c:Th}
noncomputable abbrev qm(l:List (List Int)):Nat:=nm (l.map cO).flatten
noncomputable def ji:List Ev->Int->Bool
 |[],_=>false
 |e::h,th=>if e.az=th/\e.kind≠11 then decide (e.kind=10/\e.ab=6) else ji h th
noncomputable def Ib:FuncId×(List AV->Option AV):=(11,aY (RT j8 999))
def vH(f:List Ev->Int->AV)(b:Nat)(args:List AV)(r:AV):Prop:=∃(n o len:Nat) (l:List Ev) (T V S th:Int),args=[.agg [.int .i64 T,.int .i64 V,.int .i64 S,.ae n o len],.int .i64 th]/\bt aN 7 (.ae n o len) l/\eR l/\len<=b/\r=f l th
theorem Wb{f:List Ev->Int->AV}(args:List AV)(v v':AV)(h:vH f b args v)(h':vH f b args v'):v=v':=by
 obtain⟨n,o,len,l,T,V,S,th,rfl,h1,_,_,rfl⟩:=h
 obtain⟨n',o',eM,l',T',V',S',Qo,q,gX,_,_,rfl⟩:=h'
 simp only[List.cons.injEq,AV.agg.injEq,AV.int.injEq,AV.ae.injEq,true_and,_root_.and_true] at q
 obtain⟨⟨rfl,rfl,rfl,rfl,rfl,rfl⟩,rfl⟩:=q
 rw[h1.inj qy gX]
theorem ZV(f:List Ev->Int->AV){o len:Nat}{l:List Ev}{th:Int}(h:bt aN 7 (.ae n o len) l)(aT:eR l)(hlen:len<=b)(hf:(f l th).hi=true):bj (aY (vH f b)) [.agg [.int .i64 T,.int .i64 V,.int .i64 S,.ae n o len],.int .i64 th]=some (f l th):=
 l3 (mF Wb ⟨n,o,len,l,T,V,S,th,rfl,h,aT,hlen,rfl⟩) (by have:=h.hi;simp[AV.hi,AV.gN] at this ⊢;exact⟨⟨rfl,rfl,rfl,this⟩,rfl⟩) hf
noncomputable def zn(l:List Ev)(th:Int):AV:=.bool (ji l.reverse th)
noncomputable def Oh:FuncId×(List AV->Option AV):=(18,aY (vH zn 140))
noncomputable abbrev sY:gn:=[GI,I6,Ib,Oh,Pb]
noncomputable def ib(n o len m p lo nT nS:Nat)(T V S:Int)(aj:List Th)(ah:List Sr)(ak an nn:Int)(tr:List (List Int)):Fm:=⟨9,[(1,(.ae m p lo)),(2,(.ptr (some (270,0)))),(5,(.ptr (some (274,0)))),(47,(.ae (qm tr) 0 tr.length)),(48,(.int .i64 ((tr.length:Int)))),(49,(.int .i64 nn))],133,[.code (aO Tryd.prog 9 [1,1,1,1,0,1,0,0]),.inLoop (aO Tryd.prog 9 [1,1,1,1,0,1,0,0]),.inBlock 2,.code (aO Tryd.prog 9 [1,1,1,1,1])],[(270,some (.cells 4 (Tr.fill (bK T V S n o len) 0 .nil) [])),(271,(some (aD dc aj))),(273,(some (aD nM ah))),(274,some (.cells 5 (Tr.fill [(.int .i64 V),(.int .i64 ak),(.int .i64 an),(.slice (some (271,0)) nT (.known nT)),(.slice (some (273,0)) nS (.known nS))] 0 .nil) []))],275⟩
theorem Gx{o len nT:Nat}(hn:top<=n)(hm:top<=m)(hT:aj.length*13<=top)(hS:ah.length*2<=top)(C:bz)(h:FH C (ib n o len m p lo nT nS T V S aj ah ak an nn tr)):
  ((ib n o len m p lo nT nS T V S aj ah ak an nn tr).l.map (fun q=>some q.2)=(ib n o len m p lo nT nS T V S aj ah ak an nn tr).l.map (fun q=>some q.2))/\((ay++(ib n o len m p lo nT nS T V S aj ah ak an nn tr).o).map (fun q=>q.2)=(ay++(ib n o len m p lo nT nS T V S aj ah ak an nn tr).o).map (fun q=>q.2))/\mX 275 (ib n o len m p lo nT nS T V S aj ah ak an nn tr).l (ay++(ib n o len m p lo nT nS T V S aj ah ak an nn tr).o)/\FH C (ib n o len m p lo nT nS T V S aj ah ak an nn tr):=by
 have e0:=(eK hn hm hT hS (fun _ _ _=>True) trivial (n:=n) (o:=o) (len:=len) (m:=m) (p:=p) (lo:=lo) (nT:=nT) (nS:=nS) (T:=T) (V:=V) (S:=S) (aj:=aj) (ah:=ah) (ak:=ak) (an:=an) (i:=0)).2.2.1
 refine⟨rfl,rfl,fun r r1 r2=>⟨fun p ou=>?_,(e0 r r1 r2).2⟩,h⟩
 simp only[ib,List.mem_cons,List.not_mem_nil,or_false] at ou
 rcases ou with rfl|rfl|rfl|rfl|rfl|rfl
 ·exact aJ.ae (r2 _ hm) r2
 ·exact aJ.ptr (r1 _ ar)
 ·exact aJ.ptr (r1 _ ar)
 ·exact aJ.ae (r2 _ (dB _)) r2
 ·exact aJ.int _ _
 ·exact aJ.int _ _
abbrev Oi(n o len m p lo nT nS:Nat)(T V S:Int)(aj:List Th)(ah:List Sr)(ak an:Int)(tr:List (List Int)):bz:=fun fr s1 _=>True/\FC (ib n o len m p lo nT nS T V S aj ah ak an 0 tr) fr s1
theorem abh(mc:Mc (sp sY) 6 B){o len nT:Nat}{i:Int}(hn:top<=n)(hm:top<=m)(aH:aj.length*13<=top)(bA:ah.length*2<=top)(hi:¬(i<(len:Int)))(zY:bj (aY (RT j8 999)) [.agg [.int .i64 T,.int .i64 V,.int .i64 S,.ae n o len]]=some (aL cO tr))(H:FSQ B v' cg (ib n o len m p lo nT nS T V S aj ah ak an 0 tr)):FSQ B v' cg (aP n o len m p lo nT nS T V S aj ah ak an i):=by
 exact wC mc (C:=(Oi n o len m p lo nT nS T V S aj ah ak an tr)) C2 2000 (gJ 1 (.fk .no (gB 5 1 (.kn (.ae (qm tr) 0 tr.length) (gK 2 2 (.bk (ib n o len m p lo nT nS T V S aj ah ak an 0 tr).l (ay++(ib n o len m p lo nT nS T V S aj ah ak an 0 tr).o) 275 .no)))))) (U (i<(len:Int)) aA (fun _=>ai zY (Gx hn hm (by exact aH) gd (Oi n o len m p lo nT nS T V S aj ah ak an tr) ⟨trivial,rfl,rfl⟩)))
abbrev M5(n o len m p lo nT nS:Nat)(T V S nn eq fu oe:Int)(aj:List Th)(ah:List Sr)(c:Th)(ak an:Int)(tr:List (List Int))(ov tn:List Int):bz:=fun fr s1 _=>(eq=1/\(ov.length:Int)=c.cc/\(oe=41/\fu=1/\(c.I=0\/c.I=9)\/oe≠41/\¬(fu=1/\(c.I=0\/c.I=9)))/\(oe=0\/oe=41\/oe=42)/\(oe≠42\/(c.I=0\/c.I=9)/\(tn.length:Int) - (ov.length:Int)=1))/\FC (ib n o len m p lo nT nS T V S aj ah ak an (nn+1) tr) fr s1
theorem ZW(mc:Mc (sp sY) 6 B){o len nT:Nat}(hn:top<=n)(hm:top<=m)(aH:aj.length*13<=top)(bA:ah.length*2<=top)(bE:nT<=6)(h0:0<=nn)(hi:nn<(tr.length:Int))(hi2:nn<(nT:Int))(hi3:nn<(lo:Int))(ko:tr.length<=6)(hC:aj[nn.toNat]? =some c)(hW:(ov.length:Int)=c.cc->IntKind.wrap .i64 ((tn.length:Int) - (ov.length:Int))=(tn.length:Int) - (ov.length:Int))(ho:bM FU m (p+nn.toNat*4) 4=some [(.ae (nI ov) 0 ov.length),(.ae (nI ot) 0 ot.length),(.int .i64 oe),(.bool false)])(iM:bM FU (qm tr) (0+nn.toNat*1) 1=some [aL aK tn])(nL:bj (aY (vH zn 140)) [.agg [.int .i64 T,.int .i64 V,.int .i64 S,.ae n o len],.int .i64 nn]=some (.bool (decide (fu=1))))(kW:bj (aY (R2 aK 1 jc)) [aL aK tn,aL aK ot]=some (.bool (decide (eq=1))))(hF:¬(eq=1/\(ov.length:Int)=c.cc/\(oe=41/\fu=1/\(c.I=0\/c.I=9)\/oe≠41/\¬(fu=1/\(c.I=0\/c.I=9)))/\(oe=0\/oe=41\/oe=42)/\(oe≠42\/(c.I=0\/c.I=9)/\(tn.length:Int) - (ov.length:Int)=1))->v'= .bool false)(H:(eq=1/\(ov.length:Int)=c.cc/\(oe=41/\fu=1/\(c.I=0\/c.I=9)\/oe≠41/\¬(fu=1/\(c.I=0\/c.I=9)))/\(oe=0\/oe=41\/oe=42)/\(oe≠42\/(c.I=0\/c.I=9)/\(tn.length:Int) - (ov.length:Int)=1))->FSQ B v' cg (ib n o len m p lo nT nS T V S aj ah ak an (nn+1) tr)):FSQ B v' cg (ib n o len m p lo nT nS T V S aj ah ak an nn tr):=by
 have f1:=fun h=>oj false (hF h)
 have f2:=fun h=>wI (nn+1) h
 exact wC mc (C:=(M5 n o len m p lo nT nS T V S nn eq fu oe aj ah c ak an tr ov tn)) nV 2000 ((fun(q1:Pl)=>((fun(q2:Pl)=>((fun(q3:Pl)=>((fun(q4:Pl)=>((fun(q5:Pl)=>((fun(q6:Pl)=>((fun(q7:Pl)=>((fun(q8:Pl)=>((fun(q9:Pl)=>((fun(py:Pl)=>(gJ 1 (.fk (gB 6 1 (.bI (.bJ [(.ae (nI tn) 0 tn.length)] (gA 2 1 2 (.bI (.bJ [(.ae (nI ov) 0 ov.length),(.ae (nI ot) 0 ot.length),(.int .i64 oe),(.bool false)] (gA 2 1 2 (.il (gC 4 4 (.fk (gH 10 4 (gA 1 1 2 (.kp (fu=1) inferInstance (gA 5 1 5 (.go 1 (gA 1 3 3 (.kp (eq=1) inferInstance (gA 2 2 5 (.il (gC 4 4 (.fk (gH 10 4 q5) q2)))) q6)))) (gA 5 1 5 (.go 1 (gA 1 3 3 (.kp (eq=1) inferInstance (gA 2 2 5 (.il (gC 4 4 (.fk (gH 10 4 q8) q2)))) q6))))))) (.go 8 (.fk (gH 1 4 (gA 1 1 2 (.kp (fu=1) inferInstance (gA 5 1 5 (.go 1 (gA 1 3 3 (.kp (eq=1) inferInstance (gA 2 2 5 (.il (gC 4 4 (.fk q2 (.go 8 (.fk (gH 1 4 q5) q2)))))) q6)))) (gA 5 1 5 (.go 1 (gA 1 3 3 (.kp (eq=1) inferInstance (gA 2 2 5 (.il (gC 4 4 (.fk q2 (.go 8 (.fk (gH 1 4 q8) q2)))))) q6))))))) (gA 1 3 5 (.ix (.go 1 (.ld [(.int .i64 c.I)] (.fk (.go 6 (.ix (.go 1 (.ld [(.int .i64 c.I)] (.fk (gH 2 1 (gA 1 1 2 (.kp (fu=1) inferInstance q9 q9))) (.go 2 py)))))) (.go 12 py)))))))))))))))))) q2))) (gI 1 (gA 1 1 2 (.kp (fu=1) inferInstance (gA 5 1 5 (.go 1 (gA 1 3 3 (.kp (eq=1) inferInstance (gA 2 2 5 (.il (gC 4 4 (.fk q2 (.go 8 (.fk q2 (gA 1 3 5 (.ix (.go 1 (.ld [(.int .i64 c.cc)] (gH 1 1 q5))))))))))) q6)))) (gA 5 1 5 (.go 1 (gA 1 3 3 (.kp (eq=1) inferInstance (gA 2 2 5 (.il (gC 4 4 (.fk q2 (.go 8 (.fk q2 (gA 1 3 5 (.ix (.go 1 (.ld [(.int .i64 c.cc)] (gH 1 1 q8))))))))))) q6))))))))) (gA 5 1 5 (.go 1 (gA 1 3 3 (.kp (eq=1) inferInstance (gA 2 2 5 (.il (gC 4 4 (.fk q2 (.go 8 (.fk q2 (gA 1 3 5 (.ix (.go 1 (.ld [(.int .i64 c.cc)] (gH 1 1 (.fk q1 (gA 1 1 2 (.fk (.go 3 q4) (gA 3 2 2 (.fk (.go 8 q4) q7)))))))))))))))) q6)))))) (.fk q1 (gA 1 1 2 (.fk (.go 3 q4) (gA 3 2 2 (.fk (.go 4 (.fk (.go 3 q4) (gA 3 5 2 (.fk (.go 3 (.fk (.go 4 (.fk q2 (.go 2 q3))) q2)) q2)))) q7))))))) (gA 8 5 2 (.fk (.go 3 (.fk (.go 4 (.fk (.go 2 q4) q2)) q2)) (.go 11 q3))))) (gF 2 6))) (.fk q1 (gA 1 1 2 (.fk (gA 3 2 2 (.fk q2 (gA 8 5 2 (.fk (.go 3 (.fk q2 (.go 7 q3))) q2)))) (.go 3 q4)))))) (gG 4))) (gE 4 (.vl (.int .i64 (nn+1)) (gK 1 1 (.bk (ib n o len m p lo nT nS T V S aj ah ak an (nn+1) tr).l (ay++(ib n o len m p lo nT nS T V S aj ah ak an (nn+1) tr).o) 275 .no)))))) .no)) (gF 1 6)) (U (nn<(tr.length:Int)) (fun _=>aV nn (tr.length:Int) J J (ai (dB (tr.map cO).flatten) (ai iM (aV nn (lo:Int) J J (ai hm (ai ho (U (nn<0) (fun _=>ai nL (U (fu=1) (fun _=>ai kW (U (eq=1) (fun _=>U (nn<0) OZ aA) bd)) (fun _=>ai kW (U (eq=1) (fun _=>U (nn<0) (fun _=>U ((ov.length:Int)≠0) bd Ho) aA) bd)))) (fun _=>U (nn>=(nT:Int)) (fun _=>ai nL (U (fu=1) (fun _=>ai kW (U (eq=1) (fun _=>U (nn<0) aA (fun _=>U (nn>=(nT:Int)) OZ aA)) bd)) (fun _=>ai kW (U (eq=1) (fun _=>U (nn<0) aA (fun _=>U (nn>=(nT:Int)) (fun _=>U ((ov.length:Int)≠0) bd Ho) aA)) bd)))) (fun _=>aV nn (nT:Int) J J (ai (bN bc.len aH hC 0 1 rfl) (U (c.I≠0) (fun _=>aV nn (nT:Int) J J (ai (bN bc.len aH hC 0 1 rfl) (U (c.I≠9) (fun _=>ai nL (U (fu=1) OO OO)) OJ))) OJ))))))))))) aA)
abbrev M6(n o len m p lo nT nS:Nat)(T V S nn eq fu oe:Int)(aj:List Th)(ah:List Sr)(c:Th)(ak an:Int)(tr:List (List Int))(ov tn:List Int):bz:=fun fr s1 _=>(eq=1/\(ov.length:Int)=c.cc/\(oe=41/\fu=1/\(c.I=0\/c.I=9)\/oe≠41/\¬(fu=1/\(c.I=0\/c.I=9)))/\(oe=0\/oe=41\/oe=42)/\(oe≠42\/(c.I=0\/c.I=9)/\(tn.length:Int) - (ov.length:Int)=1)/\(c.I=0\/c.I=9)/\oe=0/\(tn.length:Int) - (ov.length:Int)=0)/\FC (ib n o len m p lo nT nS T V S aj ah ak an (nn+1) tr) fr s1
theorem ZX(mc:Mc (sp sY) 6 B){o len nT:Nat}(hn:top<=n)(hm:top<=m)(aH:aj.length*13<=top)(bA:ah.length*2<=top)(bE:nT<=6)(h0:0<=nn)(hi:nn<(tr.length:Int))(hi2:nn<(nT:Int))(hi3:nn<(lo:Int))(ko:tr.length<=6)(hC:aj[nn.toNat]? =some c)(hW:(ov.length:Int)=c.cc->IntKind.wrap .i64 ((tn.length:Int) - (ov.length:Int))=(tn.length:Int) - (ov.length:Int))(ho:bM FU m (p+nn.toNat*4) 4=some [(.ae (nI ov) 0 ov.length),(.ae (nI ot) 0 ot.length),(.int .i64 oe),(.bool true)])(iM:bM FU (qm tr) (0+nn.toNat*1) 1=some [aL aK tn])(nL:bj (aY (vH zn 140)) [.agg [.int .i64 T,.int .i64 V,.int .i64 S,.ae n o len],.int .i64 nn]=some (.bool (decide (fu=1))))(kW:bj (aY (R2 aK 1 jc)) [aL aK tn,aL aK ot]=some (.bool (decide (eq=1))))(hF:¬(eq=1/\(ov.length:Int)=c.cc/\(oe=41/\fu=1/\(c.I=0\/c.I=9)\/oe≠41/\¬(fu=1/\(c.I=0\/c.I=9)))/\(oe=0\/oe=41\/oe=42)/\(oe≠42\/(c.I=0\/c.I=9)/\(tn.length:Int) - (ov.length:Int)=1)/\(c.I=0\/c.I=9)/\oe=0/\(tn.length:Int) - (ov.length:Int)=0)->v'= .bool false)(H:(eq=1/\(ov.length:Int)=c.cc/\(oe=41/\fu=1/\(c.I=0\/c.I=9)\/oe≠41/\¬(fu=1/\(c.I=0\/c.I=9)))/\(oe=0\/oe=41\/oe=42)/\(oe≠42\/(c.I=0\/c.I=9)/\(tn.length:Int) - (ov.length:Int)=1)/\(c.I=0\/c.I=9)/\oe=0/\(tn.length:Int) - (ov.length:Int)=0)->FSQ B v' cg (ib n o len m p lo nT nS T V S aj ah ak an (nn+1) tr)):FSQ B v' cg (ib n o len m p lo nT nS T V S aj ah ak an nn tr):=by
 have f1:=fun h=>oj false (hF h)
 exact wC mc (C:=(M6 n o len m p lo nT nS T V S nn eq fu oe aj ah c ak an tr ov tn)) nV 2000 ((fun(q1:Pl)=>((fun(q2:Pl)=>((fun(q3:Pl)=>((fun(q4:Pl)=>((fun(q5:Pl)=>((fun(q6:Pl)=>((fun(q7:Pl)=>((fun(q8:Pl)=>((fun(q9:Pl)=>((fun(py:Pl)=>(gJ 1 (.fk (gB 6 1 (.bI (.bJ [(.ae (nI tn) 0 tn.length)] (gA 2 1 2 (.bI (.bJ [(.ae (nI ov) 0 ov.length),(.ae (nI ot) 0 ot.length),(.int .i64 oe),(.bool true)] (gA 2 1 2 (.il (gC 4 4 (.fk (gH 10 4 (gA 1 1 2 (.kp (fu=1) inferInstance (gA 5 1 5 (.go 1 (gA 1 3 3 (.kp (eq=1) inferInstance (gA 2 2 5 (.il (gC 4 4 (.fk (gH 10 4 q6) q2)))) q7)))) (gA 5 1 5 (.go 1 (gA 1 3 3 (.kp (eq=1) inferInstance (gA 2 2 5 (.il (gC 4 4 (.fk (gH 10 4 q8) q2)))) q7))))))) (.go 8 (.fk (gH 1 4 (gA 1 1 2 (.kp (fu=1) inferInstance (gA 5 1 5 (.go 1 (gA 1 3 3 (.kp (eq=1) inferInstance (gA 2 2 5 (.il (gC 4 4 (.fk q2 (.go 8 (.fk (gH 1 4 q6) q2)))))) q7)))) (gA 5 1 5 (.go 1 (gA 1 3 3 (.kp (eq=1) inferInstance (gA 2 2 5 (.il (gC 4 4 (.fk q2 (.go 8 (.fk (gH 1 4 q8) q2)))))) q7))))))) (gA 1 3 5 (.ix (.go 1 (.ld [(.int .i64 c.I)] (.fk (.go 6 (.ix (.go 1 (.ld [(.int .i64 c.I)] (.fk (gH 2 1 (gA 1 1 2 (.kp (fu=1) inferInstance q9 q9))) (.go 2 py)))))) (.go 12 py)))))))))))))))))) q2))) (gI 1 (gA 1 1 2 (.kp (fu=1) inferInstance (gA 5 1 5 (.go 1 (gA 1 3 3 (.kp (eq=1) inferInstance (gA 2 2 5 (.il (gC 4 4 (.fk q2 (.go 8 (.fk q2 (gA 1 3 5 (.ix (.go 1 (.ld [(.int .i64 c.cc)] (gH 1 1 q6))))))))))) q7)))) (gA 5 1 5 (.go 1 (gA 1 3 3 (.kp (eq=1) inferInstance (gA 2 2 5 (.il (gC 4 4 (.fk q2 (.go 8 (.fk q2 (gA 1 3 5 (.ix (.go 1 (.ld [(.int .i64 c.cc)] (gH 1 1 q8))))))))))) q7))))))))) (gA 5 1 5 (.go 1 (gA 1 3 3 (.kp (eq=1) inferInstance (gA 2 2 5 (.il (gC 4 4 (.fk q2 (.go 8 (.fk q2 (gA 1 3 5 (.ix (.go 1 (.ld [(.int .i64 c.cc)] (gH 1 1 (.fk q1 (gA 1 1 2 (.fk q5 (gA 3 2 2 (.fk (.go 8 q3) (gF 8 7))))))))))))))))) q7)))))) (.fk q1 (gA 1 1 2 (.fk q5 (gA 3 2 2 (.fk (.go 4 (.fk q5 (.go 3 q4))) (gA 8 2 7 (.fk (.go 7 q3) (.go 3 (.fk q5 (gA 3 2 2 (.fk q2 (gD 11 4 (.vl (.int .i64 (nn+1)) (gK 1 1 (.bk (ib n o len m p lo nT nS T V S aj ah ak an (nn+1) tr).l (ay++(ib n o len m p lo nT nS T V S aj ah ak an (nn+1) tr).o) 275 .no))))))))))))))))) (gF 2 6))) (.fk q1 (gA 1 1 2 (.fk (gA 3 2 2 (.fk q2 (.go 8 q4))) q5))))) (.go 3 q3))) (gB 2 7 (.fk (.go 7 q3) q2)))) (gG 4))) .no)) (gF 1 6)) (U (nn<(tr.length:Int)) (fun _=>aV nn (tr.length:Int) J J (ai (dB (tr.map cO).flatten) (ai iM (aV nn (lo:Int) J J (ai hm (ai ho (U (nn<0) (fun _=>ai nL (U (fu=1) (fun _=>ai kW (U (eq=1) (fun _=>U (nn<0) NN aA) bd)) (fun _=>ai kW (U (eq=1) (fun _=>U (nn<0) (fun _=>U ((ov.length:Int)≠0) bd Hk) aA) bd)))) (fun _=>U (nn>=(nT:Int)) (fun _=>ai nL (U (fu=1) (fun _=>ai kW (U (eq=1) (fun _=>U (nn<0) aA (fun _=>U (nn>=(nT:Int)) NN aA)) bd)) (fun _=>ai kW (U (eq=1) (fun _=>U (nn<0) aA (fun _=>U (nn>=(nT:Int)) (fun _=>U ((ov.length:Int)≠0) bd Hk) aA)) bd)))) (fun _=>aV nn (nT:Int) J J (ai (bN bc.len aH hC 0 1 rfl) (U (c.I≠0) (fun _=>aV nn (nT:Int) J J (ai (bN bc.len aH hC 0 1 rfl) (U (c.I≠9) (fun _=>ai nL (U (fu=1) OQ OQ)) OL))) OL))))))))))) aA)
theorem abi(mc:Mc (sp sY) 6 B){o len nT:Nat}(hi:¬(nn<(tr.length:Int))):FSQ B (.bool true) cg (ib n o len m p lo nT nS T V S aj ah ak an nn tr):=by
 exact wS mc 2000 (gJ 1 (.fk .no (gG 6))) (U (nn<(tr.length:Int)) aA (fun _=>oj true rfl))
end zZ
end
section
open Go Go.Rn Go.RowKit Go.Proofs
namespace PF
open cd cj cv cD cH cI cN fx rz sE gw eW fy fm fA pC kz xX xD gk uN xz zU Dd H6 Pu Pv zZ
variable {l:List Ev} {S V:Int} {p nS n m lo:Nat} {os:List Out} {c:Th}
theorem LD:∀{h:List Ev} {T V S:Int} (th:Int),Valid h T V S->(ji h th=true↔(aG h th S).ab=6)
  |[],_,_,_,th,_=>⟨fun q=>(by cases q),fun q=>absurd (show(0:Int)=6 from q) ar⟩
  | e :: h, T,V,S,th,hv=>by
    have ih:=LD th hv.1
    have d:=(Fh hv).doc th
    unfold ji
    by_cases q:e.az=th
    · have hk:1<=e.kind/\e.kind<=13:=by have:=eh hv.2.1;omega
      subst q
      rw[rP] at d ⊢
      by_cases nf:e.kind=11
      · rw[if_neg (fun z=>z.2 nf),ih]
        obtain⟨k,th,tx,I,v,x,ab⟩:=e
        simp only at nf;subst nf
        rw[w7]
      · rw [if_pos ⟨rfl,nf⟩,decide_eq_true_iff]
        by_cases eA:e.kind=10
        · obtain⟨k,th,tx,I,v,x,ab⟩:=e
          simp only at eA;subst eA
          rw[mg];simp
        · have hl:(bR e S (aG h e.az S)).last=e.kind:=by
            unfold bR fc;simp only;repeat' split
            all_goals rfl
          have:=d.wh (by rw[hl];exact⟨eA,nf⟩)
          rw[this]
          exact⟨fun z=>absurd z.1 eA,fun z=>absurd z ar⟩
    · rw[if_neg (fun z=>q z.1),wt q];exact ih
theorem US{a:bQ}{cm:Int}(r:bU a cm S c):(c.I=0\/c.I=9)↔aS a:=by
 rw[r.I,n9,DN]
 constructor
 ·rintro (z|z)<;>exact z.1
 ·intro z
  by_cases q:a.ab=6
  ·exact .inr ⟨z,q⟩
  ·exact .inl ⟨z,q⟩
theorem UT{nT:Nat}(hS:1<=nS):dQ [] nT nS (List.replicate nT ed) (List.replicate nS eb) 0:=by
 refine⟨fun th fF=>⟨ed,?_,?_⟩,fun s hs=>?_,rfl,List.length_replicate,List.length_replicate⟩
 ·rw[List.getElem?_replicate,if_pos fF]
 ·have hz:aS gU:=.inl rfl
  have no:¬¬aS gU:=fun q=>q hz
  refine⟨(n9.2 ⟨hz,by decide⟩).symm,rfl,fun q=>absurd hz q,fun q=>?_,fun q=>absurd (show(0:Int)=2 from q) ar,fun q=>absurd hz q,fun q=>absurd hz q,fun q=>absurd hz q,fun q=>rfl,fun q=>absurd (show(0:Int)=5\/(0:Int)=6 from q) ar,fun q=>absurd hz q,fun q=>absurd hz q,fun q=>absurd (show(0:Int)=10\/(0:Int)=11 from q) ar,⟨dI.nil.u,dI.nil.u,dI.nil.u,dI.nil.u⟩,⟨Int.le_refl 0,by show(0:Int)<nS;omega⟩⟩
  exact rfl
 ·rw[List.getElem?_replicate,if_pos hs];rfl
section
variable {B:aZ}
theorem ZY{k:Nat}(o:Out)(tn:List Int)(hv:bU (aG l.reverse k S) (bZ l.reverse k S) S c)(hf:ji l.reverse k=true↔(aG l.reverse k S).ab=6):
  o3 l S k tn o↔((if tn=o.tries then(1:Int) else 0)=1/\(o.values.length:Int)=c.cc/\(o.e=41/\(if ji l.reverse k=true then(1:Int) else 0)=1/\(c.I=0\/c.I=9)\/o.e≠41/\¬((if ji l.reverse k=true then(1:Int) else 0)=1/\(c.I=0\/c.I=9)))/\(o.e=0\/o.e=41\/o.e=42)/\
   (o.e≠42\/(c.I=0\/c.I=9)/\(tn.length:Int) - (o.values.length:Int)=1))/\(o.done=false\/(c.I=0\/c.I=9)/\o.e=0/\(tn.length:Int) - (o.values.length:Int)=0):=by
 have e1:(if tn=o.tries then(1:Int) else 0)=1↔tn=o.tries:=by split<;>simp_all
 have e2:(if ji l.reverse k=true then(1:Int) else 0)=1↔(aG l.reverse k S).ab=6:=by rw[←hf];split<;>simp_all
 rw[e1,e2,US hv,hv.fP]
 unfold o3
 generalize aS (aG l.reverse k S)=OV
 generalize (aG l.reverse k S).ab=wy
 constructor
 ·rintro ⟨z1,z2,z3,z4,z5,z6⟩
  subst z1
  refine⟨⟨rfl,z2,?_,z4,?_⟩,?_⟩
  ·rcases z3 with⟨a,b,c⟩|⟨a,b⟩
   ·exact .inl ⟨a,c,b⟩
   ·exact .inr ⟨a,fun q=>b ⟨q.2,q.1⟩⟩
  ·rcases z5 with a|⟨a,b⟩
   ·exact .inl a
   ·exact .inr ⟨a,by omega⟩
  ·rcases z6 with a|⟨a,b,c⟩
   ·exact .inl a
   ·exact .inr ⟨a,b,by omega⟩
 ·rintro ⟨⟨z1,z2,z3,z4,z5⟩,z6⟩
  subst z1
  refine⟨rfl,z2,?_,z4,?_,?_⟩
  ·rcases z3 with⟨a,b,c⟩|⟨a,b⟩
   ·exact .inl ⟨a,c,b⟩
   ·exact .inr ⟨a,fun q=>b ⟨q.2,q.1⟩⟩
  ·rcases z5 with a|⟨a,b⟩
   ·exact .inl a
   ·exact .inr ⟨a,by omega⟩
  ·rcases z6 with a|⟨a,b,c⟩
   ·exact .inl a
   ·exact .inr ⟨a,b,by omega⟩
theorem ZZ(mc:Mc (sp sY) 6 B){o len nT:Nat}(h:bt aN 7 (.ae n o len) l)(aT:eR l)(hlen:len<=140)(ho:bt kR 4 (.ae m p lo) os)(eY:lo=nT)(bE:nT<=6)(bq:1<=nS/\nS<=32)(Jd:iq nT V nS)(hV:Valid l.reverse nT V nS){aj:List Th}{ah:List Sr}{ak:Int}(r:dQ l.reverse nT nS aj ah ak):
    FSQ B (bP (lp l nT V nS os)) cg (aP n o len m p lo nT nS nT V nS aj ah ak (len:Int) (len:Int)):=by
  obtain⟨dS,hn,cF⟩:=h.len
  obtain⟨ho1,hm,GS⟩:=ho.len
  have aH:aj.length*13<=top:=by rw[r.nt];unfold top;omega
  have bA:ah.length*2<=top:=by rw[r.ns];unfold top;omega
  have ZU:(cE l nT).length=nT:=by unfold cE;rw[List.length_map,List.length_range];omega
  refine abh (tr:=cE l nT) mc hn hm aH bA J (zX j8 999 h aT J (bt.aL rB _).hi) ?_
  have key:∀m' k:Nat,k+m'=nT->(∀(j:Nat) (o:Out) (tn:List Int),j<k->os[j]? =some o->(cE l nT)[j]? =some tn->o3 l nS j tn o)->FSQ B (bP (lp l nT V nS os)) cg (ib n o len m p lo nT nS nT V nS aj ah ak len k (cE l nT)):=by
    intro m'
    induction m' with
    | zero=>
      intro k hk eF
      rw[show bP (lp l nT V nS os)= .bool true from(bT ⟨Jd,hV,by omega,fun j o tn h1 h2=>eF j o tn (by have:=(List.getElem?_eq_some_iff.1 h1).1;omega) h1 h2⟩).symm]
      exact abi mc J
    | succ m' ih=>
      intro k hk eF
      obtain⟨oc,vG⟩:∃e,os[k]? =some e:=⟨_,List.getElem?_eq_getElem J⟩
      have iM:=Ft l nT k J
      obtain⟨c,hC,hR⟩:=r.th k J
      have Qy:=sj l.reverse k
      have kh:bj (aY (R2 aK 1 jc)) [aL aK (dz l.reverse (k:Int)),aL aK oc.tries]=some (.bool (decide ((if dz l.reverse (k:Int)=oc.tries then(1:Int) else 0)=1))):=by
        have:=uM jc pJ (bt.aL eI (dz l.reverse (k:Int))) (bt.aL eI oc.tries) (by have:=Qy.1;omega) rfl
        refine this.trans ?_
        show some (AV.bool (decide (dz l.reverse (k:Int)=oc.tries)))=_
        congr 1
        exact rZ (by by_cases q:dz l.reverse (k:Int)=oc.tries<;>simp[q])
      have nL:bj (aY (vH zn 140)) [.agg [.int .i64 nT,.int .i64 V,.int .i64 nS,.ae n o len],.int .i64 (k:Int)]=some (.bool (decide ((if ji l.reverse k=true then(1:Int) else 0)=1))):=by
        refine(ZV zn h aT hlen rfl).trans ?_
        show some (AV.bool (ji l.reverse k))=_
        congr 2
        cases ji l.reverse k<;>simp
      have ko:bM FU (qm (cE l nT)) (0+(k:Int).toNat*1) 1=some [aL aK (dz l.reverse (k:Int))]:=by
        rw[Int.toNat_natCast,Nat.zero_add];exact wM rB iM 0 1 J
      have e2:((k:Int)+1)=((k+1:Nat):Int):=by omega
      have qT:=ZY oc (dz l.reverse (k:Int)) hR (LD (k:Int) hV)
      have cK:¬o3 l nS k (dz l.reverse (k:Int)) oc->bP (lp l nT V nS os)= .bool false:=fun z=>(bF (fun y=>z (y.2.2.2 k oc _ vG iM))).symm
      have dx:o3 l nS k (dz l.reverse (k:Int)) oc->FSQ B (bP (lp l nT V nS os)) cg (ib n o len m p lo nT nS nT V nS aj ah ak len ((k:Int)+1) (cE l nT)):=fun z=>by
        rw[e2]
        refine ih (k+1) J fun j o tn hj h1 h2=>?_
        by_cases Ak:j=k
        · subst Ak
          rw[vG] at h1;injection h1 with h1;subst h1
          rw[iM] at h2;injection h2 with h2;subst h2
          exact z
        · exact eF j o tn J h1 h2
      have xY:=GS k oc vG
      rw[show k=((k:Int)).toNat by omega] at xY hC
      have jD:=Gc l.reverse k nS
      rw[List.length_reverse] at jD
      have hW:∀ov:List Int,(ov.length:Int)=c.cc->IntKind.wrap .i64 (((dz l.reverse (k:Int)).length:Int) - (ov.length:Int))=((dz l.reverse (k:Int)).length:Int) - (ov.length:Int):=fun ov q=>JY (by have:=Qy.1;rw[hR.fP] at q;omega)
      obtain⟨ov,ot,oe,od⟩:=oc
      cases od with
      |false=>exact ZW (ov:=ov) (ot:=ot) (oe:=oe) mc hn hm aH bA bE J J J J J hC (hW ov) xY ko nL kh (fun z=>cK fun y=>z (qT.1 y).1) (fun z=>dx (qT.2 ⟨z,.inl rfl⟩))
      | true=>
        refine ZX (ov:=ov) (ot:=ot) (oe:=oe) mc hn hm aH bA bE J J J J J hC (hW ov) xY ko nL kh (fun z=>cK fun y=>z ?_) (fun z=>dx (qT.2 ⟨?_,.inr ?_⟩))
        · obtain⟨a,b⟩:=qT.1 y
          obtain⟨a1,a2,a3,a4,a5⟩:=a
          refine⟨a1,a2,a3,a4,a5,?_⟩
          rcases b with b|b
          · cases b
          · exact b
        · exact⟨z.1,z.2.1,z.2.2.1,z.2.2.2.1,z.2.2.2.2.1⟩
        · exact z.2.2.2.2.2
  exact key nT 0 J (fun j o tn hj=>absurd hj J)
theorem UU(hB:B.F=FU)(jR:Hc (sp LN) 6 B)(dS:Hl (sp LN) 6)(hc:Hc (sp sY) 6 B)(hl:Hl (sp sY) 6){o len:Nat}{T:Int}(h:bt aN 7 (.ae n o len) l)(aT:eR l)(hlen:len<=140)(ho:bt kR 4 (.ae m p lo) os):
  bw B 9 (max Tryd.f9.ntmps 2) cg [.agg [.int .i64 T,.int .i64 V,.int .i64 S,.ae n o len],.ae m p lo] (bP (lp l T V S os)):=by
 by_cases hS:iq T V S
 ·obtain⟨h1,h2,h3,h4,h5,h6⟩:=hS
  obtain⟨nT,rfl⟩:=Int.eq_ofNat_of_zero_le h1
  obtain⟨nS,rfl⟩:=Int.eq_ofNat_of_zero_le (show 0<=S by omega)
  have Jd:iq nT V nS:=⟨h1,h2,h3,h4,h5,h6⟩
  have hn:=h.len.2.1
  have hm:=ho.len.2.1
  have Im:=ho.len.1
  have bq:1<=nS/\nS<=32:=by omega
  have hF:(lo:Int)≠nT->bP (lp l nT V nS os)= .bool false:=fun q=>(bF (fun y=>q (by have:=y.2.2.1;omega))).symm
  have H:(lo:Int)=nT->FSQ B (bP (lp l nT V nS os)) cg (aP n o len m p lo nT nS nT V nS (List.replicate nT ed) (List.replicate nS eb) 0 0 0):=fun q=>
   ZI ⟨hB,jR,dS⟩ h aT J hm ⟨h3,h4⟩ J bq (fun z=>(bF (fun y=>z y.2.1)).symm) (fun z aj ah ak r=>ZZ ⟨hB,hc,hl⟩ h aT hlen ho J J bq Jd z r) len 0 _ _ _ J (by rw[List.take_zero];exact trivial) (by rw[List.take_zero];exact UT bq.1)
  have hT:nT=0\/nT=1\/nT=2\/nT=3\/nT=4\/nT=5\/nT=6:=by omega
  rcases hT with rfl|rfl|rfl|rfl|rfl|rfl|rfl
  ·exact V1 ⟨hB,jR,dS⟩ hn hm ⟨h3,h4⟩ h6 bq hF H
  ·exact V2 ⟨hB,jR,dS⟩ hn hm ⟨h3,h4⟩ h6 bq hF H
  ·exact V3 ⟨hB,jR,dS⟩ hn hm ⟨h3,h4⟩ h6 bq hF H
  ·exact V4 ⟨hB,jR,dS⟩ hn hm ⟨h3,h4⟩ h6 bq hF H
  ·exact V5 ⟨hB,jR,dS⟩ hn hm ⟨h3,h4⟩ h6 bq hF H
  ·exact V6 ⟨hB,jR,dS⟩ hn hm ⟨h3,h4⟩ h6 bq hF H
  ·exact V7 ⟨hB,jR,dS⟩ hn hm ⟨h3,h4⟩ h6 bq hF H
 ·rw[show bP (lp l T V S os)= .bool false from(bF (fun y=>hS y.1)).symm]
  exact aa1 ⟨hB,jR,dS⟩ (by unfold iq at hS;omega)
end
end PF
end
section
open Go Go.Rn Go.RowKit Go.Proofs
namespace Dg
open cd cj cv cD cH cI cN eW
variable {th i:Int} {n m:Nat} {es:Nat->Ev}
noncomputable section
def cA:Code:=aO Tryd.prog 18 [1,0,1,0,0]
def cB:Code:=aO Tryd.prog 18 [1,0,1,0,1]
def DS:List (Nat×AV):=[(3,(.ptr (some (271,0)))),(4,(.ptr (some (272,0)))),(9,(.func (.func 56) [] [(.ptr (some (273,0)))]))]
def t18:Tr AV:=eS DS
def nu(th:Int)(n o len:Nat):List (Nat×Option aE):=[(271,some (.cells 1 (Tr.fill [(.int .i64 th)] 0 .nil) [])),(272,some (.cells 1 (Tr.fill [(.bool false)] 0 .nil) [])),(273,some (.cells 1 (Tr.fill [(.ae n o len)] 0 .nil) []))]
def Je(st:LoopState)(p:Option Code):Option aE:=some (.loop st p 18 t18 29 [10,11] cA cB 274)
def hF(th:Int)(n o len:Nat)(es:Nat->Ev):Nat->Tr aE
 |0=>((nU (nu th n o len)).put 274 (some .defs)).put 275 (Je .ready none)
 |m+1=>(hF th n o len es m).put (276+m) (some (.cells 7 (Tr.fill (aN (es m)) 0 .nil) []))
def sF(th:Int)(n o len:Nat)(es:Nat->Ev)(m:Nat):AS:=⟨hF th n o len es m,276+m,0,[],[]⟩
def sH(th:Int)(n o len:Nat)(es:Nat->Ev)(b:Bool)(m:Nat):AS:=⟨((hF th n o len es (m+1)).put 272 (some (.cells 1 (Tr.fill [.bool b] 0 .nil) []))).put 275 (Je .done (some .ret)),277+m,0,[],[]⟩
def sB(th:Int)(n o len:Nat)(es:Nat->Ev)(m:Nat):AS:=⟨(hF th n o len es (m+1)).put 275 (Je .busy none),277+m,0,[],[]⟩
def vJ:AF:=⟨18,t18,29,[.code (aO Tryd.prog 18 [1,0,1,0]),.inBlock 0,.code (aO Tryd.prog 18 [1,1])],[],none⟩
def tB(i:Int)(e:Ev)(m:Nat):Tr AV:=(lD [10,11] [.int .i64 i,.agg (aN e)] t18).put 6 (some (.ptr (some (276+m,0))))
def PG(P:Nat->Prop):Nat->Prop
 |0=>True
 |n+1=>PG P n/\P n
end
theorem qD{P:Nat->Prop}:∀{n:Nat},PG P n->∀m,m<n->P m
  |0,_,_,h=>absurd h (Nat.not_lt_zero _)
  | n+1,h,m,hm=>by
    by_cases q:m=n
    · rw[q];exact h.2
    · exact qD h.1 m J
theorem AO(v:AV)(s:AS):(none:Option Nat)=none/\([]:List Nat)=[]/\(some (v,s):Option (AV×AS))=some (v,s):=⟨rfl,rfl,rfl⟩
def aeC(e:Ev)(th:Int):Prop:=e.az=th/\e.kind≠11
def aew(e:Ev):Prop:=e.kind=10/\e.ab=6
abbrev LV(v:AV)(s:AS):Prop:=(none:Option Nat)=none/\([]:List Nat)=[]/\(some (v,s):Option (AV×AS))=some (v,s)
noncomputable def MD:Pl:=.st 2 (.rg (.go 3 (.fk (.go 3 (.fk (.no) (.go 1 (.en (.st 3 (.cut .no)))))) (.go 5 (.en (.st 3 (.cut .no)))))))
abbrev LF(th:Int)(n o len:Nat)(es:Nat->Ev)(m:Nat):bz:=fun fr s1 _=>fr.round=none/\fr.defers=[]/\yD Tryd.prog (bV Tryd.prog (sp []) FU 4) 275 fr s1=some ((.bool true),(sF th n o len es (m+1)))
theorem Wc{o len:Nat}(hy:¬((es m).az=th/\(es m).kind≠11))(hg:getLoop 275 (sF th n o len es m)= .ok (.loop .ready none 18 t18 29 [10,11] cA cB 274) (sF th n o len es m))(kk:cY Tryd.prog (bV Tryd.prog (sp []) FU 4) 2 ⟨18,lD [10,11] [.int .i64 i,.agg (aN (es m))] t18,29,[.code cA,.beginRound,.code cB],[],some 275⟩ (sF th n o len es m)= .ok (.go ⟨18,tB i (es m) m,29,[.code cB],[],some 275⟩) (sB th n o len es m))(hw:((((es m).az=th)->((((es m).kind≠11)->False)/\(¬((es m).kind≠11)->LV (.bool true) ((sF th n o len es (m+1))))))/\(¬((es m).az=th)->LV (.bool true) ((sF th n o len es (m+1)))))=wp (fK Tryd.prog 270 eg eD []) 900 4 (.fr 18 29 [.code cB] (tB i (es m) m) (sB th n o len es m)) MD [] (fun _ _ _=>False) (LF th n o len es m)):bV Tryd.prog (sp []) FU 5 (.round 275) [.int .i64 i,.agg (aN (es m))] (sF th n o len es m)= .ok (.bool true) ((sF th n o len es (m+1))):=
 Ex hg rfl (Chunk.ev 2 _ _ _ _ kk (E9 (E:=(fK Tryd.prog 270 eg eD [])) (C:=(LF th n o len es m)) nA rfl (fun fr s p h=>Ew h.1 h.2.1 h.2.2) 900 MD (U ((es m).az=th) (fun _=>U ((es m).kind≠11) aA
(fun _=>AO (.bool true) ((sF th n o len es (m+1)))))
(fun _=>AO (.bool true) ((sF th n o len es (m+1))))) hw))
theorem skip{o len:Nat}:∀m,m<141->¬((es m).az=th/\(es m).kind≠11)->bV Tryd.prog (sp []) FU 5 (.round 275) [.int .i64 i,.agg (aN (es m))] (sF th n o len es m)= .ok (.bool true) ((sF th n o len es (m+1))):=by
 refine qD (n:=141) ?_
 repeat' apply And.intro
 ·exact trivial
 all_goals exact fun hy=>Wc hy jl jl jl
noncomputable def ME:Pl:=.st 2 (.rg (.go 3 (.fk (.go 3 (.fk (.go 1 (.en (.st 2 (.rg (.go 2 (.fk (.go 3 (.fk (.go 2 (.en (.cut .no))) (.no))) (.no))))))) (.no))) (.no))))
abbrev LG(th:Int)(n o len:Nat)(es:Nat->Ev)(m:Nat):bz:=fun fr s1 _=>fr.round=none/\fr.defers=[]/\yD Tryd.prog (bV Tryd.prog (sp []) FU 4) 275 fr s1=some ((.bool false),(sH th n o len es true m))
theorem Wd{o len:Nat}(hy:(es m).az=th/\(es m).kind=10/\(es m).ab=6)(hg:getLoop 275 (sF th n o len es m)= .ok (.loop .ready none 18 t18 29 [10,11] cA cB 274) (sF th n o len es m))(kk:cY Tryd.prog (bV Tryd.prog (sp []) FU 4) 2 ⟨18,lD [10,11] [.int .i64 i,.agg (aN (es m))] t18,29,[.code cA,.beginRound,.code cB],[],some 275⟩ (sF th n o len es m)= .ok (.go ⟨18,tB i (es m) m,29,[.code cB],[],some 275⟩) (sB th n o len es m))(hw:((((es m).az=th)->((((es m).kind≠11)->((((es m).kind=10)->((((es m).ab=6)->LV (.bool false) ((sH th n o len es true m)))/\(¬((es m).ab=6)->False)))/\(¬((es m).kind=10)->False)))/\(¬((es m).kind≠11)->False)))/\(¬((es m).az=th)->False))=wp (fK Tryd.prog 270 eg eD []) 900 4 (.fr 18 29 [.code cB] (tB i (es m) m) (sB th n o len es m)) ME [] (fun _ _ _=>False) (LG th n o len es m)):bV Tryd.prog (sp []) FU 5 (.round 275) [.int .i64 i,.agg (aN (es m))] (sF th n o len es m)= .ok (.bool false) ((sH th n o len es true m)):=
 Ex hg rfl (Chunk.ev 2 _ _ _ _ kk (E9 (E:=(fK Tryd.prog 270 eg eD [])) (C:=(LG th n o len es m)) nA rfl (fun fr s p h=>Ew h.1 h.2.1 h.2.2) 900 ME (U ((es m).az=th) (fun _=>U ((es m).kind≠11) (fun _=>U ((es m).kind=10) (fun _=>U ((es m).ab=6) (fun _=>AO (.bool false) ((sH th n o len es true m)))
(fun _=>oF J))
(fun _=>oF J))
(fun _=>oF J))
(fun _=>oF J)) hw))
theorem abj{o len:Nat}:∀m,m<141->(es m).az=th/\(es m).kind=10/\(es m).ab=6->bV Tryd.prog (sp []) FU 5 (.round 275) [.int .i64 i,.agg (aN (es m))] (sF th n o len es m)= .ok (.bool false) ((sH th n o len es true m)):=by
 refine qD (n:=141) ?_
 repeat' apply And.intro
 ·exact trivial
 all_goals exact fun hy=>Wd hy jl jl jl
noncomputable def MF:Pl:=.st 2 (.rg (.go 3 (.fk (.go 3 (.fk (.go 1 (.en (.st 2 (.rg (.go 2 (.fk (.go 3 (.fk (.no) (.go 2 (.en (.cut .no))))) (.go 6 (.en (.cut .no))))))))) (.no))) (.no))))
abbrev LH(th:Int)(n o len:Nat)(es:Nat->Ev)(m:Nat):bz:=fun fr s1 _=>fr.round=none/\fr.defers=[]/\yD Tryd.prog (bV Tryd.prog (sp []) FU 4) 275 fr s1=some ((.bool false),(sH th n o len es false m))
theorem We{o len:Nat}(hy:(es m).az=th/\(es m).kind≠11/\¬((es m).kind=10/\(es m).ab=6))(hg:getLoop 275 (sF th n o len es m)= .ok (.loop .ready none 18 t18 29 [10,11] cA cB 274) (sF th n o len es m))(kk:cY Tryd.prog (bV Tryd.prog (sp []) FU 4) 2 ⟨18,lD [10,11] [.int .i64 i,.agg (aN (es m))] t18,29,[.code cA,.beginRound,.code cB],[],some 275⟩ (sF th n o len es m)= .ok (.go ⟨18,tB i (es m) m,29,[.code cB],[],some 275⟩) (sB th n o len es m))(hw:((((es m).az=th)->((((es m).kind≠11)->((((es m).kind=10)->((((es m).ab=6)->False)/\(¬((es m).ab=6)->LV (.bool false) ((sH th n o len es false m)))))/\(¬((es m).kind=10)->LV (.bool false) ((sH th n o len es false m)))))/\(¬((es m).kind≠11)->False)))/\(¬((es m).az=th)->False))=wp (fK Tryd.prog 270 eg eD []) 900 4 (.fr 18 29 [.code cB] (tB i (es m) m) (sB th n o len es m)) MF [] (fun _ _ _=>False) (LH th n o len es m)):bV Tryd.prog (sp []) FU 5 (.round 275) [.int .i64 i,.agg (aN (es m))] (sF th n o len es m)= .ok (.bool false) ((sH th n o len es false m)):=
 Ex hg rfl (Chunk.ev 2 _ _ _ _ kk (E9 (E:=(fK Tryd.prog 270 eg eD [])) (C:=(LH th n o len es m)) nA rfl (fun fr s p h=>Ew h.1 h.2.1 h.2.2) 900 MF (U ((es m).az=th) (fun _=>U ((es m).kind≠11) (fun _=>U ((es m).kind=10) (fun _=>U ((es m).ab=6) aA
(fun _=>AO (.bool false) ((sH th n o len es false m))))
(fun _=>AO (.bool false) ((sH th n o len es false m))))
(fun _=>oF J))
(fun _=>oF J)) hw))
theorem abk{o len:Nat}:∀m,m<141->(es m).az=th/\(es m).kind≠11/\¬((es m).kind=10/\(es m).ab=6)->bV Tryd.prog (sp []) FU 5 (.round 275) [.int .i64 i,.agg (aN (es m))] (sF th n o len es m)= .ok (.bool false) ((sH th n o len es false m)):=by
 refine qD (n:=141) ?_
 repeat' apply And.intro
 ·exact trivial
 all_goals exact fun hy=>We hy jl jl jl
end Dg
end
section
open Go Go.Rn Go.RowKit Go.Proofs
namespace PH
open cd cj cv cD cH cI cN eW Dg
variable {th:Int} {n m:Nat} {es:Nat->Ev} {b:Bool}
noncomputable def tH(g:Nat->AV)(i:Int):Tr AV:=eS [(0,(.yield 275)),(1,(.ptr (some (273,0)))),(3,(.int .i64 i)),(4,(g 4)),(5,(g 5)),(6,(g 6)),(7,(g 7)),(8,(g 8)),(9,(g 9)),(10,(g 10)),(11,(g 11)),(12,(g 12)),(13,(g 13)),(14,(g 14)),(15,(g 15)),(16,(g 16)),(17,(g 17)),(18,(g 18))]
noncomputable def mA(g:Nat->AV)(i:Int):AF:=⟨56,tH g i,19,[.code (aO Tryd.prog 56 [1,0,0]),.inLoop (aO Tryd.prog 56 [1,0,0]),.inBlock 0],[],none⟩
abbrev CX(g:Nat->AV)(i:Int)(s:AS):Prop:=∃g',mA g i=mA g' i/\s=s
theorem PI(g:Nat->AV)(i:Int)(s:AS):CX g i s:=⟨g,rfl,rfl⟩
noncomputable def Nq(th:Int)(n o len:Nat)(es:Nat->Ev):Pl:=.st 1 (.rg (.go 2 (.vl (.int .i64 ((len:Int) - 1)) (.go 1 (.en (.st 2 (.st 2 (.rg (.go 1 (.fk (.en (.st 5 (.rg (.go 4 (.bI (.bJ (bn ((es 0).kind) ((es 0).az) ((es 0).tx) ((es 0).I) ((es 0).v) ((es 0).x) ((es 0).ab)) (.cy (.bool true) (sF th n o len es (0+1)) (.go 1 (.en (.st 3 (.rg (.go 1 (.vl (.int .i64 (((len:Int) - 1) - 1)) (.go 1 (.en (.st 1 (.cut .no))))))))))))))))) (.no)))))))))))
abbrev PJ(th:Int)(n o len:Nat)(es:Nat->Ev):bz:=fun fr s1 _=>∃g',fr=mA g' (((len:Int) - 1) - 1)/\s1=(sF th n o len es (0+1))
theorem fiS{o len:Nat}{R:AV->AS->Prop}(hn:top<=n)(hlen:len<=140)(h0:((len:Int) - 1)>=0)(he:(bM FU n (o+((len:Int) - 1).toNat*7) 7=some (bn ((es 0).kind) ((es 0).az) ((es 0).tx) ((es 0).I) ((es 0).v) ((es 0).x) ((es 0).ab))))(hr:(bV Tryd.prog (sp []) FU 5 (.round 275) [.int .i64 ((len:Int) - 1),.agg (aN (es 0))] (sF th n o len es 0)= .ok (.bool true) ((sF th n o len es (0+1)))))(H:∀g',gT (fK Tryd.prog 270 eg eD []) 5 jw R (mA g' (((len:Int) - 1) - 1)) (sF th n o len es (0+1))):gT (fK Tryd.prog 270 eg eD []) 5 jw R (⟨56,iD [.yield 275,.ptr (some (273,0))],max Tryd.f56.ntmps 2,[.code (aO Tryd.prog 56 [])],[],none⟩) (sF th n o len es 0):=
 qR (C:=(PJ th n o len es)) nA rfl (fun fr s p h=>by obtain⟨g',rfl,rfl⟩:=h;exact H g') 900 (Nq th n o len es) (ai uv (U (((len:Int) - 1)>=0) (fun _=>aV ((len:Int) - 1) (len:Int) J J (ai hn (ai he (ai hr (ai (wI (((len:Int) - 1) - 1) J) (PI (qj [(4,(.ae n o len)),(5,(.int .i64 ((len:Int)))),(6,(.int .i64 (((len:Int) - 1)))),(7,(.int .i64 (((len:Int) - 1)))),(8,(.bool true)),(9,(.int .i64 (((len:Int) - 1)))),(10,(.int .i64 ((((len:Int) - 1) - 1)))),(11,(.yield 275)),(12,(.int .i64 (((len:Int) - 1)))),(13,(.ae n o len)),(14,(.int .i64 (((len:Int) - 1)))),(15,(.kc n ((o+((len:Int) - 1).toNat*7)+0))),(16,(.agg (bn ((es 0).kind) ((es 0).az) ((es 0).tx) ((es 0).I) ((es 0).v) ((es 0).x) ((es 0).ab)))),(17,(.bool true)),(18,(.bool false))]) (((len:Int) - 1) - 1) (sF th n o len es (0+1)))))))) aA)) (show((AV.int .i64 (IntKind.wrap .i64 ((len:Int) - 1))=AV.int .i64 (((len:Int) - 1)))/\(((((len:Int) - 1)>=0)->(((0:Int)<=((len:Int) - 1))/\((((len:Int) - 1)<(len:Int))/\((top<=n)/\((bM FU n (o+((len:Int) - 1).toNat*7) 7=some (bn ((es 0).kind) ((es 0).az) ((es 0).tx) ((es 0).I) ((es 0).v) ((es 0).x) ((es 0).ab)))/\((bV Tryd.prog (sp []) FU 5 (.round 275) [.int .i64 ((len:Int) - 1),.agg (aN (es 0))] (sF th n o len es 0)= .ok (.bool true) ((sF th n o len es (0+1))))/\((AV.int .i64 (IntKind.wrap .i64 (((len:Int) - 1) - 1))=AV.int .i64 ((((len:Int) - 1) - 1)))/\(CX (qj [(4,(.ae n o len)),(5,(.int .i64 ((len:Int)))),(6,(.int .i64 (((len:Int) - 1)))),(7,(.int .i64 (((len:Int) - 1)))),(8,(.bool true)),(9,(.int .i64 (((len:Int) - 1)))),(10,(.int .i64 ((((len:Int) - 1) - 1)))),(11,(.yield 275)),(12,(.int .i64 (((len:Int) - 1)))),(13,(.ae n o len)),(14,(.int .i64 (((len:Int) - 1)))),(15,(.kc n ((o+((len:Int) - 1).toNat*7)+0))),(16,(.agg (bn ((es 0).kind) ((es 0).az) ((es 0).tx) ((es 0).I) ((es 0).v) ((es 0).x) ((es 0).ab)))),(17,(.bool true)),(18,(.bool false))]) (((len:Int) - 1) - 1) (sF th n o len es (0+1))))))))))/\(¬(((len:Int) - 1)>=0)->False)))=wp (fK Tryd.prog 270 eg eD []) 900 5 (.fr 56 (max Tryd.f56.ntmps 2) [.code (aO Tryd.prog 56 [])] (iD [.yield 275,.ptr (some (273,0))]) (sF th n o len es 0)) (Nq th n o len es) jw (fun v s _=>R v s) (PJ th n o len es) by as_aux_lemma=>kernel_rfl)
noncomputable def Nr(th:Int)(n o len:Nat)(es:Nat->Ev)(b:Bool):Pl:=.st 1 (.rg (.go 2 (.vl (.int .i64 ((len:Int) - 1)) (.go 1 (.en (.st 2 (.st 2 (.rg (.go 1 (.fk (.en (.st 5 (.rg (.go 4 (.bI (.bJ (bn ((es 0).kind) ((es 0).az) ((es 0).tx) ((es 0).I) ((es 0).v) ((es 0).x) ((es 0).ab)) (.cy (.bool false) (sH th n o len es b 0) (.go 1 (.en (.rt 2 .no)))))))))) (.no)))))))))))
theorem fiH{o len:Nat}{R:AV->AS->Prop}(hn:top<=n)(hlen:len<=140)(h0:((len:Int) - 1)>=0)(he:(bM FU n (o+((len:Int) - 1).toNat*7) 7=some (bn ((es 0).kind) ((es 0).az) ((es 0).tx) ((es 0).I) ((es 0).v) ((es 0).x) ((es 0).ab))))(hr:(bV Tryd.prog (sp []) FU 5 (.round 275) [.int .i64 ((len:Int) - 1),.agg (aN (es 0))] (sF th n o len es 0)= .ok (.bool false) ((sH th n o len es b 0))))(hR:(R (.tuple []) ((sH th n o len es b 0)))):gT (fK Tryd.prog 270 eg eD []) 5 jw R (⟨56,iD [.yield 275,.ptr (some (273,0))],max Tryd.f56.ntmps 2,[.code (aO Tryd.prog 56 [])],[],none⟩) (sF th n o len es 0):=
 qR (C:=(fun _ _ _=>False)) nA rfl (fun _ _ _ h=>h.elim) 900 (Nr th n o len es b) (ai uv (U (((len:Int) - 1)>=0) (fun _=>aV ((len:Int) - 1) (len:Int) J J (ai hn (ai he (ai hr
  hR))))
  (fun _=>oF J))) (show((AV.int .i64 (IntKind.wrap .i64 ((len:Int) - 1))=AV.int .i64 (((len:Int) - 1)))/\(((((len:Int) - 1)>=0)->(((0:Int)<=((len:Int) - 1))/\((((len:Int) - 1)<(len:Int))/\((top<=n)/\((bM FU n (o+((len:Int) - 1).toNat*7) 7=some (bn ((es 0).kind) ((es 0).az) ((es 0).tx) ((es 0).I) ((es 0).v) ((es 0).x) ((es 0).ab)))/\((bV Tryd.prog (sp []) FU 5 (.round 275) [.int .i64 ((len:Int) - 1),.agg (aN (es 0))] (sF th n o len es 0)= .ok (.bool false) ((sH th n o len es b 0)))/\(R (.tuple []) ((sH th n o len es b 0)))))))))/\(¬(((len:Int) - 1)>=0)->False)))=wp (fK Tryd.prog 270 eg eD []) 900 5 (.fr 56 (max Tryd.f56.ntmps 2) [.code (aO Tryd.prog 56 [])] (iD [.yield 275,.ptr (some (273,0))]) (sF th n o len es 0)) (Nr th n o len es b) jw (fun v s _=>R v s) (fun _ _ _=>False) by as_aux_lemma=>kernel_rfl)
noncomputable def Ns(th:Int)(n o len:Nat)(es:Nat->Ev):Pl:=.st 1 (.rg (.go 2 (.vl (.int .i64 ((len:Int) - 1)) (.go 1 (.en (.st 2 (.st 2 (.rg (.go 1 (.fk (.no) (.en (.rt 3 .no))))))))))))
theorem fiE{o len:Nat}{R:AV->AS->Prop}(hn:top<=n)(hlen:len<=140)(h0:((len:Int) - 1)<0)(hR:(R (.tuple []) (sF th n o len es 0))):gT (fK Tryd.prog 270 eg eD []) 5 jw R (⟨56,iD [.yield 275,.ptr (some (273,0))],max Tryd.f56.ntmps 2,[.code (aO Tryd.prog 56 [])],[],none⟩) (sF th n o len es 0):=
 qR (C:=(fun _ _ _=>False)) nA rfl (fun _ _ _ h=>h.elim) 900 (Ns th n o len es) (ai uv (U (((len:Int) - 1)>=0) aA (fun _=>hR))) (show((AV.int .i64 (IntKind.wrap .i64 ((len:Int) - 1))=AV.int .i64 (((len:Int) - 1)))/\(((((len:Int) - 1)>=0)->False)/\(¬(((len:Int) - 1)>=0)->(R (.tuple []) (sF th n o len es 0)))))=wp (fK Tryd.prog 270 eg eD []) 900 5 (.fr 56 (max Tryd.f56.ntmps 2) [.code (aO Tryd.prog 56 [])] (iD [.yield 275,.ptr (some (273,0))]) (sF th n o len es 0)) (Ns th n o len es) jw (fun v s _=>R v s) (fun _ _ _=>False) by as_aux_lemma=>kernel_rfl)
noncomputable def Nt(th:Int)(n o len:Nat)(es:Nat->Ev)(m:Nat)(i:Int)(g:Nat->AV):Pl:=.st 2 (.rg (.go 1 (.fk (.en (.st 5 (.rg (.go 4 (.bI (.bJ (bn ((es m).kind) ((es m).az) ((es m).tx) ((es m).I) ((es m).v) ((es m).x) ((es m).ab)) (.cy (.bool true) (sF th n o len es (m+1)) (.go 1 (.en (.st 3 (.rg (.go 1 (.vl (.int .i64 (i - 1)) (.go 1 (.en (.st 1 (.cut .no))))))))))))))))) (.no))))
abbrev MG(th:Int)(n o len:Nat)(es:Nat->Ev)(m:Nat)(i:Int):bz:=fun fr s1 _=>∃g',fr=mA g' (i - 1)/\s1=(sF th n o len es (m+1))
theorem Yj{o len:Nat}(R:AV->AS->Prop)(g:Nat->AV)(i:Int)(hn:top<=n)(hlen:len<=140)(hi:i<(len:Int))(h0:i>=0)(hb: -1<=i)(he:(bM FU n (o+i.toNat*7) 7=some (bn ((es m).kind) ((es m).az) ((es m).tx) ((es m).I) ((es m).v) ((es m).x) ((es m).ab))))(hr:(bV Tryd.prog (sp []) FU 5 (.round 275) [.int .i64 i,.agg (aN (es m))] (sF th n o len es m)= .ok (.bool true) ((sF th n o len es (m+1)))))(H:∀g',gT (fK Tryd.prog 270 eg eD []) 5 jw R (mA g' (i - 1)) (sF th n o len es (m+1)))(hw:(((i>=0)->(((0:Int)<=i)/\((i<(len:Int))/\((top<=n)/\((bM FU n (o+i.toNat*7) 7=some (bn ((es m).kind) ((es m).az) ((es m).tx) ((es m).I) ((es m).v) ((es m).x) ((es m).ab)))/\((bV Tryd.prog (sp []) FU 5 (.round 275) [.int .i64 i,.agg (aN (es m))] (sF th n o len es m)= .ok (.bool true) ((sF th n o len es (m+1))))/\((AV.int .i64 (IntKind.wrap .i64 (i - 1))=AV.int .i64 ((i - 1)))/\(CX (qj [(4,(g 4)),(5,(g 5)),(6,(g 6)),(7,(.int .i64 i)),(8,(.bool true)),(9,(.int .i64 i)),(10,(.int .i64 ((i - 1)))),(11,(.yield 275)),(12,(.int .i64 i)),(13,(.ae n o len)),(14,(.int .i64 i)),(15,(.kc n ((o+i.toNat*7)+0))),(16,(.agg (bn ((es m).kind) ((es m).az) ((es m).tx) ((es m).I) ((es m).v) ((es m).x) ((es m).ab)))),(17,(.bool true)),(18,(.bool false))]) (i - 1) (sF th n o len es (m+1))))))))))/\(¬(i>=0)->False))=wp (fK Tryd.prog 270 eg eD []) 900 5 (.fr 56 19 [.code (aO Tryd.prog 56 [1,0,0]),.inLoop (aO Tryd.prog 56 [1,0,0]),.inBlock 0] (tH g i) (sF th n o len es m)) (Nt th n o len es m i g) jw (fun v s _=>R v s) (MG th n o len es m i)):gT (fK Tryd.prog 270 eg eD []) 5 jw R (mA g i) (sF th n o len es m):=
 qR (C:=(MG th n o len es m i)) nA rfl (fun fr s p h=>by obtain⟨g',rfl,rfl⟩:=h;exact H g') 900 (Nt th n o len es m i g) (U (i>=0) (fun _=>aV i (len:Int) J J (ai hn (ai he (ai hr (ai (wI (i - 1) J) (PI (qj [(4,(g 4)),(5,(g 5)),(6,(g 6)),(7,(.int .i64 i)),(8,(.bool true)),(9,(.int .i64 i)),(10,(.int .i64 ((i - 1)))),(11,(.yield 275)),(12,(.int .i64 i)),(13,(.ae n o len)),(14,(.int .i64 i)),(15,(.kc n ((o+i.toNat*7)+0))),(16,(.agg (bn ((es m).kind) ((es m).az) ((es m).tx) ((es m).I) ((es m).v) ((es m).x) ((es m).ab)))),(17,(.bool true)),(18,(.bool false))]) (i - 1) (sF th n o len es (m+1)))))))) aA) hw
theorem stS{o len:Nat}:∀m,m<141->∀{R:AV->AS->Prop} {g:Nat->AV} {i:Int},(top<=n)->(len<=140)->(i<(len:Int))->(i>=0)->(-1<=i)->((bM FU n (o+i.toNat*7) 7=some (bn ((es m).kind) ((es m).az) ((es m).tx) ((es m).I) ((es m).v) ((es m).x) ((es m).ab))))->((bV Tryd.prog (sp []) FU 5 (.round 275) [.int .i64 i,.agg (aN (es m))] (sF th n o len es m)= .ok (.bool true) ((sF th n o len es (m+1)))))->(∀g',gT (fK Tryd.prog 270 eg eD []) 5 jw R (mA g' (i - 1)) (sF th n o len es (m+1)))->gT (fK Tryd.prog 270 eg eD []) 5 jw R (mA g i) (sF th n o len es m):=by
 refine qD (n:=141) ?_
 repeat' apply And.intro
 ·exact trivial
 all_goals exact fun{R} {g} {i} hn hlen hi h0 hb he hr H=>Yj R g i hn hlen hi h0 hb he hr H jl
noncomputable def Nu(th:Int)(n o len:Nat)(es:Nat->Ev)(m:Nat)(i:Int)(g:Nat->AV)(b:Bool):Pl:=.st 2 (.rg (.go 1 (.fk (.en (.st 5 (.rg (.go 4 (.bI (.bJ (bn ((es m).kind) ((es m).az) ((es m).tx) ((es m).I) ((es m).v) ((es m).x) ((es m).ab)) (.cy (.bool false) (sH th n o len es b m) (.go 1 (.en (.rt 2 .no)))))))))) (.no))))
theorem Yk{o len:Nat}(R:AV->AS->Prop)(g:Nat->AV)(i:Int)(hn:top<=n)(hlen:len<=140)(hi:i<(len:Int))(h0:i>=0)(hb: -1<=i)(he:(bM FU n (o+i.toNat*7) 7=some (bn ((es m).kind) ((es m).az) ((es m).tx) ((es m).I) ((es m).v) ((es m).x) ((es m).ab))))(hr:(bV Tryd.prog (sp []) FU 5 (.round 275) [.int .i64 i,.agg (aN (es m))] (sF th n o len es m)= .ok (.bool false) ((sH th n o len es b m))))(hR:(R (.tuple []) ((sH th n o len es b m))))(hw:(((i>=0)->(((0:Int)<=i)/\((i<(len:Int))/\((top<=n)/\((bM FU n (o+i.toNat*7) 7=some (bn ((es m).kind) ((es m).az) ((es m).tx) ((es m).I) ((es m).v) ((es m).x) ((es m).ab)))/\((bV Tryd.prog (sp []) FU 5 (.round 275) [.int .i64 i,.agg (aN (es m))] (sF th n o len es m)= .ok (.bool false) ((sH th n o len es b m)))/\(R (.tuple []) ((sH th n o len es b m)))))))))/\(¬(i>=0)->False))=wp (fK Tryd.prog 270 eg eD []) 900 5 (.fr 56 19 [.code (aO Tryd.prog 56 [1,0,0]),.inLoop (aO Tryd.prog 56 [1,0,0]),.inBlock 0] (tH g i) (sF th n o len es m)) (Nu th n o len es m i g b) jw (fun v s _=>R v s) (fun _ _ _=>False)):gT (fK Tryd.prog 270 eg eD []) 5 jw R (mA g i) (sF th n o len es m):=
 qR (C:=(fun _ _ _=>False)) nA rfl (fun _ _ _ h=>h.elim) 900 (Nu th n o len es m i g b) (U (i>=0) (fun _=>aV i (len:Int) J J (ai hn (ai he (ai hr
  hR))))
  (fun _=>oF J)) hw
theorem stH{o len:Nat}:∀m,m<141->∀{R:AV->AS->Prop} {g:Nat->AV} {i:Int},(top<=n)->(len<=140)->(i<(len:Int))->(i>=0)->(-1<=i)->((bM FU n (o+i.toNat*7) 7=some (bn ((es m).kind) ((es m).az) ((es m).tx) ((es m).I) ((es m).v) ((es m).x) ((es m).ab))))->((bV Tryd.prog (sp []) FU 5 (.round 275) [.int .i64 i,.agg (aN (es m))] (sF th n o len es m)= .ok (.bool false) ((sH th n o len es b m))))->((R (.tuple []) ((sH th n o len es b m))))->gT (fK Tryd.prog 270 eg eD []) 5 jw R (mA g i) (sF th n o len es m):=by
 refine qD (n:=141) ?_
 repeat' apply And.intro
 ·exact trivial
 all_goals exact fun{R} {g} {i} hn hlen hi h0 hb he hr hR=>Yk R g i hn hlen hi h0 hb he hr hR jl
noncomputable def Nv(th:Int)(n o len:Nat)(es:Nat->Ev)(m:Nat)(i:Int)(g:Nat->AV):Pl:=.st 2 (.rg (.go 1 (.fk (.no) (.en (.rt 3 .no)))))
theorem Yl{o len:Nat}(R:AV->AS->Prop)(g:Nat->AV)(i:Int)(hn:top<=n)(hlen:len<=140)(hi:i<(len:Int))(h0:i<0)(hb: -1<=i)(hR:(R (.tuple []) (sF th n o len es m)))(hw:(((i>=0)->False)/\(¬(i>=0)->(R (.tuple []) (sF th n o len es m))))=wp (fK Tryd.prog 270 eg eD []) 900 5 (.fr 56 19 [.code (aO Tryd.prog 56 [1,0,0]),.inLoop (aO Tryd.prog 56 [1,0,0]),.inBlock 0] (tH g i) (sF th n o len es m)) (Nv th n o len es m i g) jw (fun v s _=>R v s) (fun _ _ _=>False)):gT (fK Tryd.prog 270 eg eD []) 5 jw R (mA g i) (sF th n o len es m):=
 qR (C:=(fun _ _ _=>False)) nA rfl (fun _ _ _ h=>h.elim) 900 (Nv th n o len es m i g) (U (i>=0) aA (fun _=>hR)) hw
theorem stE{o len:Nat}:∀m,m<141->∀{R:AV->AS->Prop} {g:Nat->AV} {i:Int},(top<=n)->(len<=140)->(i<(len:Int))->(i<0)->(-1<=i)->((R (.tuple []) (sF th n o len es m)))->gT (fK Tryd.prog 270 eg eD []) 5 jw R (mA g i) (sF th n o len es m):=by
 refine qD (n:=141) ?_
 repeat' apply And.intro
 ·exact trivial
 all_goals exact fun{R} {g} {i} hn hlen hi h0 hb hR=>Yl R g i hn hlen hi h0 hb hR jl
end PH
end
section
open Go Go.Rn Go.RowKit Go.Proofs
namespace PK
open cd cj cv cD cH cI cN eW Dg
variable {th:Int} {n:Nat} {es:Nat->Ev} {B:aZ} {v:AV}
theorem lsF(th:Int)(n o len:Nat)(C:bz)(h:C vJ (aM (nu th n o len) 274) .no):(DS.map (fun q=>some q.2)=DS.map (fun q=>some q.2))/\((nu th n o len).map (fun q=>q.2)=(nu th n o len).map (fun q=>q.2))/\C vJ (aM (nu th n o len) 274) .no:=⟨rfl,rfl,h⟩
theorem goF(mc:Mc (sp []) 6 B){T V S:Int}{o len:Nat}{v':AV}(hn:top<=n)(H:Sm B zM v' vJ (aM (nu th n o len) 274)):bw B 18 (max Tryd.f18.ntmps 2) zM [(.agg (bK T V S n o len)),(.int .i64 th)] v':=by
 exact wC mc (C:=(fun fr s1 _=>fr=vJ/\s1=aM (nu th n o len) 274)) xo 2000 (gC 4 2 (.il (.rt 5 (gL 1 (.ls DS (nu th n o len) 274 .no))))) (lsF th n o len (fun fr s1 _=>fr=vJ/\s1=aM (nu th n o len) 274) ⟨rfl,rfl⟩)
noncomputable section
noncomputable def GU(P:Program)(call:bf)(rs:List ResultVar)(k:Nat)(fr:AF)(s:AS):Option AV:=
  match cY P call k fr s with
  | .ok (.leave br j) s1=>(match finish P rs br j s1 with
    | .ok v _=>some v
    | .bad=>none)
  |_=>none
noncomputable def Gd(l:Nat)(s:AS):Option (Option Code×AS):=match kA l s with
 | .ok p s1=>some (p,s1)
 | .bad=>none
noncomputable def K18:List Item:=[.inBlock 0,.code (aO Tryd.prog 18 [1,1])]
noncomputable def B3(call:bf)(s:AS):Option AV:=match Gd 275 s with
 |some (p,s1)=>GU Tryd.prog call zM (match p with|none=>6|some _=>1) ⟨18,t18,29,andThen p K18,[274],none⟩ s1
 |none=>none
end
theorem Wf{P:Program}{call:bf}{aI k:Nat}{rs:List ResultVar}{fr:AF}{s:AS}(fq:P.follows .mixedOrders=true)(hc:hJ P B call)(hl:∀t a,Local (call t a))(h0:aI<=s.nx)(h:GU P call rs k fr s=some v):cM P B aI (Fin P rs fun y _=>y=v) fr s:=by
 unfold GU at h
 split at h
 ·rename_i br j s1 e
  split at h
  ·rename_i v2 s2 e2
   injection h with h;subst h
   exact cM.leave fq hc hl e h0 ⟨v2,s2,by rw[←Bb];exact e2,rfl⟩
  ·cases h
 ·cases h
theorem Z0:aO Tryd.prog 18 [1,0,1,0]= .rangeFunc (.tmp 9) #[10,11] cA cB:=by kernel_rfl
theorem nd1(th:Int)(n o len:Nat)(es:Nat->Ev):gR .defs (aM (nu th n o len) 274)= .ok 274 ⟨(nU (nu th n o len)).put 274 (some .defs),275,0,[],[]⟩:=by kernel_rfl
theorem nd2(th:Int)(n o len:Nat)(es:Nat->Ev):gR (.loop .ready none 18 t18 29 (#[10,11]:Array Tmp).toList cA cB 274) ⟨(nU (nu th n o len)).put 274 (some .defs),275,0,[],[]⟩= .ok 275 (sF th n o len es 0):=by kernel_rfl
theorem nd3:aR t18 (.tmp 9)=some (.func (.func 56) [] [.ptr (some (273,0))]):=by kernel_rfl
theorem Wg{l:Nat}{s s1:AS}{p:Option Code}(h:kA l s= .ok p s1):s1.nx=s.nx:=by
 unfold kA at h
 obtain⟨ob,s2,h1,h2⟩:=M.bG h
 obtain⟨gX,n9,YQ,f0,t0,u4,u5,a0,b0,d0,rfl⟩:=vO h1
 obtain⟨_,_,_,dv⟩:=j0 gX
 obtain⟨_,h3⟩:=dY h2
 obtain⟨u,s3,h4,h5⟩:=M.bG h3
 obtain⟨rfl,rfl⟩:=bW h5
 rw[(oM h4).2.2.2.2,dv]
theorem PL(mc:Mc (sp []) 6 B){o len:Nat}{y:AV}{s3:AS}(dL:bV Tryd.prog (sp []) FU 6 (.fn 56) [.yield 275,.ptr (some (273,0))] (sF th n o len es 0)= .ok y s3)(dv:270<=s3.nx)(h:B3 (bV Tryd.prog (sp []) FU 6) s3=some v):Sm B zM v vJ (aM (nu th n o len) 274):=by
  unfold B3 at h
  cases e:Gd 275 s3 with
  |none=>rw[e] at h;cases h
  | some q=>
    obtain⟨p,s4⟩:=q
    rw[e] at h
    simp only at h
    have h5:kA 275 s3= .ok p s4:=by
      unfold Gd at e
      split at e
      · rename_i p' s' e'
        injection e with e;injection e with e1 e2;subst e1;subst e2;exact e'
      · cases e
    have hs4:s4.nx=s3.nx:=Wg h5
    unfold vJ
    rw[Z0]
    exact cM.chunk fq mc.2.1 mc.2.2 (TV (nd1 th n o len es) (nd2 th n o len es) nd3 dL h5) (by show 270<=274;omega) (Wf fq mc.2.1 mc.2.2 (by rw[hs4];exact dv) h)
theorem Z1{o len:Nat}:∀m,m<141->B3 (bV Tryd.prog (sp []) FU 6) (sF th n o len es m)=some (.bool false):=by
 refine qD (n:=141) ?_
 repeat' apply And.intro
 ·exact trivial
 all_goals (show _=_;as_aux_lemma=>kernel_rfl)
theorem Z2{o len:Nat}{b:Bool}:∀m,m<141->B3 (bV Tryd.prog (sp []) FU 6) (sH th n o len es b m)=some (.bool b):=by
 refine qD (n:=141) ?_
 repeat' apply And.intro
 ·exact trivial
 all_goals (show _=_;as_aux_lemma=>kernel_rfl)
end PK
end
section
open Go Go.Rn Go.RowKit Go.Proofs
namespace PM
open cd cj cv cD cH cI cN eW Dg PH PK zZ
variable {l:List Ev} {n:Nat}
theorem MH:∀{h:List Ev} {th:Int},(∀e∈h,¬(e.az=th/\e.kind≠11))->ji h th=false
  |[],_,_=>rfl
  | e::h,th,q=>by
    unfold ji
    rw[if_neg (q e (.head _))]
    exact MH fun e he=>q e (.tail _ he)
theorem MI:∀{h:List Ev} {th:Int} {k:Nat} {e:Ev},h[k]? =some e->(e.az=th/\e.kind≠11)->(∀(j:Nat) e',j<k->h[j]? =some e'->¬(e'.az=th/\e'.kind≠11))->ji h th=decide (e.kind=10/\e.ab=6)
  |[],_,_,_,h,_,_=>by simp at h
  | x::h,th,0,e,he,hh,_=>by
    have:x=e:=by simpa using he
    subst this
    unfold ji
    rw[if_pos hh]
  | x::h,th,k+1,e,he,hh,hj=>by
    unfold ji
    rw[if_neg (hj 0 x (Nat.succ_pos _) rfl)]
    exact MI (by simpa using he) hh fun j e' h1 h2=>hj (j+1) e' J (by simpa using h2)
noncomputable def iN(l:List Ev)(k:Nat):Ev:=(l.reverse[k]?).getD default
def Oj(th:Int)(n o:Nat)(l:List Ev)(v:AV)(s:AS):Prop:=v= .tuple []/\((s=sF th n o l.length (iN l) l.length/\ji l.reverse th=false)\/∃k,k<l.length/\s=sH th n o l.length (iN l) (ji l.reverse th) k)
theorem Cw{k:Nat}(hk:k<l.length):l.reverse[k]? =some (iN l k):=by
 have:k<l.reverse.length:=by rw[List.length_reverse];exact hk
 unfold iN
 rw[List.getElem?_eq_getElem this];rfl
theorem Nw{o len:Nat}(h:bt aN 7 (.ae n o len) l)(k:Nat)(hk:k<l.length){i:Int}(hi:i=(len:Int) - 1 - k):bM FU n (o+i.toNat*7) 7=some (aN (iN l k)):=by
 obtain⟨hl,_,cF⟩:=h.len
 have he:=Cw hk
 rw[List.getElem?_reverse hk] at he
 have e:i.toNat=l.length - 1 - k:=by omega
 rw[e]
 exact cF _ _ he
noncomputable abbrev EE:Env:=fK Tryd.prog 270 eg eD []
theorem Wh(th:Int){o len:Nat}(h:bt aN 7 (.ae n o len) l)(hlen:len<=140):
    gT EE 5 jw (Oj th n o l) ⟨56,iD [.yield 275,.ptr (some (273,0))],max Tryd.f56.ntmps 2,[.code (aO Tryd.prog 56 [])],[],none⟩ (sF th n o len (iN l) 0):=by
  obtain⟨hl,hn,_⟩:=h.len
  subst hl
  have lV:∀k,k<l.length->(∀j,j<k->¬((iN l j).az=th/\(iN l j).kind≠11))->((iN l k).az=th/\(iN l k).kind≠11)->∀i:Int,
      bV Tryd.prog (sp []) FU 5 (.round 275) [.int .i64 i,.agg (aN (iN l k))] (sF th n o l.length (iN l) k)= .ok (.bool false) (sH th n o l.length (iN l) (ji l.reverse th) k):=by
    intro k hk hj hh i
    have e:=MI (Cw hk) hh fun j e' h1 h2=>by
      rw[Cw J] at h2;injection h2 with h2;subst h2;exact hj j h1
    rw[e]
    by_cases q:(iN l k).kind=10/\(iN l k).ab=6
    · rw[decide_eq_true q];exact abj k J ⟨hh.1,q.1,q.2⟩
    · rw[decide_eq_false q];exact abk k J ⟨hh.1,hh.2,q⟩
  have none_:(∀j,j<l.length->¬((iN l j).az=th/\(iN l j).kind≠11))->ji l.reverse th=false:=fun hj=>MH fun e he=>by
    obtain⟨k,hk,e1⟩:=List.mem_iff_getElem.1 he
    rw[List.length_reverse] at hk
    have:=Cw hk
    rw[List.getElem?_eq_getElem (by rw[List.length_reverse];exact hk),e1] at this
    injection this with this
    rw[this];exact hj k hk
  have key:∀m' m:Nat,m+m'=l.length->(∀j,j<m->¬((iN l j).az=th/\(iN l j).kind≠11))->∀(g:Nat->AV) (i:Int),i=(l.length:Int) - 1 - m->
      gT EE 5 jw (Oj th n o l) (mA g i) (sF th n o l.length (iN l) m):=by
    intro m'
    induction m' with
    | zero=>
      intro m hm hj g i hi
      have e:m=l.length:=by omega
      subst e
      exact stE l.length J hn hlen J J J ⟨rfl,.inl ⟨rfl,none_ hj⟩⟩
    | succ m' ih=>
      intro m hm hj g i hi
      have hr:=Nw h m J hi
      by_cases q:(iN l m).az=th/\(iN l m).kind≠11
      · exact stH m J hn hlen J J J hr (lV m J hj q i) ⟨rfl,.inr ⟨m,by omega,rfl⟩⟩
      · refine stS m J hn hlen J J J hr (skip m J q) fun g'=>?_
        refine ih (m+1) J (fun j h1=>?_) g' (i - 1) J
        by_cases z:j=m
        · rw[z];exact q
        · exact hj j J
  by_cases h0:l.length=0
  · refine fiE hn hlen J ⟨rfl,.inl ⟨by rw[h0],none_ fun j hj=>by omega⟩⟩
  · have hr:=Nw h 0 J J (i:=(l.length:Int) - 1)
    by_cases q:(iN l 0).az=th/\(iN l 0).kind≠11
    · exact fiH hn hlen J hr (lV 0 J (fun j hj=>by omega) q _) ⟨rfl,.inr ⟨0,by omega,rfl⟩⟩
    · refine fiS hn hlen J hr (skip 0 J q) fun g'=>?_
      exact key (l.length - 1) 1 J (fun j h1=>by
        have:j=0:=by omega
        rw[this];exact q) g' _ J
theorem Wi{B:aZ}(mc:Mc (sp []) 6 B){o len:Nat}{T V S th:Int}(h:bt aN 7 (.ae n o len) l)(hlen:len<=140):
  bw B 18 (max Tryd.f18.ntmps 2) zM [.agg [.int .i64 T,.int .i64 V,.int .i64 S,.ae n o len],.int .i64 th] (.bool (ji l.reverse th)):=by
 refine goF mc h.len.2.1 ?_
 obtain⟨y,s3,h1,h2,h3⟩:=gT.call (E:=EE) (n:=5) Tryd.func56 (fQ Tryd.func56 jl) (Wh th h hlen)
 have hle:=h.len.1
 rcases h3 with⟨rfl,h4⟩|⟨k,hk,rfl⟩
 ·rw[h4]
  rw[←hle] at h1 hlen ⊢
  exact PL mc h1 (by show 270<=276+l.length;omega) (Z1 l.length J)
 ·rw[←hle] at h1 hlen ⊢
  exact PL mc h1 (by show 270<=277+k;omega) (Z2 k J)
theorem LI(hP:fa Tryd.prog){L:gn}(h:cC Tryd.prog FU (sp L)):cC Tryd.prog FU (sp (Oh::L)):=by
 refine fJ.add hP h fJ.gr Tryd.func18 (fQ Tryd.func18 bx) bx fun args v e=>?_
 obtain⟨n,o,len,l,T,V,S,th,rfl,a,b,c,rfl⟩:=je e
 exact⟨bH.1 bx,fun B hB hc hl=>Wi ⟨hB,hc,hl⟩ a c⟩
end PM
end
section
open Go Go.Rn Go.RowKit Go.Proofs
namespace Ic
open cd cj cv cD mz cH cI cN fx gk eP pB oo fy fm fA pC eW
variable {bp k j n m:Nat} {L:List Int} {l0:List (Nat×AV)} {o0:List (Nat×Option aE)} {y:aE} {p:Nat×Option aE}
noncomputable section
def ki(v:AV):List AV:=[v]
def mS(nm:Nat):List Int->AV
 |[]=>.slice none 0 (.known 0)
 |x::l=>.slice (some (nm,0)) (x::l).length (.aX (x::l).length 1)
def fS:List Int->Option aE
 |[]=>none
 |x::l=>some (aD aK (x::l))
def fp(b:Nat):List (List Int)->List AV
 |[]=>[]
 |l::A=>mS b l::fp (b+1) A
def dR(A:List (List Int))(j k:Nat):Option aE:=if j=k then none else fS (A.getD k [])
def dK(nT:Nat)(a:AV)(len:Nat)(i:Int):List (Nat×AV):=[(3,.slice (some (270,0)) nT (.known nT)),(13,a),(14,.int .i64 (len:Int)),(15,.int .i64 i)]
def dt(A:List (List Int)):List (Nat×Option aE):=[(270,some (aD ki (fp 271 A))),(271,fS (A.getD 0 [])),(272,fS (A.getD 1 [])),(273,fS (A.getD 2 [])),(274,fS (A.getD 3 [])),(275,fS (A.getD 4 [])),(276,fS (A.getD 5 []))]
def jE(l:List (Nat×AV)):AF:=⟨11,eS l,71,[.code (aO Tryd.prog 11 [1,1,0,1,0,0]),.inLoop (aO Tryd.prog 11 [1,1,0,1,0,0]),.inBlock 0,.code (aO Tryd.prog 11 [1,1,1])],[],none⟩
def jF(nT:Nat)(a:AV)(len:Nat)(i:Int)(L:List Int):List (Nat×AV):=[(3,.slice (some (270,0)) nT (.known nT)),(5,.ptr (some (277,0))),(6,mS 278 L),(13,a),(14,.int .i64 (len:Int)),(15,.int .i64 i)]
def jX(A:List (List Int))(j:Nat)(L:List Int)(e:List AV):List (Nat×Option aE):=[(270,some (aD ki (fp 271 A))),(271,dR A j 0),(272,dR A j 1),(273,dR A j 2),(274,dR A j 3),(275,dR A j 4),(276,dR A j 5),(277,some (.cells 7 (Tr.fill e 0 .nil) [])),(278,fS L)]
def sZ(l:List (Nat×AV)):AF:=⟨11,eS l,71,[.code (aO Tryd.prog 11 [1,1,0,1,0,0,1,1,0,0,1,1,1,0,0,0]),.inLoop (aO Tryd.prog 11 [1,1,0,1,0,0,1,1,0,0,1,1,1,0,0,0]),.inBlock 2,.code (aO Tryd.prog 11 [1,1,0,1,0,0,1,1,0,0,1,1,1,1]),.inBlock 1,.code (aO Tryd.prog 11 [1,1,0,1,0,0,1,1,1]),.inLoop (aO Tryd.prog 11 [1,1,0,1,0,0]),.inBlock 0,.code (aO Tryd.prog 11 [1,1,1])],[],none⟩
end
theorem AP:GM 1 aK:=⟨fun _=>rfl,fun _=>rfl,fun _=>rfl⟩
theorem PN(v:AV):(ki v).length=1:=rfl
theorem oD:∀(b:Nat) (A:List (List Int)),(fp b A).length=A.length
 |_,[]=>rfl
 |b,_::A=>by simp[fp,oD (b+1) A]
theorem Bh:∀{A:List (List Int)} {b k:Nat} {L:List Int},A[k]? =some L->(fp b A)[k]? =some (mS (b+k) L)
  |[],_,_,_,h=>by simp at h
  | l::A,b,0,L,h=>by
    simp at h;subst h;rfl
  | l::A,b,k+1,L,h=>by
    simp only[List.getElem?_cons_succ] at h
    simp only[fp,List.getElem?_cons_succ]
    rw[Bh h]
    rw[show b+1+k=b+(k+1) by omega]
theorem Kr:∀{A:List (List Int)} {b k:Nat} {L:List Int},fp b (A.set k L)=(fp b A).set k (mS (b+k) L)
  |[],_,_,_=>rfl
  |l::A,b,0,L=>rfl
  | l::A,b,k+1,L=>by
    simp only[List.set_cons_succ,fp]
    rw[Kr,show b+1+k=b+(k+1) by omega]
noncomputable def CA(nT:Nat)(a:AV)(len:Nat)(i:Int)(A:List (List Int)):bz:=fun fr s _=>fr=jE (dK nT a len i)/\s=aM (dt A) 277
noncomputable def CB(nT:Nat)(a:AV)(len:Nat)(i:Int)(A:List (List Int))(j:Nat)(L:List Int)(e:List AV):bz:=fun fr s _=>fr=sZ (jF nT a len i L)/\s=aM (jX A j L e) 279
theorem low(n:Nat)(h:n<1000:=by decide):n<top:=by unfold top;omega
theorem Cx(c:List AV):(c.map ki).flatten=c:=by
 induction c with
 |nil=>rfl
 |cons x c ih=>simp only[List.map_cons,List.flatten_cons,ih];rfl
theorem EU{r:Nat->Nat}(L:List Int)(h:r m=n):aJ r (mS n L) (mS m L):=by
 cases L with
 |nil=>exact aJ.lY
 |cons x l=>exact aJ.slice h
theorem Tn(n:Nat)(L:List Int):(mS n L).ct=true:=by cases L<;>rfl
theorem wa(r:Nat->Nat)(h:fS L=some y)(hl:L.length<=top):y.plain=true/\y.du=false/\c8 r y y:=by
  cases L with
  |nil=>cases h
  | cons x l=>
    injection h with h
    subst h
    exact⟨rfl,rfl,c8.aD (fun x=>⟨AP.flat x,AP.one x⟩) (by rw[pI AP.len];omega)⟩
theorem By{r:Nat->Nat}{c c':List AV}(hl:c.length<=top)(h:ll r c c')(h1:c'.all AV.ct=true):c8 r (aD ki c) (aD ki c'):=by
 unfold aD
 rw[Cx,Cx]
 exact c8.cells hl h h1
theorem ye:∀(b:Nat) (A:List (List Int)),(fp b A).all AV.ct=true
  |_,[]=>rfl
  | b,l::A=>by
    simp only[fp,List.all_cons,Tn,ye (b+1) A,Bool.and_self]
theorem A0{r:Nat->Nat}:∀{A:List (List Int)} {b:Nat},(∀k,b<=k->k<b+A.length->r k=k)->ll r (fp b A) (fp b A)
 |[],_,_=>trivial
 |l::A,b,h=>⟨EU l (h b (Nat.le_refl _) cR),A0 fun k h1 h2=>h k J (by simp only[List.length_cons];omega)⟩
def jd(nx bp:Nat):Nat->Nat:=fun k=>if k<nx\/top<=k then k else max k bp
theorem l5{nx:Nat}(h:k<nx):jd nx bp k=k:=by unfold jd;rw[if_pos (.inl h)]
theorem nF{nx:Nat}(h:top<=k):jd nx bp k=k:=by unfold jd;rw[if_pos (.inr h)]
theorem wx{nx:Nat}(h:nx<=k)(ht:k<top)(hs:bp<top):bp<=jd nx bp k/\jd nx bp k<top:=by
 unfold jd
 rw[if_neg J]
 omega
theorem MJ{r:Nat->Nat}{nT nm o len:Nat}{i:Int}(h:r 270=270)(hn:top<=nm)(hr:∀k,top<=k->r k=k):∀p∈dK nT (.ae nm o len) len i,p.1<top/\∃x,(p.1,x)∈dK nT (.ae nm o len) len i/\aJ r x p.2:=by
 intro p hp
 simp only[dK,List.mem_cons,List.not_mem_nil,or_false] at hp
 rcases hp with rfl|rfl|rfl|rfl
 ·exact⟨low 3,_,by simp[dK],aJ.slice h⟩
 ·exact⟨low 13,_,by simp[dK],aJ.ae (hr nm hn) hr⟩
 ·exact⟨low 14,_,by simp[dK],aJ.int _ _⟩
 ·exact⟨low 15,_,by simp[dK],aJ.int _ _⟩
theorem yN{A:List (List Int)}(nT:Nat)(hb:∀l∈A,l.length<=6):(A.getD k []).length<=top:=by
 have:(A.getD k []).length<=6:=by
  rw[List.getD_eq_getElem?_getD]
  cases e:A[k]? with
  |none=>simp
  |some l=>exact hb l (List.mem_of_getElem? e)
 unfold top;omega
theorem wz{A:List (List Int)}(hp:p∈dt A):p=(270,some (aD ki (fp 271 A)))\/∃k,k<6/\p=(271+k,fS (A.getD k [])):=by
 simp only[dt,List.mem_cons,List.not_mem_nil,or_false] at hp
 rcases hp with rfl|rfl|rfl|rfl|rfl|rfl|rfl
 ·exact .inl rfl
 ·exact .inr ⟨0,by decide,rfl⟩
 ·exact .inr ⟨1,by decide,rfl⟩
 ·exact .inr ⟨2,by decide,rfl⟩
 ·exact .inr ⟨3,by decide,rfl⟩
 ·exact .inr ⟨4,by decide,rfl⟩
 ·exact .inr ⟨5,by decide,rfl⟩
theorem Ge{A:List (List Int)}(hk:k<6):(271+k,fS (A.getD k []))∈dt A:=by
 have:k=0\/k=1\/k=2\/k=3\/k=4\/k=5:=by omega
 rcases this with rfl|rfl|rfl|rfl|rfl|rfl<;>simp[dt]
theorem yO{l:List (Nat×AV)}{o:List (Nat×Option aE)}{nx:Nat}(h:∃r:Nat->Nat,(∀k,k<270->r k=k)/\(∀k,nx<=k->k<top->bp<=r k/\r k<top)/\(∀k,top<=k->r k=k)/\nx<=top/\(∀p∈l,p.1<top/\∃x,(p.1,x)∈l0/\aJ r x p.2)/\
   (∀p∈o,p.1<top/\∀y,p.2=some y->r p.1<top/\y.plain=true/\∃x,(r p.1,some x)∈o0/\(y.du=false->x.du=false)/\c8 r x y)/\
   (∀p∈o,∀q∈o,p.2≠none->q.2≠none->r p.1=r q.1->p.1=q.1)):fC FU 270 bp l0 o0 l o nx:=by
 obtain⟨r,a,b,c,d,e,f,g⟩:=h
 refine⟨[],r,a,b,c,d,fun p hp=>?_,fun p hp=>?_,g,fun p hp=>(by cases hp),fun p hp=>(by cases hp)⟩
 ·obtain⟨e1,x,e2,e3⟩:=e p hp
  exact⟨e1,x,e2,e3.z⟩
 ·obtain⟨f1,f2⟩:=f p hp
  refine⟨f1,fun y hy=>?_⟩
  obtain⟨g1,g2,x,g3,g4,g5⟩:=f2 y hy
  exact⟨g1,g2,x,g3,g4,g5.z⟩
theorem z7{nT nm o len:Nat}{A:List (List Int)}{i:Int}(dT:top<=nm)(hA:A.length<=6)(hb:∀l∈A,l.length<=6)(hs:277<=bp)(pv:bp<top):fC FU 270 bp (dK nT (.ae nm o len) len i) (dt A) (dK nT (.ae nm o len) len i) (dt A) 277:=by
 have e6:jd 277 bp 270=270:=l5 ar
 refine yO ⟨jd 277 bp,fun k hk=>l5 J,fun k h1 h2=>wx h1 h2 pv,fun k hk=>nF hk,by unfold top;decide,MJ e6 dT (fun k hk=>nF hk),fun p hp=>?_,fun p hp q hq _ _ e=>?_⟩
 ·rcases wz hp with rfl|⟨k,hk,rfl⟩
  ·refine⟨low 270,fun y hy=>?_⟩
   injection hy with hy;subst hy
   refine⟨by show jd 277 bp 270<top;rw[e6];exact low 270,rfl,_,by show(jd 277 bp 270,_)∈_;rw[e6];exact hp,fun h=>h,By C5 (A0 fun k h1 h2=>l5 J) (ye _ _)⟩
  ·refine⟨by show 271+k<top;unfold top;omega,fun y hy=>?_⟩
   obtain⟨h1,h2,h3⟩:=wa (jd 277 bp) hy (yN nT hb)
   have e:jd 277 bp (271+k)=271+k:=l5 J
   exact⟨by show jd 277 bp (271+k)<top;rw[e];unfold top;omega,h1,y,by show(jd 277 bp (271+k),some y)∈_;rw[e, ←hy];exact hp,fun h=>h,h3⟩
 ·have hl:∀p∈dt A,p.1<277:=fun p hp=>by
   rcases wz hp with rfl|⟨k,hk,rfl⟩
   ·exact(by decide:270<277)
   ·show 271+k<277;omega
  rw[l5 (hl p hp),l5 (hl q hq)] at e
  exact e
def dU(n m nx bp:Nat):Nat->Nat:=fun k=>if k=n then m else jd nx bp k
theorem lF{nx:Nat}:dU n m nx bp n=m:=by unfold dU;rw[if_pos rfl]
theorem lg{nx:Nat}(h:k≠n):dU n m nx bp k=jd nx bp k:=by unfold dU;rw[if_neg h]
theorem MK{r:Nat->Nat}{nT nm o len:Nat}(b:Nat){i:Int}(h:r 270=270)(h5:r 277=277)(hn:top<=nm)(hr:∀k,top<=k->r k=k)(h6:r 278=b)(hl:∀p,p∈jF nT (.ae nm o len) len i L->p.1≠6->p∈l0)(hx:(6,mS b L)∈l0):∀p∈jF nT (.ae nm o len) len i L,p.1<top/\∃x,(p.1,x)∈l0/\aJ r x p.2:=by
 intro p hp
 have oy:=hp
 simp only[jF,List.mem_cons,List.not_mem_nil,or_false] at hp
 rcases hp with rfl|rfl|rfl|rfl|rfl|rfl
 ·exact⟨low 3,_,hl _ oy cR,aJ.slice h⟩
 ·exact⟨low 5,_,hl _ oy cR,aJ.ptr h5⟩
 ·exact⟨low 6,_,hx,EU L h6⟩
 ·exact⟨low 13,_,hl _ oy cR,aJ.ae (hr nm hn) hr⟩
 ·exact⟨low 14,_,hl _ oy cR,aJ.int _ _⟩
 ·exact⟨low 15,_,hl _ oy cR,aJ.int _ _⟩
theorem BO{A:List (List Int)}{e:List AV}(hp:p∈jX A j L e):p=(270,some (aD ki (fp 271 A)))\/(∃k,k<6/\p=(271+k,dR A j k))\/p=(277,some (.cells 7 (Tr.fill e 0 .nil) []))\/p=(278,fS L):=by
 simp only[jX,List.mem_cons,List.not_mem_nil,or_false] at hp
 rcases hp with rfl|rfl|rfl|rfl|rfl|rfl|rfl|rfl|rfl
 ·exact .inl rfl
 ·exact .inr (.inl ⟨0,by decide,rfl⟩)
 ·exact .inr (.inl ⟨1,by decide,rfl⟩)
 ·exact .inr (.inl ⟨2,by decide,rfl⟩)
 ·exact .inr (.inl ⟨3,by decide,rfl⟩)
 ·exact .inr (.inl ⟨4,by decide,rfl⟩)
 ·exact .inr (.inl ⟨5,by decide,rfl⟩)
 ·exact .inr (.inr (.inl rfl))
 ·exact .inr (.inr (.inr rfl))
theorem ML{A:List (List Int)}(h:dR A j k=some y):j≠k/\fS (A.getD k [])=some y:=by
 unfold dR at h
 by_cases q:j=k
 ·rw[if_pos q] at h;cases h
 ·rw[if_neg q] at h;exact⟨q,h⟩
theorem MM{r:Nat->Nat}{e:List AV}(he:e.length=7)(hf:e.all AV.flat=true)(h1:e.all AV.ct=true):c8 r (.cells 7 (Tr.fill e 0 .nil) []) (.cells 7 (Tr.fill e 0 .nil) []):=by
 rw[←he]
 exact c8.cells (by rw[he];unfold top;decide) (ll.flat hf) h1
section
variable {nT nm o len:Nat} {A:List (List Int)} {i:Int} {e:List AV}
theorem abl{th:Int}(dT:top<=nm)(hA:A.length<=6)(hb:∀l∈A,l.length<=6)(he:e.length=7)(hf:e.all AV.flat=true)(h1:e.all AV.ct=true)(s8:A[th.toNat]? =some L)(hj:th.toNat<6):
    fC FU 270 278 [(3,.slice (some (270,0)) nT (.known nT)),(5,.ptr (some (277,0))),(6,mS (271+th.toNat) L),(13,.ae nm o len),(14,.int .i64 (len:Int)),(15,.int .i64 i)] (dt A++[(277,some (.cells 7 (Tr.fill e 0 .nil) []))]) (jF nT (.ae nm o len) len i L) (jX A th.toNat L e) 279:=by
  have cV:∀k,k<279->k≠278->dU 278 (271+th.toNat) 279 278 k=k:=fun k h1 h2=>by rw[lg h2];exact l5 h1
  have hL:A.getD th.toNat []=L:=by rw[List.getD_eq_getElem?_getD,s8];rfl
  refine yO ⟨dU 278 (271+th.toNat) 279 278,fun k hk=>cV k J J,fun k q1 q2=>?_,fun k hk=>?_,by unfold top;decide,MK (271+th.toNat) (cV _ ar ar) (cV _ ar ar) dT (fun k hk=>by rw[lg sw];exact nF hk) lF (fun p hp fD=>?_) cR,fun p hp=>?_,fun p hp q hq n1 n2 ee=>?_⟩
  · rw[lg J];exact wx q1 q2 (low 278)
  · rw[lg sw];exact nF hk
  · simp only[jF,List.mem_cons,List.not_mem_nil,or_false] at hp
    rcases hp with rfl|rfl|rfl|rfl|rfl|rfl<;>first|(exact absurd rfl fD)|simp
  · rcases BO hp with rfl|⟨k,hk,rfl⟩|rfl|rfl
    · refine⟨low 270,fun y hy=>?_⟩
      injection hy with hy;subst hy
      have e6:=cV 270 ar ar
      refine⟨by show dU _ _ _ _ 270<top;rw[e6];exact low 270,rfl,_,by show(dU _ _ _ _ 270,_)∈_;rw[e6];simp[dt],fun h=>h,By C5 (A0 fun k q1 q2=>cV k J J) (ye _ _)⟩
    · refine⟨by show 271+k<top;unfold top;omega,fun y hy=>?_⟩
      obtain⟨_,kU⟩:=ML (show dR A th.toNat k=some y from hy)
      obtain⟨a1,a2,a3⟩:=wa (dU 278 (271+th.toNat) 279 278) kU (yN nT hb)
      have e7:=cV (271+k) J J
      exact⟨by show dU _ _ _ _ (271+k)<top;rw[e7];unfold top;omega,a1,y,by show(dU _ _ _ _ (271+k),some y)∈_;rw[e7, ←kU];exact List.mem_append.2 (.inl (Ge hk)),fun h=>h,a3⟩
    · refine⟨low 277,fun y hy=>?_⟩
      injection hy with hy;subst hy
      have e7:=cV 277 ar ar
      exact⟨by show dU _ _ _ _ 277<top;rw[e7];exact low 277,rfl,_,by show(dU _ _ _ _ 277,_)∈_;rw[e7];simp,fun h=>h,MM he hf h1⟩
    · refine⟨low 278,fun y hy=>?_⟩
      have kU:fS L=some y:=hy
      obtain⟨a1,a2,a3⟩:=wa (dU 278 (271+th.toNat) 279 278) kU (by rw[←hL];exact yN nT hb)
      exact⟨by show dU _ _ _ _ 278<top;rw[lF];unfold top;omega,a1,y,by show(dU _ _ _ _ 278,some y)∈_;rw[lF, ←kU, ←hL];exact List.mem_append.2 (.inl (Ge hj)),fun h=>h,a3⟩
  · have key:∀p∈jX A th.toNat L e,p.2≠none->(p.1=278\/(p.1<278/\p.1≠271+th.toNat)):=by
      intro p hp fD
      rcases BO hp with rfl|⟨k,hk,rfl⟩|rfl|rfl
      · exact .inr ⟨by show 270<278;omega,by show 270≠271+th.toNat;omega⟩
      · refine .inr ⟨by show 271+k<278;omega,?_⟩
        show 271+k≠271+th.toNat
        intro q
        have:th.toNat=k:=by omega
        apply fD
        show dR A th.toNat k=none
        unfold dR
        rw[if_pos this]
      · exact .inr ⟨by show 277<278;omega,by show 277≠271+th.toNat;omega⟩
      · exact .inl rfl
    rcases key p hp n1 with h|⟨h,h'⟩
    · rcases key q hq n2 with k|⟨k,k'⟩
      · rw[h,k]
      · rw[h,lF,cV q.1 J J] at ee;omega
    · rcases key q hq n2 with k|⟨k,k'⟩
      · rw[k,lF,cV p.1 J J] at ee;omega
      · rw[cV p.1 J J,cV q.1 J J] at ee;exact ee
theorem PO(dT:top<=nm)(hA:A.length<=6)(hb:∀l∈A,l.length<=6)(he:e.length=7)(hf:e.all AV.flat=true)(h1:e.all AV.ct=true)(hL:L≠[])(hLl:L.length<=6):
  fC FU 270 281 [(3,.slice (some (270,0)) nT (.known nT)),(5,.ptr (some (277,0))),(6,mS 280 L),(13,.ae nm o len),(14,.int .i64 (len:Int)),(15,.int .i64 i)] [(270,some (aD ki (fp 271 A))),(271,dR A j 0),(272,dR A j 1),(273,dR A j 2),(274,dR A j 3),(275,dR A j 4),(276,dR A j 5),(277,some (.cells 7 (Tr.fill e 0 .nil) [])),(280,fS L)] (jF nT (.ae nm o len) len i L) (jX A j L e) 279:=by
 have cV:∀k,k<278->dU 278 280 279 281 k=k:=fun k h1=>by rw[lg J];exact l5 J
 refine yO ⟨dU 278 280 279 281,fun k hk=>cV k J,fun k q1 q2=>?_,fun k hk=>?_,by unfold top;decide,MK 280 (cV _ ar) (cV _ ar) dT (fun k hk=>by rw[lg sw];exact nF hk) lF (fun p hp fD=>?_) cR,fun p hp=>?_,fun p hp q hq n1 n2 ee=>?_⟩
 ·rw[lg J];exact wx q1 q2 (low 281)
 ·rw[lg sw];exact nF hk
 ·simp only[jF,List.mem_cons,List.not_mem_nil,or_false] at hp
  rcases hp with rfl|rfl|rfl|rfl|rfl|rfl<;>first|(exact absurd rfl fD)|simp
 ·rcases BO hp with rfl|⟨k,hk,rfl⟩|rfl|rfl
  ·refine⟨low 270,fun y hy=>?_⟩
   injection hy with hy;subst hy
   have e6:=cV 270 ar
   refine⟨by show dU _ _ _ _ 270<top;rw[e6];exact low 270,rfl,_,by show(dU _ _ _ _ 270,_)∈_;rw[e6];simp,fun h=>h,By C5 (A0 fun k q1 q2=>cV k J) (ye _ _)⟩
  ·refine⟨by show 271+k<top;unfold top;omega,fun y hy=>?_⟩
   have nk:dR A j k=some y:=hy
   obtain⟨_,kU⟩:=ML nk
   obtain⟨a1,a2,a3⟩:=wa (dU 278 280 279 281) kU (yN nT hb)
   have e7:=cV (271+k) J
   refine⟨by show dU _ _ _ _ (271+k)<top;rw[e7];unfold top;omega,a1,y,?_,fun h=>h,a3⟩
   show(dU _ _ _ _ (271+k),some y)∈_
   rw[e7, ←nk]
   have:k=0\/k=1\/k=2\/k=3\/k=4\/k=5:=by omega
   rcases this with rfl|rfl|rfl|rfl|rfl|rfl<;>simp
  ·refine⟨low 277,fun y hy=>?_⟩
   injection hy with hy;subst hy
   have e7:=cV 277 ar
   exact⟨by show dU _ _ _ _ 277<top;rw[e7];exact low 277,rfl,_,by show(dU _ _ _ _ 277,_)∈_;rw[e7];simp,fun h=>h,MM he hf h1⟩
  ·refine⟨low 278,fun y hy=>?_⟩
   have kU:fS L=some y:=hy
   obtain⟨a1,a2,a3⟩:=wa (dU 278 280 279 281) kU dW
   exact⟨by show dU _ _ _ _ 278<top;rw[lF];exact low 280,a1,y,by show(dU _ _ _ _ 278,some y)∈_;rw[lF, ←kU];simp,fun h=>h,a3⟩
 ·have key:∀p∈jX A j L e,p.1=278\/p.1<278:=by
   intro p hp
   rcases BO hp with rfl|⟨k,hk,rfl⟩|rfl|rfl
   ·exact .inr (by decide:270<278)
   ·exact .inr (by show 271+k<278;omega)
   ·exact .inr (by decide:277<278)
   ·exact .inl rfl
  rcases key p hp with h|h
  ·rcases key q hq with k|k
   ·rw[h,k]
   ·rw[h,lF,cV q.1 k] at ee;omega
  ·rcases key q hq with k|k
   ·rw[k,lF,cV p.1 h] at ee;omega
   ·rw[cV p.1 h,cV q.1 k] at ee;exact ee
theorem LJ{r:Nat->Nat}:∀{l m:List AV},l.length=m.length->(∀(i:Nat) x y,l[i]? =some x->m[i]? =some y->aJ r x y)->ll r l m
 |[],[],_,_=>trivial
 |[],_::_,h,_=>by simp at h
 |_::_,[],h,_=>by simp at h
 |x::l,y::m,h,k=>⟨k 0 x y rfl rfl,LJ (by simpa using h) fun i a b h1 h2=>k (i+1) a b (by simpa using h1) (by simpa using h2)⟩
theorem Ks:∀{A:List (List Int)} {b k:Nat} {x:AV},(fp b A)[k]? =some x->∃L,A[k]? =some L/\x=mS (b+k) L
  |[],_,_,_,h=>by simp[fp] at h
  | l::A,b,0,x,h=>by
    simp[fp] at h;exact⟨l,rfl,h.symm⟩
  | l::A,b,k+1,x,h=>by
    simp only[fp,List.getElem?_cons_succ] at h
    obtain⟨L,h1,h2⟩:=Ks h
    exact⟨L,by simpa using h1,by rw[h2,show b+1+k=b+(k+1) by omega]⟩
theorem abm{N:Nat}{L':List Int}(dT:top<=nm)(hA:A.length<=6)(hb:∀l∈A,l.length<=6)(DT:A[j]? =some L)(hj:j<6)(fD:L'≠[])(hL':L'.length<=6)(hN:N=L'.length)(hs:279<=bp)(pv:bp<top):
    fC FU 270 bp (dK nT (.ae nm o len) len i) [(270,some (aD ki ((fp 271 A).set j (.slice (some (278,0)) N (.aX N 1))))),(271,dR A j 0),(272,dR A j 1),(273,dR A j 2),(274,dR A j 3),(275,dR A j 4),(276,dR A j 5),(278,some (aD aK L'))] (dK nT (.ae nm o len) len i) (dt (A.set j L')) 277:=by
  have cV:∀k,k<277->k≠271+j->dU (271+j) 278 277 bp k=k:=fun k h1 h2=>by rw[lg h2];exact l5 h1
  have e6:dU (271+j) 278 277 bp 270=270:=cV 270 ar J
  obtain⟨x0,l0,rfl⟩:∃x l,L'=x::l:=by
    cases L' with
    |nil=>exact absurd rfl fD
    |cons x l=>exact⟨x,l,rfl⟩
  have jA:∀l∈A.set j (x0::l0),l.length<=6:=fun l hl=>by
    rcases List.mem_or_eq_of_mem_set hl with h|h
    · exact hb l h
    · rw[h];exact hL'
  have Qz:j<A.length:=(List.getElem?_eq_some_iff.1 DT).1
  have hgj:(A.set j (x0::l0)).getD j []=x0::l0:=by rw[List.getD_eq_getElem?_getD,List.getElem?_set_self Qz];rfl
  have IV:∀k,k≠j->(A.set j (x0::l0)).getD k []=A.getD k []:=fun k q=>by rw[List.getD_eq_getElem?_getD,List.getElem?_set_ne (fun e=>q e.symm),List.getD_eq_getElem?_getD]
  refine yO ⟨dU (271+j) 278 277 bp,fun k hk=>cV k J J,fun k q1 q2=>?_,fun k hk=>?_,by unfold top;decide,MJ e6 dT (fun k hk=>by rw[lg sw];exact nF hk),fun p hp=>?_,fun p hp q hq _ _ ee=>?_⟩
  · rw[lg J]
    have:=wx (nx:=277) q1 q2 pv
    exact this
  · rw[lg sw];exact nF hk
  · rcases wz hp with rfl|⟨k,hk,rfl⟩
    · refine⟨low 270,fun y hy=>?_⟩
      injection hy with hy;subst hy
      refine⟨by show dU _ _ _ _ 270<top;rw[e6];exact low 270,rfl,aD ki ((fp 271 A).set j (.slice (some (278,0)) N (.aX N 1))),by show(dU _ _ _ _ 270,_)∈_;rw[e6];exact List.mem_cons_self,fun h=>h,?_⟩
      refine By (by rw[List.length_set,oD];unfold top;omega) ?_ (ye _ _)
      refine LJ (by rw[List.length_set,oD,oD,List.length_set]) fun k a b h1 h2=>?_
      rw[Kr] at h2
      by_cases q:j=k
      · subst q
        have hc:j<(fp 271 A).length:=by rw[oD];exact Qz
        rw[List.getElem?_set_self hc] at h1 h2
        injection h1 with h1;injection h2 with h2
        subst h1;subst h2
        show aJ _ _ (.slice (some (271+j,0)) (x0::l0).length (.aX (x0::l0).length 1))
        rw[←hN]
        exact aJ.slice lF
      · rw[List.getElem?_set_ne q] at h1 h2
        rw[h1] at h2;injection h2 with h2;subst h2
        obtain⟨M,h3,rfl⟩:=Ks h1
        have:=(List.getElem?_eq_some_iff.1 h3).1
        exact EU M (cV _ J J)
    · refine⟨by show 271+k<top;unfold top;omega,fun y hy=>?_⟩
      have nk:fS ((A.set j (x0::l0)).getD k [])=some y:=hy
      obtain⟨a1,a2,a3⟩:=wa (dU (271+j) 278 277 bp) nk (yN nT jA)
      by_cases q:k=j
      · subst q
        rw[hgj] at nk
        refine⟨by show dU _ _ _ _ (271+k)<top;rw[lF];exact low 278,a1,y,?_,fun h=>h,a3⟩
        show(dU _ _ _ _ (271+k),some y)∈_
        rw[lF, ←nk]
        simp[fS]
      · rw[IV k q] at nk
        have e7:=cV (271+k) J J
        refine⟨by show dU _ _ _ _ (271+k)<top;rw[e7];unfold top;omega,a1,y,?_,fun h=>h,a3⟩
        show(dU _ _ _ _ (271+k),some y)∈_
        rw[e7, ←nk]
        have hB:fS (A.getD k [])=dR A j k:=by unfold dR;rw[if_neg (fun e=>q e.symm)]
        rw[hB]
        have:k=0\/k=1\/k=2\/k=3\/k=4\/k=5:=by omega
        rcases this with rfl|rfl|rfl|rfl|rfl|rfl<;>simp
  · have hl:∀p∈dt (A.set j (x0::l0)),p.1<277:=fun p hp=>by
      rcases wz hp with rfl|⟨k,hk,rfl⟩
      · exact(by decide:270<277)
      · show 271+k<277;omega
    have key:∀p∈dt (A.set j (x0::l0)),(p.1=271+j/\dU (271+j) 278 277 bp p.1=278)\/(p.1≠271+j/\dU (271+j) 278 277 bp p.1=p.1):=fun p hp=>by
      by_cases q:p.1=271+j
      · exact .inl ⟨q,by rw[q,lF]⟩
      · exact .inr ⟨q,cV _ (hl p hp) q⟩
    have:=hl p hp
    have:=hl q hq
    rcases key p hp with⟨h1,h2⟩|⟨h1,h2⟩
    · rcases key q hq with⟨k1,k2⟩|⟨k1,k2⟩
      · rw[h1,k1]
      · rw[h2,k2] at ee;omega
    · rcases key q hq with⟨k1,k2⟩|⟨k1,k2⟩
      · rw[h2,k2] at ee;omega
      · rw[h2,k2] at ee;exact ee
theorem IQ{T:Nat}{a:AV}(ha:∀r:Nat->Nat,(∀k,top<=k->r k=k)->aJ r a a)(hT:T<=6)(hs:272<=bp)(pv:bp<top)(u6:l0=[(3,.slice (some (271,0)) T (.known T)),(13,a),(14,.int .i64 (len:Int)),(15,.int .i64 i)]):
    fC FU 270 bp l0 [(271,some (.cells T .nil [.slice none 0 (.known 0)]))] (dK T a len i) (dt (List.replicate T [])) 277:=by
  subst u6
  have hg:∀k,(List.replicate T ([]:List Int)).getD k []=[]:=fun k=>by
    rw[List.getD_eq_getElem?_getD]
    cases e:(List.replicate T ([]:List Int))[k]? with
    |none=>rfl
    | some x=>
      have:=List.mem_of_getElem? e
      rw[List.mem_replicate] at this
      rw[this.2];rfl
  have e6:dU 270 271 277 bp 270=271:=lF
  refine yO ⟨dU 270 271 277 bp,fun k hk=>by rw[lg J];exact l5 J,fun k q1 q2=>?_,fun k hk=>?_,by unfold top;decide,fun p hp=>?_,fun p hp=>?_,fun p hp q hq n1 n2 _=>?_⟩
  · rw[lg J];exact wx q1 q2 pv
  · rw[lg sw];exact nF hk
  · simp only[dK,List.mem_cons,List.not_mem_nil,or_false] at hp
    rcases hp with rfl|rfl|rfl|rfl
    · exact⟨low 3,_,by simp,aJ.slice e6⟩
    · exact⟨low 13,_,by simp,ha _ fun k hk=>by rw[lg sw];exact nF hk⟩
    · exact⟨low 14,_,by simp,aJ.int _ _⟩
    · exact⟨low 15,_,by simp,aJ.int _ _⟩
  · rcases wz hp with rfl|⟨k,hk,rfl⟩
    · refine⟨low 270,fun y hy=>?_⟩
      injection hy with hy;subst hy
      refine⟨by show dU _ _ _ _ 270<top;rw[e6];exact low 271,rfl,.cells T .nil [.slice none 0 (.known 0)],by show(dU _ _ _ _ 270,_)∈_;rw[e6];exact List.mem_cons_self,fun h=>h,?_⟩
      unfold aD
      rw[Cx]
      intro ρ N ob h
      obtain⟨c,e',rfl,k1,k2,k3⟩:=h
      refine⟨c,e',rfl,k1,by rw[oD,List.length_replicate];exact k2,fun m hm=>?_⟩
      rw[oD,List.length_replicate] at hm
      obtain⟨x,v,a1,a2,a3,a4⟩:=k3 m hm
      have hx:x= .slice none 0 (.known 0):=by
        unfold cellAt at a1
        rw[Tr.get_nil] at a1
        have h1:([AV.slice none 0 (.known 0)]:List AV)[m % 1]? =some x:=a1
        rw[Nat.mod_one] at h1
        injection h1 with h1
        exact h1.symm
      subst hx
      have iG:(fp 271 (List.replicate T ([]:List Int)))[m]? =some (.slice none 0 (.known 0)):=by
        have h0:(List.replicate T ([]:List Int))[m]? =some []:=by rw[List.getElem?_replicate,if_pos hm]
        exact Bh h0
      refine⟨.slice none 0 (.known 0),v,?_,rfl,a3,aJ.lY ρ v a4⟩
      unfold cellAt
      rw[vY _ (by rw[oD,List.length_replicate];unfold top;omega) m (by rw[oD,List.length_replicate];exact hm),iG]
    · refine⟨by show 271+k<top;unfold top;omega,fun y hy=>?_⟩
      have nk:fS ((List.replicate T ([]:List Int)).getD k [])=some y:=hy
      rw[hg] at nk;cases nk
  · have key:∀p∈dt (List.replicate T []),p.2≠none->p.1=270:=by
      intro p hp fD
      rcases wz hp with rfl|⟨k,hk,rfl⟩
      · rfl
      · exfalso;apply fD
        show fS ((List.replicate T ([]:List Int)).getD k [])=none
        rw[hg];rfl
    rw[key p hp n1,key q hq n2]
end
theorem xZ(nT nm o len:Nat)(i:Int)(A:List (List Int))(bp:Nat)(hw:fC FU 270 bp l0 o0 (dK nT (.ae nm o len) len i) (dt A) 277):l0.map (fun q=>some q.2)=l0.map (fun q=>some q.2)/\o0.map (fun q=>q.2)=o0.map (fun q=>q.2)/\fC FU 270 bp l0 o0 (dK nT (.ae nm o len) len i) (dt A) 277/\CA nT (.ae nm o len) len i A (jE (dK nT (.ae nm o len) len i)) (aM (dt A) 277) .no:=⟨rfl,rfl,hw,rfl,rfl⟩
theorem Jf(nT nm o len:Nat)(i:Int)(A:List (List Int))(j:Nat)(L:List Int)(e:List AV)(bp:Nat)(hw:fC FU 270 bp l0 o0 (jF nT (.ae nm o len) len i L) (jX A j L e) 279):l0.map (fun q=>some q.2)=l0.map (fun q=>some q.2)/\o0.map (fun q=>q.2)=o0.map (fun q=>q.2)/\fC FU 270 bp l0 o0 (jF nT (.ae nm o len) len i L) (jX A j L e) 279/\CB nT (.ae nm o len) len i A j L e (sZ (jF nT (.ae nm o len) len i L)) (aM (jX A j L e) 279) .no:=⟨rfl,rfl,hw,rfl,rfl⟩
end Ic
end
section
open Go Go.Rn Go.RowKit Go.Proofs
namespace sG
open cd cj cv cD mz cH cI cN fx gk eP pB oo fy fm fA pC eW
open Ic
variable {x ab v tx th k i x0 y:Int} {l:List Ev} {A:List (List Int)} {m j n:Nat} {l0 L:List Int} {e:Ev}
theorem skip{B:aZ}(mc:Mc (sp []) 6 B){nm o len nT:Nat}{I:Int}{R:AV->AS->Prop}(jr:A.length<=6)(hb:∀l∈A,l.length<=6)(hlen:len<=2000)(hi:0<=i/\i<(len:Int))(dT:top<=nm)(hA:A.length=nT)(hT:nT<=6)(s9:(fp 271 A).length*1<=top)(bB:bM FU nm (o+i.toNat*7) 7=some (bn k th tx I v x ab))(hs:¬(k=1/\0<=th/\th<(nT:Int)/\0<=tx/\tx<6))(H:∀fr s p,CA nT (.ae nm o len) len (i+1) A fr s p->cM Tryd.prog B 270 (Fin Tryd.prog eN R) fr s):cM Tryd.prog B 270 (Fin Tryd.prog eN R) (jE (dK nT (.ae nm o len) len i)) (aM (dt A) 277):=by
 exact wL (E:=en []) tK rfl fq mc.2.1 mc.2.2 v7 rfl mc.1 H 900 ((fun(q1:Pl)=>(gJ 1 (.fk (gE 6 (.bI (.bJ (bn k th tx I v x ab) (gA 2 2 2 (.fk (.go 22 q1) (.go 3 (.fk (.go 18 q1) (.go 6 (.fk (.go 11 q1) (.go 4 (.fk (.go 6 q1) (.go 4 (.fk (.go 1 q1) (gD 1 3 .no)))))))))))))) .no))) (gE 2 (.vl (.int .i64 (i+1)) (gK 1 1 (.rn [(3,(.slice (some (270,0)) nT (.known nT))),(13,(.ae nm o len)),(14,(.int .i64 ((len:Int)))),(15,(.int .i64 ((i+1))))] [(270,(some (aD ki (fp 271 A)))),(271,(fS (A.getD 0 []))),(272,(fS (A.getD 1 []))),(273,(fS (A.getD 2 []))),(274,(fS (A.getD 3 []))),(275,(fS (A.getD 4 []))),(276,(fS (A.getD 5 [])))] (dK nT (.ae nm o len) len (i+1)) (dt A) 278 277 .no)))))
  (U (i<(len:Int)) (fun _=>aV i (len:Int) J J
  (ai dT (ai (c9 bB 0 7 ar)
  (U (k≠1) (fun _=>ai (wI (i+1) J)
  (xZ nT nm o len (i+1) A 278 (z7 dT jr hb ar (low 278))))
  (fun _=>U (th<0) (fun _=>ai (wI (i+1) J)
  (xZ nT nm o len (i+1) A 278 (z7 dT jr hb ar (low 278))))
  (fun _=>U (th>=(nT:Int)) (fun _=>ai (wI (i+1) J)
  (xZ nT nm o len (i+1) A 278 (z7 dT jr hb ar (low 278))))
  (fun _=>U (tx<0) (fun _=>ai (wI (i+1) J)
  (xZ nT nm o len (i+1) A 278 (z7 dT jr hb ar (low 278))))
  (fun _=>U (tx>=6) (fun _=>ai (wI (i+1) J)
  (xZ nT nm o len (i+1) A 278 (z7 dT jr hb ar (low 278))))
  (fun _=>oF J)))))))))
  (fun _=>oF J))
theorem He{B:aZ}(mc:Mc (sp []) 6 B){nm o len nT:Nat}{I:Int}{R:AV->AS->Prop}(jr:A.length<=6)(hb:∀l∈A,l.length<=6)(hlen:len<=2000)(hi:0<=i/\i<(len:Int))(dT:top<=nm)(hA:A.length=nT)(hT:nT<=6)(s9:(fp 271 A).length*1<=top)(bB:bM FU nm (o+i.toNat*7) 7=some (bn k th tx I v x ab))(hk:k=1/\0<=th/\th<(nT:Int)/\0<=tx/\tx<6)(z8:th.toNat<6)(s8:A[th.toNat]? =some L)(H:∀fr s p,CB nT (.ae nm o len) len i A th.toNat L (bn k th tx I v x ab) fr s p->cM Tryd.prog B 270 (Fin Tryd.prog eN R) fr s):cM Tryd.prog B 270 (Fin Tryd.prog eN R) (jE (dK nT (.ae nm o len) len i)) (aM (dt A) 277):=by
 exact wL (E:=en []) tK rfl fq mc.2.1 mc.2.2 v7 rfl mc.1 H 900 (gJ 1 (.fk (gE 6 (.bI (.bJ (bn k th tx I v x ab) (gA 2 2 2 (.fk .no (.go 3 (.fk .no (.go 6 (.fk .no (.go 4 (.fk .no (.go 4 (.fk .no (gA 1 3 3 (.ix (.ld [(mS (271+th.toNat) L)] (gK 1 3 (.rn [(3,(.slice (some (270,0)) nT (.known nT))),(5,(.ptr (some (277,0)))),(6,(mS (271+th.toNat) L)),(13,(.ae nm o len)),(14,(.int .i64 ((len:Int)))),(15,(.int .i64 i))] [(270,(some (aD ki (fp 271 A)))),(271,(fS (A.getD 0 []))),(272,(fS (A.getD 1 []))),(273,(fS (A.getD 2 []))),(274,(fS (A.getD 3 []))),(275,(fS (A.getD 4 []))),(276,(fS (A.getD 5 []))),(277,some (.cells 7 (Tr.fill (bn k th tx I v x ab) 0 .nil) []))] (jF nT (.ae nm o len) len i L) (jX A th.toNat L (bn k th tx I v x ab)) 278 279 .no)))))))))))))))))) .no))
  (U (i<(len:Int)) (fun _=>aV i (len:Int) J J
  (ai dT (ai (c9 bB 0 7 ar)
  (U (k≠1) (fun _=>oF J)
  (fun _=>U (th<0) (fun _=>oF J)
  (fun _=>U (th>=(nT:Int)) (fun _=>oF J)
  (fun _=>U (tx<0) (fun _=>oF J)
  (fun _=>U (tx>=6) (fun _=>oF J)
  (fun _=>aV th (nT:Int) J J
  (ai (bN PN s9 (Bh s8) 0 1 rfl)
  (Jf nT nm o len i A th.toNat L (bn k th tx I v x ab) 278 (abl dT jr hb rfl rfl rfl s8 z8))))))))))))
  (fun _=>oF J))
theorem abn{B:aZ}(mc:Mc (sp []) 6 B){nm o len nT:Nat}{I:Int}{R:AV->AS->Prop}{x0:Int}{l0:List Int}(jr:A.length<=6)(hb:∀l∈A,l.length<=6)(dT:top<=nm)(hp:(([]:List Int).length:Int)<=tx)(pE:tx<6)(H:∀fr s p,CB nT (.ae nm o len) len i A j ([]++[0]) (bn k th tx I v x ab) fr s p->cM Tryd.prog B 270 (Fin Tryd.prog eN R) fr s):cM Tryd.prog B 270 (Fin Tryd.prog eN R) (sZ (jF nT (.ae nm o len) len i [])) (aM (jX A j [] (bn k th tx I v x ab)) 279):=by
 exact wL (E:=en []) tK rfl fq mc.2.1 mc.2.2 v7 rfl mc.1 H 900 (gC 2 4 (.fk (gL 6 (.rn [(3,(.slice (some (270,0)) nT (.known nT))),(5,(.ptr (some (277,0)))),(6,(.slice (some (280,0)) (1) (.aX 1 1))),(13,(.ae nm o len)),(14,(.int .i64 ((len:Int)))),(15,(.int .i64 i))] [(270,(some (aD ki (fp 271 A)))),(271,(dR A j 0)),(272,(dR A j 1)),(273,(dR A j 2)),(274,(dR A j 3)),(275,(dR A j 4)),(276,(dR A j 5)),(277,some (.cells 7 (Tr.fill (bn k th tx I v x ab) 0 .nil) [])),(280,some (.cells 1 (Tr.fill [(.int .i64 (.ofNat 0))] 0 .nil) []))] (jF nT (.ae nm o len) len i ([]++[0])) (jX A j ([]++[0]) (bn k th tx I v x ab)) 281 279 .no)) .no))
  (U ((0:Int)<=tx) (fun _=>Jf nT nm o len i A j ([]++[0]) (bn k th tx I v x ab) 281 (PO dT jr hb rfl rfl rfl ar ar))
  (fun _=>oF J))
theorem abo{B:aZ}(mc:Mc (sp []) 6 B){nm o len nT:Nat}{I:Int}{R:AV->AS->Prop}(jr:A.length<=6)(hb:∀l∈A,l.length<=6)(dT:top<=nm)(hp:((x0::l0).length:Int)<=tx)(pE:tx<6)(qO:2*((x0::l0).length+1)*8+4096*8<=room)(lR:((x0::l0).length+1)*1<=top)(H:∀fr s p,CB nT (.ae nm o len) len i A j ((x0::l0)++[0]) (bn k th tx I v x ab) fr s p->cM Tryd.prog B 270 (Fin Tryd.prog eN R) fr s):cM Tryd.prog B 270 (Fin Tryd.prog eN R) (sZ (jF nT (.ae nm o len) len i (x0::l0))) (aM (jX A j (x0::l0) (bn k th tx I v x ab)) 279):=by
 exact wL (E:=en []) tK rfl fq mc.2.1 mc.2.2 v7 rfl mc.1 H 900 (gC 2 4 (.fk (gB 3 2 (.ap Int aK (x0::l0) 0 (gK 1 2 (.rn [(3,(.slice (some (270,0)) nT (.known nT))),(5,(.ptr (some (277,0)))),(6,(.slice (some (280,0)) (((x0::l0)++[0]).length) (.aX ((x0::l0)++[0]).length 1))),(13,(.ae nm o len)),(14,(.int .i64 ((len:Int)))),(15,(.int .i64 i))] [(270,(some (aD ki (fp 271 A)))),(271,(dR A j 0)),(272,(dR A j 1)),(273,(dR A j 2)),(274,(dR A j 3)),(275,(dR A j 4)),(276,(dR A j 5)),(277,some (.cells 7 (Tr.fill (bn k th tx I v x ab) 0 .nil) [])),(280,(some (aD aK ((x0::l0)++[0]))))] (jF nT (.ae nm o len) len i ((x0::l0)++[0])) (jX A j ((x0::l0)++[0]) (bn k th tx I v x ab)) 281 279 .no)))) .no))
  (U ((((x0::l0).length:Nat):Int)<=tx) (fun _=>nj aK (x0::l0) 0 (K:=1) (gO:=8) (fun x=>⟨rfl,rfl⟩) qO lR
  (Jf nT nm o len i A j ((x0::l0)++[0]) (bn k th tx I v x ab) 281 (PO dT jr hb rfl rfl rfl cR Hz)))
  (fun _=>oF J))
theorem abp{B:aZ}(mc:Mc (sp []) 6 B){nm o len nT:Nat}{I:Int}{R:AV->AS->Prop}(jr:A.length<=6)(hb:∀l∈A,l.length<=6)(hl6:(x0::l0).length<=6)(hlen:len<=2000)(hi:0<=i/\i<(len:Int))(dT:top<=nm)(hA:A.length=nT)(hT:nT<=6)(s9:(fp 271 A).length*1<=top)(QA:(x0::l0).length*1<=top)(fF:0<=th/\th<(nT:Int))(hj:th.toNat<6)(DT:A[th.toNat]? =some L)(pE:0<=tx/\tx<((x0::l0).length:Int))(hy:(x0::l0)[tx.toNat]? =some y)(hy2:0<=y/\y<=4000)(H:∀fr s p,CA nT (.ae nm o len) len (i+1) (A.set th.toNat ((x0::l0).set tx.toNat (y+1))) fr s p->cM Tryd.prog B 270 (Fin Tryd.prog eN R) fr s):cM Tryd.prog B 270 (Fin Tryd.prog eN R) (sZ (jF nT (.ae nm o len) len i (x0::l0))) (aM (jX A th.toNat (x0::l0) (bn k th tx I v x ab)) 279):=by
 exact wL (E:=en []) tK rfl fq mc.2.1 mc.2.2 v7 rfl mc.1 H 900 (gC 2 4 (.fk .no (gB 3 3 (.ix (.ld [(.int .i64 y)] (.vl (.int .i64 (y+1)) (.ix (.dj (aD aK ((x0::l0).set tx.toNat (y+1))) (.en (.rg (.go 4 (.ix (.dj (aD ki ((fp 271 A).set th.toNat (.slice (some (278,0)) ((x0::l0).length) (.aX (x0::l0).length 1)))) (gE 1 (.vl (.int .i64 (i+1)) (gK 1 1 (.rn [(3,(.slice (some (270,0)) nT (.known nT))),(13,(.ae nm o len)),(14,(.int .i64 ((len:Int)))),(15,(.int .i64 ((i+1))))] [(270,(some (aD ki ((fp 271 A).set th.toNat (.slice (some (278,0)) ((x0::l0).length) (.aX (x0::l0).length 1)))))),(271,(dR A th.toNat 0)),(272,(dR A th.toNat 1)),(273,(dR A th.toNat 2)),(274,(dR A th.toNat 3)),(275,(dR A th.toNat 4)),(276,(dR A th.toNat 5)),(278,(some (aD aK ((x0::l0).set tx.toNat (y+1)))))] (dK nT (.ae nm o len) len (i+1)) (dt (A.set th.toNat ((x0::l0).set tx.toNat (y+1)))) 279 277 .no)))))))))))))))))
  (U ((((x0::l0).length:Nat):Int)<=tx) (fun _=>oF J)
  (fun _=>aV tx (((x0::l0).length:Nat):Int) J J
  (ai (bN AP.len QA hy 0 1 rfl)
  (ai (wI (y+1) J)
  (aV tx (((x0::l0).length:Nat):Int) J J
  (ai (fR AP.len QA hy (c':=(y+1)) (r:=[(.int .i64 ((y+1)))]) 0 rfl rfl rfl)
  (aV th (nT:Int) J J
  (ai (fR PN s9 (Bh DT) (c':=(.slice (some (278,0)) ((x0::l0).length) (.aX (x0::l0).length 1))) (r:=[(.slice (some (278,0)) ((x0::l0).length) (.aX (x0::l0).length 1))]) 0 rfl rfl rfl)
  (ai (wI (i+1) J)
  (xZ nT nm o len (i+1) (A.set th.toNat ((x0::l0).set tx.toNat (y+1))) 279 (abm dT jr hb DT hj (fun h=>by have:=congrArg List.length h;simp at this) (by rw[List.length_set];exact hl6) (by rw[List.length_set]) ar (low 279))))))))))))
theorem rC(nT:Nat)(a:AV)(A:List (List Int))(i:Int)(len:Nat)(bp:Nat){l0:List (Nat×AV)}{o0:List (Nat×Option aE)}(hw:fC FU 270 bp l0 o0 (dK nT a len i) (dt A) 277):l0.map (fun q=>some q.2)=l0.map (fun q=>some q.2)/\o0.map (fun q=>q.2)=o0.map (fun q=>q.2)/\fC FU 270 bp l0 o0 (dK nT a len i) (dt A) 277/\CA nT a len i A (jE (dK nT a len i)) (aM (dt A) 277) .no:=⟨rfl,rfl,hw,rfl,rfl⟩
theorem B8{α:Type}{l:List α}(h:n<l.length):∃x,l[n]? =some x:=⟨_,List.getElem?_eq_getElem h⟩
def jL(l:List Int)(tx:Nat):List Int:=
 let m:=l++List.replicate (tx+1 - l.length) 0
 m.set tx (m.getD tx 0+1)
def j8(n:Int)(l:List Int)(e:Ev):List Int:=if e.kind=1/\e.az=n/\0<=e.tx/\e.tx<6 then jL l e.tx.toNat else l
def pQ(n:Int)(l:List Ev):List Int:=l.foldl (j8 n) []
theorem El(n:Int)(l:List Ev)(e:Ev):pQ n (l++[e])=j8 n (pQ n l) e:=by
 unfold pQ
 rw[List.foldl_append];rfl
def cE(nT:Nat)(l:List Ev):List (List Int):=(List.range nT).map fun n:Nat=>pQ (n:Int) l
theorem yf{nT:Nat}:(cE nT l).length=nT:=by simp[cE]
theorem Sk(nT:Nat):cE nT []=List.replicate nT []:=by
 unfold cE
 rw[List.eq_replicate_iff]
 refine⟨by simp,fun b hb=>?_⟩
 obtain⟨n,_,rfl⟩:=List.mem_map.1 hb
 rfl
theorem Ey{nT:Nat}(h:n<nT):(cE nT l)[n]? =some (pQ (n:Int) l):=by
 unfold cE
 rw[List.getElem?_map,List.getElem?_range h];rfl
def Small(m:Nat)(l:List Int):Prop:=l.length<=6/\∀x∈l,0<=x/\x<=(m:Int)
theorem Small.pad{l:List Int}(h:Small m l){k:Nat}(hk:l.length+k<=6):Small m (l++List.replicate k 0):=by
 refine⟨by simp;omega,fun x hx=>?_⟩
 rcases List.mem_append.1 hx with hx|hx
 ·exact h.2 x hx
 ·have:=(List.mem_replicate.1 hx).2
  subst this;omega
theorem Small.set{l:List Int}(h:Small m l){k:Nat}(hy:l[k]? =some y):Small (m+1) (l.set k (y+1)):=by
 refine⟨by rw[List.length_set];exact h.1,fun x hx=>?_⟩
 rcases List.mem_or_eq_of_mem_set hx with hx|hx
 ·have:=h.2 x hx;omega
 ·have:=h.2 y (List.mem_of_getElem? hy)
  subst hx;omega
theorem Small.abq{l:List Int}(h:Small m l){tx:Nat}(ht:tx<6):Small (m+1) (jL l tx):=by
 have hp:Small m (l++List.replicate (tx+1 - l.length) 0):=h.pad (by have:=h.1;omega)
 have cQ:tx<(l++List.replicate (tx+1 - l.length) 0).length:=by simp;omega
 obtain⟨y,hy⟩:=B8 cQ
 have e:jL l tx=(l++List.replicate (tx+1 - l.length) 0).set tx ((l++List.replicate (tx+1 - l.length) 0).getD tx 0+1):=rfl
 have e2:List.getD (l++List.replicate (tx+1 - l.length) 0) tx 0=y:=by rw[List.getD_eq_getElem?_getD,hy];rfl
 rw[e,e2]
 exact hp.set hy
theorem Ku(n:Int):∀(l:List Ev) (a:List Int) (m:Nat),Small m a->Small (m+l.length) (l.foldl (j8 n) a)
  |[],a,m,h=>h
  | e ::l,a,m,h=>by
    have h1:Small (m+1) (j8 n a e):=by
      unfold j8
      by_cases q:e.kind=1/\e.az=n/\0<=e.tx/\e.tx<6
      · rw[if_pos q];exact h.abq J
      · rw[if_neg q]
        exact⟨h.1,fun x hx=>by have:=h.2 x hx;omega⟩
    have h2:=Ku n l _ _ h1
    rw[List.length_cons,show m+(l.length+1)=m+1+l.length by omega]
    exact h2
theorem JL(n:Int)(l:List Ev):Small l.length (pQ n l):=by
 have:=Ku n l [] 0 ⟨by decide,fun x hx=>by cases hx⟩
 rw[Nat.zero_add] at this
 exact this
theorem Kv{nT:Nat}{x:List Int}(h:x∈cE nT l):Small l.length x:=by
 obtain⟨n,_,rfl⟩:=List.mem_map.1 h
 exact JL _ _
theorem Rv{nT:Nat}(h:¬(e.kind=1/\0<=e.az/\e.az<(nT:Int)/\0<=e.tx/\e.tx<6)):cE nT (l++[e])=cE nT l:=by
 unfold cE
 refine List.map_congr_left fun n hn=>?_
 have:=List.mem_range.1 hn
 rw[El]
 unfold j8
 rw[if_neg fun q=>h ⟨q.1,by omega,by omega,q.2.2.1,q.2.2.2⟩]
theorem Sn{nT:Nat}(h:e.kind=1/\0<=e.az/\e.az<(nT:Int)/\0<=e.tx/\e.tx<6):cE nT (l++[e])=(cE nT l).set e.az.toNat (jL (pQ (e.az.toNat:Int) l) e.tx.toNat):=by
 have fF:(e.az.toNat:Int)=e.az:=Int.toNat_of_nonneg h.2.1
 refine List.ext_getElem? fun k=>?_
 by_cases hk:k<nT
 ·rw[Ey hk,El]
  unfold j8
  by_cases q:e.az.toNat=k
  ·subst q
   rw[List.getElem?_set_self (by rw[yf];exact hk),if_pos ⟨h.1,fF.symm,h.2.2.2⟩]
  ·rw[List.getElem?_set_ne q,Ey hk,if_neg fun p=>q J]
 ·rw[List.getElem?_eq_none (by rw[yf];omega),List.getElem?_eq_none (by rw[List.length_set,yf];omega)]
section
variable {B:aZ}
theorem abr(mc:Mc (sp []) 6 B){nm o len nT:Nat}{I:Int}{R:AV->AS->Prop}(jr:A.length<=6)(hb:∀l∈A,l.length<=6)(dT:top<=nm)(h0:0<=tx)(pE:tx<6):
    ∀ (m:Nat) (L:List Int),m=tx.toNat+1 - L.length->L.length<=6->
      cM Tryd.prog B 270 (Fin Tryd.prog eN R) (sZ (jF nT (.ae nm o len) len i (L++List.replicate m 0))) (aM (jX A j (L++List.replicate m 0) [.int .u8 k,.int .i64 th,.int .i64 tx,.int .i64 I,.int .i64 v,.int .i64 x,.int .u8 ab]) 279)->
      cM Tryd.prog B 270 (Fin Tryd.prog eN R) (sZ (jF nT (.ae nm o len) len i L)) (aM (jX A j L [.int .u8 k,.int .i64 th,.int .i64 tx,.int .i64 I,.int .i64 v,.int .i64 x,.int .u8 ab]) 279):=by
  intro m
  induction m with
  | zero=>
    intro L _ _ H
    rw[List.replicate_zero,List.append_nil] at H
    exact H
  | succ m ih=>
    intro L hm hL H
    have H':cM Tryd.prog B 270 (Fin Tryd.prog eN R) (sZ (jF nT (.ae nm o len) len i (L++[0]))) (aM (jX A j (L++[0]) [.int .u8 k,.int .i64 th,.int .i64 tx,.int .i64 I,.int .i64 v,.int .i64 x,.int .u8 ab]) 279):=by
      refine ih (L++[0]) Hz Hz ?_
      rw[List.append_assoc,show([0]:List Int)++List.replicate m 0=List.replicate (m+1) 0 from rfl]
      exact H
    cases L with
    | nil=>
      exact abn mc (k:=k) (x0:=0) (l0:=[]) jr hb dT (by simpa using h0) pE fun fr s p h=>by
        obtain⟨rfl,rfl⟩:=h;exact H'
    | cons x0 l0=>
      exact abo mc (k:=k) jr hb dT J pE (by unfold room;omega) dW fun fr s p h=>by
        obtain⟨rfl,rfl⟩:=h;exact H'
theorem round(mc:Mc (sp []) 6 B){nm o len nT i:Nat}{R:AV->AS->Prop}(hlen:len<=2000)(hi:i<len)(hli:l.length=i)(dT:top<=nm)(hT:nT<=6)(bB:bM FU nm (o+i*7) 7=some (aN e))(H:cM Tryd.prog B 270 (Fin Tryd.prog eN R) (jE (dK nT (.ae nm o len) len ((i+1:Nat):Int))) (aM (dt (cE nT (l++[e]))) 277)):
    cM Tryd.prog B 270 (Fin Tryd.prog eN R) (jE (dK nT (.ae nm o len) len (i:Int))) (aM (dt (cE nT l)) 277):=by
  have hA:(cE nT l).length=nT:=yf
  have jr:(cE nT l).length<=6:=by omega
  have hb:∀x∈cE nT l,x.length<=6:=fun x hx=>(Kv hx).1
  have fZ:0<=(i:Int)/\(i:Int)<(len:Int):=by omega
  have s9:(fp 271 (cE nT l)).length*1<=top:=by rw[oD];unfold top;omega
  by_cases q:e.kind=1/\0<=e.az/\e.az<(nT:Int)/\0<=e.tx/\e.tx<6
  · have fF:e.az.toNat<nT:=by omega
    have s8:=Ey (l:=l) fF
    have z8:e.az.toNat<6:=by omega
    have DU:=JL (e.az.toNat:Int) l
    rw[Sn q] at H
    obtain⟨k,th,tx,I,v,x,ab⟩:=e
    dsimp only at q fF s8 DU H z8
    refine He mc jr hb hlen fZ dT hA hT s9 bB q z8 s8 fun fr s p h=>?_
    obtain⟨rfl,rfl⟩:=h
    refine abr mc jr hb dT q.2.2.2.1 q.2.2.2.2 _ _ rfl DU.1 ?_
    generalize hL:pQ (th.toNat:Int) l=L at*
    have hp:Small l.length (L++List.replicate (tx.toNat+1 - L.length) 0):=DU.pad (by have:=DU.1;omega)
    have cQ:tx.toNat<(L++List.replicate (tx.toNat+1 - L.length) 0).length:=by simp;omega
    have Z3:jL L tx.toNat=(L++List.replicate (tx.toNat+1 - L.length) 0).set tx.toNat ((L++List.replicate (tx.toNat+1 - L.length) 0).getD tx.toNat 0+1):=rfl
    rw[Z3] at H
    generalize L++List.replicate (tx.toNat+1 - L.length) 0=M at*
    obtain⟨y,hy⟩:=B8 cQ
    rw[show M.getD tx.toNat 0=y by rw[List.getD_eq_getElem?_getD,hy];rfl] at H
    have hyb:=hp.2 y (List.mem_of_getElem? hy)
    cases M with
    |nil=>simp at cQ
    | cons x0 l0=>
      exact abp mc (k:=k) (I:=I) jr hb hp.1 hlen fZ dT hA hT s9 (by have:=hp.1;unfold top;omega) ⟨q.2.1,q.2.2.1⟩ z8 s8 ⟨q.2.2.2.1,by omega⟩ hy ⟨hyb.1,by omega⟩ fun fr s p h=>by
        obtain⟨rfl,rfl⟩:=h;exact H
  · rw[Rv q] at H
    obtain⟨k,th,tx,I,v,x,ab⟩:=e
    exact skip mc jr hb hlen fZ dT hA hT s9 bB q fun fr s p h=>by
      obtain⟨rfl,rfl⟩:=h;exact H
theorem rounds{R:AV->AS->Prop}(mc:Mc (sp []) 6 B){nm o len nT:Nat}{vK:List Ev}(hlen:vK.length=len)(mW:len<=2000)(dT:top<=nm)(hT:nT<=6)(hex:cM Tryd.prog B 270 (Fin Tryd.prog eN R) (jE (dK nT (.ae nm o len) len (len:Int))) (aM (dt (cE nT vK)) 277))(cF:∀(j:Nat) e,vK[j]? =some e->bM FU nm (o+j*7) 7=some (aN e)):∀(m i:Nat),i+m=len->
    cM Tryd.prog B 270 (Fin Tryd.prog eN R) (jE (dK nT (.ae nm o len) len (i:Int))) (aM (dt (cE nT (vK.take i))) 277):=by
  intro m
  induction m with
  | zero=>
    intro i hi
    have e:i=len:=by omega
    subst e
    rw[List.take_of_length_le J]
    exact hex
  | succ m ih=>
    intro i hi
    obtain⟨e,he⟩:=B8 (l:=vK) (n:=i) J
    have Gp:vK.take (i+1)=vK.take i++[e]:=by
      rw[List.take_add_one,he];rfl
    have:=ih (i+1) J
    rw[Gp] at this
    exact round mc mW J (by rw[List.length_take];omega) dT hT (cF i e he) this
end
end sG
end
