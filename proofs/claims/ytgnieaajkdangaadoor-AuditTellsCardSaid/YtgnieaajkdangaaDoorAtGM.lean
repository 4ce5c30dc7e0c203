import Derived.Test.YtgnieaajkdangaaDoorAtGJ
set_option maxRecDepth 100000
set_option maxHeartbeats 8000000
set_option linter.unusedSimpArgs false
section
open Go Go.Rn Go.RowKit Go.Proofs
namespace pC
open cd cj cv cD mz cH cI cN fx gk eP pB oo fy fm fA
variable {B:aZ} {n:Nat} {V T S i tx k:Int} {e f:Ev} {v':AV} {W:List Cm} {l h:List Ev}
noncomputable def nX(n o len:Nat)(T V S i:Int):Fm:=⟨5,[(1,(.ptr (some (270,0)))),(3,(.slice none 0 (.known 0))),(4,(.int .i64 i))],63,[.code (aO Tryd.prog 5 [1,1,0,1,0,0]),.inLoop (aO Tryd.prog 5 [1,1,0,1,0,0]),.inBlock 0,.code (aO Tryd.prog 5 [1,1,1])],[(270,some (.cells 4 (Tr.fill (bK T V S n o len) 0 .nil) []))],271⟩
noncomputable def jx(n o len:Nat)(T V S i:Int)(W:List Cm):Fm:=⟨5,[(1,(.ptr (some (270,0)))),(3,(.slice (some (271,0)) W.length (.aX W.length 3))),(4,(.int .i64 i))],63,[.code (aO Tryd.prog 5 [1,1,0,1,0,0]),.inLoop (aO Tryd.prog 5 [1,1,0,1,0,0]),.inBlock 0,.code (aO Tryd.prog 5 [1,1,1])],[(270,some (.cells 4 (Tr.fill (bK T V S n o len) 0 .nil) [])),(271,(some (aD bO W)))],272⟩
noncomputable def kf(n o len:Nat)(T V S i:Int)(e:Ev)(k tx:Int):Fm:=⟨5,[(1,(.ptr (some (270,0)))),(3,(.slice none 0 (.known 0))),(4,(.int .i64 i)),(5,(.ptr (some (271,0)))),(6,(.ptr (some (272,0)))),(7,(.int .i64 k))],63,[.code (aO Tryd.prog 5 [1,1,0,1,0,0,1,0,0,1,1,1,0,1,0,0]),.inLoop (aO Tryd.prog 5 [1,1,0,1,0,0,1,0,0,1,1,1,0,1,0,0]),.inBlock 2,.code (aO Tryd.prog 5 [1,1,0,1,0,0,1,0,0,1,1,1,1]),.inBlock 1,.code (aO Tryd.prog 5 [1,1,0,1,0,0,1,1]),.inLoop (aO Tryd.prog 5 [1,1,0,1,0,0]),.inBlock 0,.code (aO Tryd.prog 5 [1,1,1])],[(270,some (.cells 4 (Tr.fill (bK T V S n o len) 0 .nil) [])),(271,some (.cells 7 (Tr.fill (aN e) 0 .nil) [])),(272,some (.cells 3 (Tr.fill [(.int .i64 e.az),(.int .i64 tx),(.int .i64 e.v)] 0 .nil) []))],273⟩
noncomputable def kg(n o len:Nat)(T V S i:Int)(e:Ev)(k tx:Int)(W:List Cm):Fm:=⟨5,[(1,(.ptr (some (270,0)))),(3,(.slice (some (271,0)) W.length (.aX W.length 3))),(4,(.int .i64 i)),(5,(.ptr (some (272,0)))),(6,(.ptr (some (273,0)))),(7,(.int .i64 k))],63,[.code (aO Tryd.prog 5 [1,1,0,1,0,0,1,0,0,1,1,1,0,1,0,0]),.inLoop (aO Tryd.prog 5 [1,1,0,1,0,0,1,0,0,1,1,1,0,1,0,0]),.inBlock 2,.code (aO Tryd.prog 5 [1,1,0,1,0,0,1,0,0,1,1,1,1]),.inBlock 1,.code (aO Tryd.prog 5 [1,1,0,1,0,0,1,1]),.inLoop (aO Tryd.prog 5 [1,1,0,1,0,0]),.inBlock 0,.code (aO Tryd.prog 5 [1,1,1])],[(270,some (.cells 4 (Tr.fill (bK T V S n o len) 0 .nil) [])),(271,(some (aD bO W))),(272,some (.cells 7 (Tr.fill (aN e) 0 .nil) [])),(273,some (.cells 3 (Tr.fill [(.int .i64 e.az),(.int .i64 tx),(.int .i64 e.v)] 0 .nil) []))],274⟩
theorem XW(n o len:Nat)(T V S i:Int)(hn:top<=n)(C:bz)(h:FH C (nX n o len T V S (i+1))):FW 272 [(1,(.ptr (some (270,0)))),(3,(.slice none 0 (.known 0))),(4,(.int .i64 ((i+1))))] [(270,some (.cells 4 (Tr.fill (bK T V S n o len) 0 .nil) []))] (nX n o len T V S (i+1)) C:=by
 refine⟨rfl,rfl,iQ (fun k=>k) bx rfl (fun r q r3=>⟨(aJ.ptr (q 270 rfl)).z,vN,vI,trivial⟩) (fun r q r3=>⟨rfl,oS (oT hn r3) rfl rfl (fun h=>h),trivial⟩),h⟩
abbrev GQ(n o len:Nat)(T V S i:Int)(e:Ev):bz:=fun fr s1 _=>((e.kind≠7)/\FC (nX n o len T V S (i+1)) fr s1)\/((¬(e.kind≠7))/\FC (kf n o len T V S i e 0 0) fr s1)
theorem aa2(mc:Mc (sp []) 6 B){o len:Nat}(hn:top<=n)(hlen:len<=1000)(h0:0<=i)(hi:i<(len:Int))(he:bM FU n (o+i.toNat*7) 7=some (aN e))(H0:(e.kind≠7)->FSQ B v' gp (nX n o len T V S (i+1)))(H1:(¬(e.kind≠7))->FSQ B v' gp (kf n o len T V S i e 0 0)):FSQ B v' gp (nX n o len T V S i):=by
 exact wC mc (C:=(GQ n o len T V S i e)) (lP H0 H1) 2000 (gC 2 4 (.fk (gB 5 3 (.bI (.bJ (aN e) (gA 2 2 2 (.fk (gB 2 1 (.vl (.int .i64 (i+1)) (gK 1 1 (fO [(1,(.ptr (some (270,0)))),(3,(.slice none 0 (.known 0))),(4,(.int .i64 ((i+1))))] [(270,some (.cells 4 (Tr.fill (bK T V S n o len) 0 .nil) []))] (nX n o len T V S (i+1)) 272)))) (gL 9 (iT (kf n o len T V S i e 0 0)))))))) .no)) (U (i<(len:Int)) (fun _=>aV i (len:Int) J J (ai hn (ai (c9 he 0 7 ar) (U (e.kind≠7) (fun h2=>ai cS (XW n o len T V S i hn (GQ n o len T V S i e) ((.inl ⟨h2,rfl,rfl⟩)))) (fun h2=>jB (kf n o len T V S i e 0 0) (GQ n o len T V S i e) (.inr (⟨h2,rfl,rfl⟩))))))) aA)
theorem XX(n o len:Nat)(T V S i:Int)(W:List Cm)(hW:W.length<=1000)(hn:top<=n)(C:bz)(h:FH C (jx n o len T V S (i+1) W)):FW 273 [(1,(.ptr (some (270,0)))),(3,(.slice (some (271,0)) W.length (.aX W.length 3))),(4,(.int .i64 ((i+1))))] [(270,some (.cells 4 (Tr.fill (bK T V S n o len) 0 .nil) [])),(271,(some (aD bO W)))] (jx n o len T V S (i+1) W) C:=by
 refine⟨rfl,rfl,iQ (fun k=>k) bx rfl (fun r q r3=>⟨(aJ.ptr (q 270 rfl)).z,(aJ.slice (q 271 rfl)).z,vI,trivial⟩) (fun r q r3=>⟨rfl,oS (oT hn r3) rfl rfl (fun h=>h),rfl,oS (c8.aD (enc:=bO) (l:=W) (fun x=>⟨rfl,rfl⟩) vt).z rfl rfl (fun h=>h),trivial⟩),h⟩
abbrev GR(n o len:Nat)(T V S i:Int)(e:Ev)(W:List Cm):bz:=fun fr s1 _=>((e.kind≠7)/\FC (jx n o len T V S (i+1) W) fr s1)\/((¬(e.kind≠7))/\FC (kg n o len T V S i e 0 0 W) fr s1)
theorem aa3(mc:Mc (sp []) 6 B){o len:Nat}(hn:top<=n)(hlen:len<=1000)(h0:0<=i)(hi:i<(len:Int))(he:bM FU n (o+i.toNat*7) 7=some (aN e))(hW:W.length<=1000)(H0:(e.kind≠7)->FSQ B v' gp (jx n o len T V S (i+1) W))(H1:(¬(e.kind≠7))->FSQ B v' gp (kg n o len T V S i e 0 0 W)):FSQ B v' gp (jx n o len T V S i W):=by
 exact wC mc (C:=(GR n o len T V S i e W)) (lP H0 H1) 2000 (gC 2 4 (.fk (gB 5 3 (.bI (.bJ (aN e) (gA 2 2 2 (.fk (gB 2 1 (.vl (.int .i64 (i+1)) (gK 1 1 (fO [(1,(.ptr (some (270,0)))),(3,(.slice (some (271,0)) W.length (.aX W.length 3))),(4,(.int .i64 ((i+1))))] [(270,some (.cells 4 (Tr.fill (bK T V S n o len) 0 .nil) [])),(271,(some (aD bO W)))] (jx n o len T V S (i+1) W) 273)))) (gL 9 (iT (kg n o len T V S i e 0 0 W)))))))) .no)) (U (i<(len:Int)) (fun _=>aV i (len:Int) J J (ai hn (ai (c9 he 0 7 ar) (U (e.kind≠7) (fun h2=>ai cS (XX n o len T V S i W hW hn (GR n o len T V S i e W) ((.inl ⟨h2,rfl,rfl⟩)))) (fun h2=>jB (kg n o len T V S i e 0 0 W) (GR n o len T V S i e W) (.inr (⟨h2,rfl,rfl⟩))))))) aA)
abbrev Ct(n o len:Nat)(T V S i k tx:Int)(e f:Ev):bz:=fun fr s1 _=>((f.kind=1/\f.az=e.az)/\FC (kf n o len T V S i e (k+1) f.tx) fr s1)\/((f.kind=1/\¬(f.az=e.az))/\FC (kf n o len T V S i e (k+1) tx) fr s1)\/((¬(f.kind=1))/\FC (kf n o len T V S i e (k+1) tx) fr s1)
theorem aa4(mc:Mc (sp []) 6 B){o len:Nat}(hn:top<=n)(hlen:len<=1000)(dO:0<=k)(hk:k<i)(hi:i<(len:Int))(hf:bM FU n (o+k.toNat*7) 7=some (aN f))(H0:(f.kind=1/\f.az=e.az)->FSQ B v' gp (kf n o len T V S i e (k+1) f.tx))(H1:(f.kind=1/\¬(f.az=e.az))->FSQ B v' gp (kf n o len T V S i e (k+1) tx))(H2:(¬(f.kind=1))->FSQ B v' gp (kf n o len T V S i e (k+1) tx)):FSQ B v' gp (kf n o len T V S i e k tx):=by
 exact wC mc (C:=(Ct n o len T V S i k tx e f)) (zN H0 H1 H2) 2000 ((fun(q1:Pl)=>(gC 2 2 (.fk (gB 5 3 (.bI (.go 1 (.bJ [(.int .u8 f.kind)] (.fk (.go 4 (.bI (.go 1 (.bJ [(.int .i64 f.az)] (.go 2 (.fk (gA 1 1 3 (.bI (.go 1 (.bJ [(.int .i64 f.tx)] (gA 2 1 1 (.vl (.int .i64 (k+1)) (gK 1 1 (iT (kf n o len T V S i e (k+1) f.tx))))))))) (.go 1 q1))))))) (.go 11 q1)))))) .no))) (gB 3 1 (.vl (.int .i64 (k+1)) (gK 1 1 (iT (kf n o len T V S i e (k+1) tx)))))) (U (k<i) (fun _=>aV k (len:Int) J J (ai hn (ai (c9 hf 0 1 ar) (U (f.kind=1) (fun h2=>aV k (len:Int) J J (ai hn (ai (c9 hf 1 1 ar) (U (f.az=e.az) (fun h3=>aV k (len:Int) J J (ai hn (ai (c9 hf 2 1 ar) (ai ud (jB (kf n o len T V S i e (k+1) f.tx) (Ct n o len T V S i k tx e f) ((.inl ⟨⟨h2,h3⟩,rfl,rfl⟩))))))) (fun h3=>ai ud (jB (kf n o len T V S i e (k+1) tx) (Ct n o len T V S i k tx e f) (.inr ((.inl ⟨⟨h2,h3⟩,rfl,rfl⟩))))))))) (fun h2=>ai ud (jB (kf n o len T V S i e (k+1) tx) (Ct n o len T V S i k tx e f) (.inr (.inr (⟨h2,rfl,rfl⟩))))))))) aA)
abbrev Cu(n o len:Nat)(T V S i k tx:Int)(e f:Ev)(W:List Cm):bz:=fun fr s1 _=>((f.kind=1/\f.az=e.az)/\FC (kg n o len T V S i e (k+1) f.tx W) fr s1)\/((f.kind=1/\¬(f.az=e.az))/\FC (kg n o len T V S i e (k+1) tx W) fr s1)\/((¬(f.kind=1))/\FC (kg n o len T V S i e (k+1) tx W) fr s1)
theorem aa5(mc:Mc (sp []) 6 B){o len:Nat}(hn:top<=n)(hlen:len<=1000)(dO:0<=k)(hk:k<i)(hi:i<(len:Int))(hf:bM FU n (o+k.toNat*7) 7=some (aN f))(hW:W.length<=1000)(H0:(f.kind=1/\f.az=e.az)->FSQ B v' gp (kg n o len T V S i e (k+1) f.tx W))(H1:(f.kind=1/\¬(f.az=e.az))->FSQ B v' gp (kg n o len T V S i e (k+1) tx W))(H2:(¬(f.kind=1))->FSQ B v' gp (kg n o len T V S i e (k+1) tx W)):FSQ B v' gp (kg n o len T V S i e k tx W):=by
 exact wC mc (C:=(Cu n o len T V S i k tx e f W)) (zN H0 H1 H2) 2000 ((fun(q1:Pl)=>(gC 2 2 (.fk (gB 5 3 (.bI (.go 1 (.bJ [(.int .u8 f.kind)] (.fk (.go 4 (.bI (.go 1 (.bJ [(.int .i64 f.az)] (.go 2 (.fk (gA 1 1 3 (.bI (.go 1 (.bJ [(.int .i64 f.tx)] (gA 2 1 1 (.vl (.int .i64 (k+1)) (gK 1 1 (iT (kg n o len T V S i e (k+1) f.tx W))))))))) (.go 1 q1))))))) (.go 11 q1)))))) .no))) (gB 3 1 (.vl (.int .i64 (k+1)) (gK 1 1 (iT (kg n o len T V S i e (k+1) tx W)))))) (U (k<i) (fun _=>aV k (len:Int) J J (ai hn (ai (c9 hf 0 1 ar) (U (f.kind=1) (fun h2=>aV k (len:Int) J J (ai hn (ai (c9 hf 1 1 ar) (U (f.az=e.az) (fun h3=>aV k (len:Int) J J (ai hn (ai (c9 hf 2 1 ar) (ai ud (jB (kg n o len T V S i e (k+1) f.tx W) (Cu n o len T V S i k tx e f W) ((.inl ⟨⟨h2,h3⟩,rfl,rfl⟩))))))) (fun h3=>ai ud (jB (kg n o len T V S i e (k+1) tx W) (Cu n o len T V S i k tx e f W) (.inr ((.inl ⟨⟨h2,h3⟩,rfl,rfl⟩))))))))) (fun h2=>ai ud (jB (kg n o len T V S i e (k+1) tx W) (Cu n o len T V S i k tx e f W) (.inr (.inr (⟨h2,rfl,rfl⟩))))))))) aA)
theorem XY(n o len:Nat)(T V S i tx:Int)(e:Ev)(hn:top<=n)(C:bz)(h:FH C (jx n o len T V S (i+1) ([(⟨e.az,tx,e.v⟩:Cm)]))):FW 275 [(1,(.ptr (some (270,0)))),(3,(.slice (some (274,0)) (1) (.aX 1 3))),(4,(.int .i64 ((i+1))))] [(270,some (.cells 4 (Tr.fill (bK T V S n o len) 0 .nil) [])),(274,some (.cells 3 (Tr.fill [(.int .i64 e.az),(.int .i64 tx),(.int .i64 e.v)] 0 .nil) []))] (jx n o len T V S (i+1) ([(⟨e.az,tx,e.v⟩:Cm)])) C:=by
 refine⟨rfl,rfl,iQ (fun k=>if k=271 then 274 else k) bx rfl (fun r q r3=>⟨(aJ.ptr (q 270 rfl)).z,(aJ.slice (q 271 rfl)).z,vI,trivial⟩) (fun r q r3=>⟨rfl,oS (oT hn r3) rfl rfl (fun h=>h),rfl,oS (c8.aD (enc:=bO) (l:=[(⟨e.az,tx,e.v⟩:Cm)]) (fun x=>⟨rfl,rfl⟩) vt).z rfl rfl (fun h=>h),trivial⟩),h⟩
abbrev Od(n o len:Nat)(T V S i tx:Int)(e:Ev):bz:=fun fr s1 _=>(True/\FC (jx n o len T V S (i+1) ([(⟨e.az,tx,e.v⟩:Cm)])) fr s1)
theorem aa6(mc:Mc (sp []) 6 B){o len:Nat}(hn:top<=n)(hlen:len<=1000)(h0:0<=i)(hi:i<(len:Int))(hk:¬(k<i))(H0:True->FSQ B v' gp (jx n o len T V S (i+1) ([(⟨e.az,tx,e.v⟩:Cm)]))):FSQ B v' gp (kf n o len T V S i e k tx):=by
 exact wC mc (C:=(Od n o len T V S i tx e)) (gj H0) 2000 (gC 2 2 (.fk .no (gB 4 1 (.vl (.int .i64 (i+1)) (gK 1 1 (fO [(1,(.ptr (some (270,0)))),(3,(.slice (some (274,0)) (1) (.aX 1 3))),(4,(.int .i64 ((i+1))))] [(270,some (.cells 4 (Tr.fill (bK T V S n o len) 0 .nil) [])),(274,some (.cells 3 (Tr.fill [(.int .i64 e.az),(.int .i64 tx),(.int .i64 e.v)] 0 .nil) []))] (jx n o len T V S (i+1) ([(⟨e.az,tx,e.v⟩:Cm)])) 275)))))) (U (k<i) aA (fun _=>ai cS (XY n o len T V S i tx e hn (Od n o len T V S i tx e) (⟨trivial,rfl,rfl⟩))))
theorem XZ(n o len:Nat)(T V S i tx:Int)(e:Ev)(W:List Cm)(hW:W.length<=1000)(hn:top<=n)(C:bz)(h:FH C (jx n o len T V S (i+1) (W++[(⟨e.az,tx,e.v⟩:Cm)]))):FW 276 [(1,(.ptr (some (270,0)))),(3,(.slice (some (275,0)) ((W++[(⟨e.az,tx,e.v⟩:Cm)]).length) (.aX (W++[(⟨e.az,tx,e.v⟩:Cm)]).length 3))),(4,(.int .i64 ((i+1))))] [(270,some (.cells 4 (Tr.fill (bK T V S n o len) 0 .nil) [])),(275,(some (aD bO (W++[(⟨e.az,tx,e.v⟩:Cm)]))))] (jx n o len T V S (i+1) (W++[(⟨e.az,tx,e.v⟩:Cm)])) C:=by
 refine⟨rfl,rfl,iQ (fun k=>if k=271 then 275 else k) bx rfl (fun r q r3=>⟨(aJ.ptr (q 270 rfl)).z,(aJ.slice (q 271 rfl)).z,vI,trivial⟩) (fun r q r3=>⟨rfl,oS (oT hn r3) rfl rfl (fun h=>h),rfl,oS (c8.aD (enc:=bO) (l:=(W++[(⟨e.az,tx,e.v⟩:Cm)])) (fun x=>⟨rfl,rfl⟩) vt).z rfl rfl (fun h=>h),trivial⟩),h⟩
abbrev Oe(n o len:Nat)(T V S i tx:Int)(e:Ev)(W:List Cm):bz:=fun fr s1 _=>(True/\FC (jx n o len T V S (i+1) (W++[(⟨e.az,tx,e.v⟩:Cm)])) fr s1)
theorem aa7(mc:Mc (sp []) 6 B){o len:Nat}(hn:top<=n)(hlen:len<=1000)(h0:0<=i)(hi:i<(len:Int))(hk:¬(k<i))(hW:W.length<=1000)(H0:True->FSQ B v' gp (jx n o len T V S (i+1) (W++[(⟨e.az,tx,e.v⟩:Cm)]))):FSQ B v' gp (kg n o len T V S i e k tx W):=by
 exact wC mc (C:=(Oe n o len T V S i tx e W)) (gj H0) 2000 (gC 2 2 (.fk .no (gB 2 3 (.ap Cm bO W (⟨e.az,tx,e.v⟩:Cm) (gA 1 1 1 (.vl (.int .i64 (i+1)) (gK 1 1 (fO [(1,(.ptr (some (270,0)))),(3,(.slice (some (275,0)) ((W++[(⟨e.az,tx,e.v⟩:Cm)]).length) (.aX (W++[(⟨e.az,tx,e.v⟩:Cm)]).length 3))),(4,(.int .i64 ((i+1))))] [(270,some (.cells 4 (Tr.fill (bK T V S n o len) 0 .nil) [])),(275,(some (aD bO (W++[(⟨e.az,tx,e.v⟩:Cm)]))))] (jx n o len T V S (i+1) (W++[(⟨e.az,tx,e.v⟩:Cm)])) 276)))))))) (U (k<i) aA (fun _=>nj bO W (⟨e.az,tx,e.v⟩:Cm) (K:=3) (gO:=24) (fun x=>⟨rfl,rfl⟩) CW CY (ai cS (XZ n o len T V S i tx e W hW hn (Oe n o len T V S i tx e W) (⟨trivial,rfl,rfl⟩)))))
noncomputable def uP(W:List Cm):AF:=⟨5,eS [(2,aL bO W)],63,[.code (aO Tryd.prog 5 [1,1,1,1])],[],none⟩
theorem aa8(bp:Nat)(hs:bp<300)(W:List Cm)(hW:W=[]):([(2,AV.slice none 0 (.known 0))].map (fun q=>some q.2)=[(2,AV.slice none 0 (.known 0))].map (fun q=>some q.2))/\(([]:List (Nat×Option aE)).map (fun q=>q.2)=([]:List (Nat×Option aE)).map (fun q=>q.2))/\fC FU 270 bp [(2,.slice none 0 (.known 0))] [] [(2,aL bO [])] [] 270/\(uP []=uP W/\aM [] 270=aM [] 270):=
 ⟨rfl,rfl,Gb dW dW,by rw[hW],rfl⟩
theorem aa9(N bp:Nat)(W:List Cm)(hN:N<300)(hs:bp<300)(hW:W.length<=1000):([(2,AV.slice (some (N,0)) W.length (.aX W.length 3))].map (fun q=>some q.2)=[(2,AV.slice (some (N,0)) W.length (.aX W.length 3))].map (fun q=>some q.2))/\([(N,some (aD bO W))].map (fun q=>q.2)=[(N,some (aD bO W))].map (fun q=>q.2))/\fC FU 270 bp [(2,.slice (some (N,0)) W.length (.aX W.length 3))] [(N,some (aD bO W))] [(2,aL bO W)] [] 270/\(uP W=uP W/\aM [] 270=aM [] 270):=
 ⟨rfl,rfl,BY eC W dW dW dW dW,rfl,rfl⟩
theorem Pw(mc:Mc (sp []) 6 B):Sm B gp (aL bO W) (uP W) (aM [] 270):=by
 exact wS mc 2000 (.rt 1 .no) (AE (aL bO W))
theorem aba(mc:Mc (sp []) 6 B)(n o len:Nat)(T V S i:Int)(hi:¬(i<(len:Int))):FSQ B (aL bO []) gp (nX n o len T V S i):=by
 exact wC mc (C:=(fun fr s1 _=>fr=uP []/\s1=aM [] 270)) (fun fr s1 p hC=>by obtain⟨rfl,rfl⟩:=hC;exact Pw mc) 2000 (gC 2 4 (.fk .no (gL 4 (.rn [(2,(.slice none 0 (.known 0)))] [] [(2,aL bO [])] [] 271 270 .no)))) (U (i<(len:Int)) aA (fun _=>aa8 271 J [] rfl))
theorem abb(mc:Mc (sp []) 6 B)(n o len:Nat)(T V S i:Int)(W:List Cm)(hi:¬(i<(len:Int)))(hW:W.length<=1000):FSQ B (aL bO W) gp (jx n o len T V S i W):=by
 exact wC mc (C:=(fun fr s1 _=>fr=uP W/\s1=aM [] 270)) (fun fr s1 p hC=>by obtain⟨rfl,rfl⟩:=hC;exact Pw mc) 2000 (gC 2 4 (.fk .no (gL 4 (.rn [(2,(.slice (some (271,0)) W.length (.aX W.length 3)))] [(271,some (aD bO W))] [(2,aL bO W)] [] 272 270 .no)))) (U (i<(len:Int)) aA (fun _=>aa9 271 272 W J J J))
abbrev Px(n o len:Nat)(T V S:Int):bz:=fun fr s1 _=>(True/\FC (nX n o len T V S 0) fr s1)
theorem IZ(mc:Mc (sp []) 6 B){o len:Nat}(H0:True->FSQ B v' gp (nX n o len T V S 0)):bw B 5 (max Tryd.f5.ntmps 1) gp [(.agg (bK T V S n o len))] v':=by
 exact wC mc (C:=(Px n o len T V S)) (gj H0) 2000 (.st 9 (iT (nX n o len T V S 0))) (jB (nX n o len T V S 0) (Px n o len T V S) (⟨trivial,rfl,rfl⟩))
def pD(e:Ev)(th r:Int):Int:=if e.kind=1/\e.az=th then e.tx else r
def jq:List Ev->Int->Int
 |[],_=>0
 |e::h,th=>pD e th (jq h th)
def dZ:List Ev->List Cm
 |[]=>[]
 |e::h=>if e.kind=7 then dZ h++[⟨e.az,jq h e.az,e.v⟩] else dZ h
theorem BL(q:e.kind=7):dZ (e::h)=dZ h++[⟨e.az,jq h e.az,e.v⟩]:=if_pos q
theorem wQ(q:e.kind≠7):dZ (e::h)=dZ h:=if_neg q
theorem yM:∀h:List Ev,(dZ h).length<=h.length
  |[]=>Nat.le_refl 0
  | e::h=>by
    have:=yM h
    unfold dZ
    split
    · rw[List.length_append,List.length_cons,List.length_cons,List.length_nil];omega
    · rw[List.length_cons];omega
theorem X2(mc:Mc (sp []) 6 B){o len:Nat}(h:bt aN 7 (.ae n o len) l)(hlen:len<=999):bw B 5 (max Tryd.f5.ntmps 1) gp [(.agg (bK T V S n o len))] (aL bO (dZ l.reverse)):=by
  obtain⟨dS,hn,cF⟩:=h.len
  have hlen:len<=1000:=by omega
  have inS:∀(i:Nat) (e:Ev) (W:List Cm),i<len->l[i]? =some e->W.length<=1000->FSQ B (aL bO (dZ l.reverse)) gp (jx n o len T V S ((i:Int)+1) (W++[(⟨e.az,jq (l.take i).reverse e.az,e.v⟩:Cm)]))->∀m j:Nat,j+m=i->FSQ B (aL bO (dZ l.reverse)) gp (kg n o len T V S (i:Int) e (j:Int) (jq (l.take j).reverse e.az) W):=by
    intro i e W hi he hW H m
    induction m with
    | zero=>
      intro j hj
      have:j=i:=by omega
      subst this
      exact aa7 mc hn hlen J J J hW (fun _=>H)
    | succ m ih=>
      intro j hj
      obtain⟨f,hf⟩:∃f,l[j]? =some f:=⟨_,List.getElem?_eq_getElem J⟩
      have e1:(l.take (j+1)).reverse=f::(l.take j).reverse:=by rw[List.take_add_one,hf];simp
      have e2:((j:Int)+1)=((j+1:Nat):Int):=by omega
      have H:=ih (j+1) J
      rw[e1] at H
      refine aa5 (f:=f) mc hn hlen J J J (by rw[Int.toNat_natCast];exact cF j f hf) hW (fun q=>?_) (fun q=>?_) (fun q=>?_)
      · rw[e2];unfold jq pD at H;rw[if_pos q] at H;exact H
      · rw[e2];unfold jq pD at H;rw[if_neg (fun z=>q.2 z.2)] at H;exact H
      · rw[e2];unfold jq pD at H;rw[if_neg (fun z=>q z.1)] at H;exact H
  have inN:∀(i:Nat) (e:Ev),i<len->l[i]? =some e->FSQ B (aL bO (dZ l.reverse)) gp (jx n o len T V S ((i:Int)+1) ([(⟨e.az,jq (l.take i).reverse e.az,e.v⟩:Cm)]))->∀m j:Nat,j+m=i->FSQ B (aL bO (dZ l.reverse)) gp (kf n o len T V S (i:Int) e (j:Int) (jq (l.take j).reverse e.az)):=by
    intro i e hi he H m
    induction m with
    | zero=>
      intro j hj
      have:j=i:=by omega
      subst this
      exact aa6 mc hn hlen J J J (fun _=>H)
    | succ m ih=>
      intro j hj
      obtain⟨f,hf⟩:∃f,l[j]? =some f:=⟨_,List.getElem?_eq_getElem J⟩
      have e1:(l.take (j+1)).reverse=f::(l.take j).reverse:=by rw[List.take_add_one,hf];simp
      have e2:((j:Int)+1)=((j+1:Nat):Int):=by omega
      have H:=ih (j+1) J
      rw[e1] at H
      refine aa4 (f:=f) mc hn hlen J J J (by rw[Int.toNat_natCast];exact cF j f hf) (fun q=>?_) (fun q=>?_) (fun q=>?_)
      · rw[e2];unfold jq pD at H;rw[if_pos q] at H;exact H
      · rw[e2];unfold jq pD at H;rw[if_neg (fun z=>q.2 z.2)] at H;exact H
      · rw[e2];unfold jq pD at H;rw[if_neg (fun z=>q z.1)] at H;exact H
  have xW:∀k,(dZ (l.take k).reverse).length<=999:=fun k=>by have:=yM (l.take k).reverse;rw[List.length_reverse,List.length_take] at this;omega
  have H8:∀m k:Nat,k+m=len->FSQ B (aL bO (dZ l.reverse)) gp (jx n o len T V S (k:Int) (dZ (l.take k).reverse)):=by
    intro m
    induction m with
    | zero=>
      intro k hk
      have:=abb mc n o len T V S k (dZ (l.take k).reverse) J (by have:=xW k;omega)
      rw[show dZ l.reverse=dZ (l.take k).reverse by rw[List.take_of_length_le J]]
      exact this
    | succ m ih=>
      intro k hk
      obtain⟨e,he⟩:∃e,l[k]? =some e:=⟨_,List.getElem?_eq_getElem J⟩
      have e1:(l.take (k+1)).reverse=e::(l.take k).reverse:=by rw[List.take_add_one,he];simp
      have e2:((k:Int)+1)=((k+1:Nat):Int):=by omega
      have H:=ih (k+1) J
      rw[e1] at H
      refine aa3 (e:=e) mc hn hlen J J qa (by have:=xW k;omega) (fun q=>?_) (fun q=>?_)
      · rw[e2];rw[wQ q] at H;exact H
      · have q:e.kind=7:=by omega
        refine inS k e _ J he (by have:=xW k;omega) ?_ k 0 J
        rw[e2];rw[BL q] at H;exact H
  have H9:∀m k:Nat,k+m=len->dZ (l.take k).reverse=[]->FSQ B (aL bO (dZ l.reverse)) gp (nX n o len T V S (k:Int)):=by
    intro m
    induction m with
    | zero=>
      intro k hk hw
      have:=aba mc n o len T V S k J
      rw[List.take_of_length_le J] at hw
      rw[hw]
      exact this
    | succ m ih=>
      intro k hk hw
      obtain⟨e,he⟩:∃e,l[k]? =some e:=⟨_,List.getElem?_eq_getElem J⟩
      have e1:(l.take (k+1)).reverse=e::(l.take k).reverse:=by rw[List.take_add_one,he];simp
      have e2:((k:Int)+1)=((k+1:Nat):Int):=by omega
      refine aa2 (e:=e) mc hn hlen J J qa (fun q=>?_) (fun q=>?_)
      · rw[e2];exact ih (k+1) J (by rw[e1];rw[wQ q];exact hw)
      · have q:e.kind=7:=by omega
        refine inN k e J he ?_ k 0 J
        have H:=H8 m (k+1) J
        rw[e1] at H
        rw[e2];rw[BL q,hw] at H;exact H
  exact IZ mc (fun _=>H9 len 0 J rfl)
def RT(f:List Ev->Int->Int->Int->AV)(b:Nat)(args:List AV)(r:AV):Prop:=∃(n o len:Nat) (l:List Ev) (T V S:Int),args=[.agg [.int .i64 T,.int .i64 V,.int .i64 S,.ae n o len]]/\bt aN 7 (.ae n o len) l/\eR l/\len<=b/\r=f l T V S
theorem X3{f:List Ev->Int->Int->Int->AV}{b:Nat}(args:List AV)(v v':AV)(h:RT f b args v)(h':RT f b args v'):v=v':=by
 obtain⟨n,o,len,l,T,V,S,rfl,h1,_,_,rfl⟩:=h
 obtain⟨n',o',eM,l',T',V',S',q,gX,_,_,rfl⟩:=h'
 simp only[List.cons.injEq,AV.agg.injEq,AV.int.injEq,AV.ae.injEq,true_and,_root_.and_true] at q
 obtain⟨rfl,rfl,rfl,rfl,rfl,rfl⟩:=q
 rw[h1.inj qy gX]
theorem zX(f:List Ev->Int->Int->Int->AV)(b:Nat){o len:Nat}(h:bt aN 7 (.ae n o len) l)(aT:eR l)(hlen:len<=b)(hf:(f l T V S).hi=true):bj (aY (RT f b)) [.agg [.int .i64 T,.int .i64 V,.int .i64 S,.ae n o len]]=some (f l T V S):=
 l3 (mF X3 ⟨n,o,len,l,T,V,S,rfl,h,aT,hlen,rfl⟩) (by have:=h.hi;simp[AV.hi,AV.gN] at this ⊢;exact⟨rfl,rfl,rfl,this⟩) hf
noncomputable def xB(l:List Ev)(_ _ _:Int):AV:=aL bO (dZ l.reverse)
noncomputable def Py:FuncId×(List AV->Option AV):=(5,aY (RT xB 999))
theorem V8(hP:fa Tryd.prog){L:gn}(h:cC Tryd.prog FU (sp L)):cC Tryd.prog FU (sp (Py::L)):=by
 refine fJ.add hP h fJ.gr Tryd.func5 (fQ Tryd.func5 bx) bx fun args v e=>?_
 obtain⟨n,o,len,l,T,V,S,rfl,a,b,c,rfl⟩:=je e
 exact⟨bH.1 bx,fun B hB hc hl=>X2 ⟨hB,hc,hl⟩ a c⟩
end pC
end
section
open Go Go.Rn Go.RowKit Go.Proofs
namespace kz
open cd cj cv cD mz cH cI cN fx gk eP pB oo fy fm fA pC
variable {B:aZ} {n k:Nat} {V T S nn i c th:Int} {v':AV} {e:Ev} {W:List (List Int)} {l p:List Int} {fz:iW} {h:List Ev}
inductive Sl where
 |l (x:List Int)
 |own (n len:Nat)
 |none
noncomputable def eH:Sl->List AV
 | .l x=>[aL aK x]
 | .own n len=>[.slice (some (n,0)) len (.aX len 1)]
 | .none=>[.slice Option.none 0 (.known 0)]
theorem DP(x:Sl):(eH x).length=1/\(eH x).all AV.ct=true:=by cases x<;>exact⟨rfl,rfl⟩
theorem De(x:Int):(aK x).length=1:=rfl
theorem Pz(l:List Sl):(l.map eH).flatten.length=l.length:=by
 induction l with
 |nil=>rfl
 |cons a l ih=>rw[List.map_cons,List.flatten_cons,List.length_append,ih,(DP a).1,List.length_cons];omega
theorem Kq{r:Nat->Nat}:∀{l m l' m':List AV},kC fz r l m->kC fz r l' m'->kC fz r (l++l') (m++m')
 |[],[],_,_,_,h=>h
 |_::_,_::_,_,_,h,h'=>⟨h.1,Kq h.2 h'⟩
 |[],_::_,_,_,h,_=>h.elim
 |_::_,[],_,_,h,_=>h.elim
theorem Fs{r:Nat->Nat}(hr:∀k,top<=k->r k=k):∀W:List (List Int),kC fz r ((W.map Sl.l).map eH).flatten ((W.map Sl.l).map eH).flatten
 |[]=>trivial
 |_::W=>⟨FJ hr,Fs hr W⟩
theorem PA(l:List Sl):(l.map eH).flatten.all AV.ct=true:=by
 induction l with
 |nil=>rfl
 |cons a l ih=>rw[List.map_cons,List.flatten_cons,List.all_append,ih,(DP a).2];rfl
theorem yy{r:Nat->Nat}(W:List (List Int))(hr:∀k,top<=k->r k=k)(hW:W.length<=1000):iH fz r (aD eH (W.map Sl.l)) (aD eH (W.map Sl.l)):=
 iH.cells (by rw[Pz,List.length_map];unfold top;omega) (Fs hr W) (PA _)
theorem BM{r:Nat->Nat}(W:List (List Int))(x:Sl)(l:List Int)(hr:∀k,top<=k->r k=k)(hW:W.length<=1000)(h:kC fz r (eH x) [aL aK l]):iH fz r (aD eH (W.map Sl.l++[x])) (aD eH ((W++[l]).map Sl.l)):=by
 refine iH.cells (by rw[Pz,List.length_append,List.length_map,List.length_cons,List.length_nil];unfold top;omega) ?_ (PA _)
 rw[List.map_append,List.map_append,List.map_append,List.flatten_append,List.flatten_append]
 refine Kq (Fs hr W) ?_
 rw[List.map_cons,List.map_nil,List.flatten_cons,List.flatten_nil,List.append_nil]
 exact h
theorem kJ{r:Nat->Nat}{m o len eM K:Nat}(e:r m=n)(h:len=eM):aJ r (.slice (some (n,o)) len (.aX len K)) (.slice (some (m,o)) eM (.aX eM K)):=by subst h;exact aJ.slice e
noncomputable def cO(l:List Int):List AV:=[aL aK l]
theorem rB:lv 1 cO:=⟨fun _=>rfl,fun x=>by show([aL aK x].all AV.ct&&[aL aK x].all AV.gN)=true;simp only[List.all_cons,List.all_nil,FQ];rfl⟩
def lQ(l:List Int)(k:Nat):List Int:=l++List.replicate (k+1 - l.length) 0
def jL(l:List Int)(k:Nat):List Int:=(lQ l k).set k ((lQ l k).getD k 0+1)
def DQ(e:Ev)(th:Int)(l:List Int):List Int:=if e.kind=1/\e.az=th/\0<=e.tx/\e.tx<=5 then jL l e.tx.toNat else l
def dz:List Ev->Int->List Int
 |[],_=>[]
 |e::h,th=>DQ e th (dz h th)
noncomputable def w8(n o len:Nat)(T V S nn:Int):Fm:=⟨12,[(1,(.ptr (some (270,0)))),(3,(.slice none 0 (.known 0))),(4,(.int .i64 nn))],69,[.code (aO Tryd.prog 12 [1,1,0,1,0,0]),.inLoop (aO Tryd.prog 12 [1,1,0,1,0,0]),.inBlock 0,.code (aO Tryd.prog 12 [1,1,1])],[(270,some (.cells 4 (Tr.fill (bK T V S n o len) 0 .nil) []))],271⟩
noncomputable def gV(n o len:Nat)(T V S nn:Int)(W:List (List Int)):Fm:=⟨12,[(1,(.ptr (some (270,0)))),(3,(.slice (some (271,0)) ((List.map Sl.l W).length) (.aX (List.map Sl.l W).length 1))),(4,(.int .i64 nn))],69,[.code (aO Tryd.prog 12 [1,1,0,1,0,0]),.inLoop (aO Tryd.prog 12 [1,1,0,1,0,0]),.inBlock 0,.code (aO Tryd.prog 12 [1,1,1])],[(270,some (.cells 4 (Tr.fill (bK T V S n o len) 0 .nil) [])),(271,(some (aD eH (List.map Sl.l W))))],272⟩
noncomputable def mL(n o len:Nat)(T V S nn:Int)(i:Int):Fm:=⟨12,[(1,(.ptr (some (270,0)))),(3,(.slice none 0 (.known 0))),(4,(.int .i64 nn)),(5,(.slice none 0 (.known 0))),(6,(.int .i64 i))],69,[.code (aO Tryd.prog 12 [1,1,0,1,0,0,1,0,0,1,0,1,0,0]),.inLoop (aO Tryd.prog 12 [1,1,0,1,0,0,1,0,0,1,0,1,0,0]),.inBlock 2,.code (aO Tryd.prog 12 [1,1,0,1,0,0,1,0,0,1,1]),.inBlock 1,.code (aO Tryd.prog 12 [1,1,0,1,0,0,1,1]),.inLoop (aO Tryd.prog 12 [1,1,0,1,0,0]),.inBlock 0,.code (aO Tryd.prog 12 [1,1,1])],[(270,some (.cells 4 (Tr.fill (bK T V S n o len) 0 .nil) []))],271⟩
noncomputable def l8(n o len:Nat)(T V S nn:Int)(i:Int)(l:List Int):Fm:=⟨12,[(1,(.ptr (some (270,0)))),(3,(.slice none 0 (.known 0))),(4,(.int .i64 nn)),(5,(.slice (some (271,0)) l.length (.aX l.length 1))),(6,(.int .i64 i))],69,[.code (aO Tryd.prog 12 [1,1,0,1,0,0,1,0,0,1,0,1,0,0]),.inLoop (aO Tryd.prog 12 [1,1,0,1,0,0,1,0,0,1,0,1,0,0]),.inBlock 2,.code (aO Tryd.prog 12 [1,1,0,1,0,0,1,0,0,1,1]),.inBlock 1,.code (aO Tryd.prog 12 [1,1,0,1,0,0,1,1]),.inLoop (aO Tryd.prog 12 [1,1,0,1,0,0]),.inBlock 0,.code (aO Tryd.prog 12 [1,1,1])],[(270,some (.cells 4 (Tr.fill (bK T V S n o len) 0 .nil) [])),(271,(some (aD aK l)))],272⟩
noncomputable def mM(n o len:Nat)(T V S nn:Int)(W:List (List Int))(i:Int):Fm:=⟨12,[(1,(.ptr (some (270,0)))),(3,(.slice (some (271,0)) ((List.map Sl.l W).length) (.aX (List.map Sl.l W).length 1))),(4,(.int .i64 nn)),(5,(.slice none 0 (.known 0))),(6,(.int .i64 i))],69,[.code (aO Tryd.prog 12 [1,1,0,1,0,0,1,0,0,1,0,1,0,0]),.inLoop (aO Tryd.prog 12 [1,1,0,1,0,0,1,0,0,1,0,1,0,0]),.inBlock 2,.code (aO Tryd.prog 12 [1,1,0,1,0,0,1,0,0,1,1]),.inBlock 1,.code (aO Tryd.prog 12 [1,1,0,1,0,0,1,1]),.inLoop (aO Tryd.prog 12 [1,1,0,1,0,0]),.inBlock 0,.code (aO Tryd.prog 12 [1,1,1])],[(270,some (.cells 4 (Tr.fill (bK T V S n o len) 0 .nil) [])),(271,(some (aD eH (List.map Sl.l W))))],272⟩
noncomputable def l9(n o len:Nat)(T V S nn:Int)(W:List (List Int))(i:Int)(l:List Int):Fm:=⟨12,[(1,(.ptr (some (270,0)))),(3,(.slice (some (271,0)) ((List.map Sl.l W).length) (.aX (List.map Sl.l W).length 1))),(4,(.int .i64 nn)),(5,(.slice (some (272,0)) l.length (.aX l.length 1))),(6,(.int .i64 i))],69,[.code (aO Tryd.prog 12 [1,1,0,1,0,0,1,0,0,1,0,1,0,0]),.inLoop (aO Tryd.prog 12 [1,1,0,1,0,0,1,0,0,1,0,1,0,0]),.inBlock 2,.code (aO Tryd.prog 12 [1,1,0,1,0,0,1,0,0,1,1]),.inBlock 1,.code (aO Tryd.prog 12 [1,1,0,1,0,0,1,1]),.inLoop (aO Tryd.prog 12 [1,1,0,1,0,0]),.inBlock 0,.code (aO Tryd.prog 12 [1,1,1])],[(270,some (.cells 4 (Tr.fill (bK T V S n o len) 0 .nil) [])),(271,(some (aD eH (List.map Sl.l W)))),(272,(some (aD aK l)))],273⟩
noncomputable def yW(n o len:Nat)(T V S nn:Int)(i:Int)(e:Ev):Fm:=⟨12,[(1,(.ptr (some (270,0)))),(3,(.slice none 0 (.known 0))),(4,(.int .i64 nn)),(5,(.slice none 0 (.known 0))),(6,(.int .i64 i)),(7,(.ptr (some (271,0))))],69,[.code (aO Tryd.prog 12 [1,1,0,1,0,0,1,0,0,1,0,1,0,0,1,0,0,1,1,0,0,0,0]),.inLoop (aO Tryd.prog 12 [1,1,0,1,0,0,1,0,0,1,0,1,0,0,1,0,0,1,1,0,0,0,0]),.inBlock 4,.code (aO Tryd.prog 12 [1,1,0,1,0,0,1,0,0,1,0,1,0,0,1,0,0,1,1,0,1]),.inBlock 3,.code (aO Tryd.prog 12 [1,1,0,1,0,0,1,0,0,1,0,1,0,0,1,1]),.inLoop (aO Tryd.prog 12 [1,1,0,1,0,0,1,0,0,1,0,1,0,0]),.inBlock 2,.code (aO Tryd.prog 12 [1,1,0,1,0,0,1,0,0,1,1]),.inBlock 1,.code (aO Tryd.prog 12 [1,1,0,1,0,0,1,1]),.inLoop (aO Tryd.prog 12 [1,1,0,1,0,0]),.inBlock 0,.code (aO Tryd.prog 12 [1,1,1])],[(270,some (.cells 4 (Tr.fill (bK T V S n o len) 0 .nil) [])),(271,some (.cells 7 (Tr.fill (aN e) 0 .nil) []))],272⟩
noncomputable def kD(n o len:Nat)(T V S nn:Int)(i:Int)(l:List Int)(e:Ev):Fm:=⟨12,[(1,(.ptr (some (270,0)))),(3,(.slice none 0 (.known 0))),(4,(.int .i64 nn)),(5,(.slice (some (271,0)) l.length (.aX l.length 1))),(6,(.int .i64 i)),(7,(.ptr (some (272,0))))],69,[.code (aO Tryd.prog 12 [1,1,0,1,0,0,1,0,0,1,0,1,0,0,1,0,0,1,1,0,0,0,0]),.inLoop (aO Tryd.prog 12 [1,1,0,1,0,0,1,0,0,1,0,1,0,0,1,0,0,1,1,0,0,0,0]),.inBlock 4,.code (aO Tryd.prog 12 [1,1,0,1,0,0,1,0,0,1,0,1,0,0,1,0,0,1,1,0,1]),.inBlock 3,.code (aO Tryd.prog 12 [1,1,0,1,0,0,1,0,0,1,0,1,0,0,1,1]),.inLoop (aO Tryd.prog 12 [1,1,0,1,0,0,1,0,0,1,0,1,0,0]),.inBlock 2,.code (aO Tryd.prog 12 [1,1,0,1,0,0,1,0,0,1,1]),.inBlock 1,.code (aO Tryd.prog 12 [1,1,0,1,0,0,1,1]),.inLoop (aO Tryd.prog 12 [1,1,0,1,0,0]),.inBlock 0,.code (aO Tryd.prog 12 [1,1,1])],[(270,some (.cells 4 (Tr.fill (bK T V S n o len) 0 .nil) [])),(271,(some (aD aK l))),(272,some (.cells 7 (Tr.fill (aN e) 0 .nil) []))],273⟩
noncomputable def yX(n o len:Nat)(T V S nn:Int)(W:List (List Int))(i:Int)(e:Ev):Fm:=⟨12,[(1,(.ptr (some (270,0)))),(3,(.slice (some (271,0)) ((List.map Sl.l W).length) (.aX (List.map Sl.l W).length 1))),(4,(.int .i64 nn)),(5,(.slice none 0 (.known 0))),(6,(.int .i64 i)),(7,(.ptr (some (272,0))))],69,[.code (aO Tryd.prog 12 [1,1,0,1,0,0,1,0,0,1,0,1,0,0,1,0,0,1,1,0,0,0,0]),.inLoop (aO Tryd.prog 12 [1,1,0,1,0,0,1,0,0,1,0,1,0,0,1,0,0,1,1,0,0,0,0]),.inBlock 4,.code (aO Tryd.prog 12 [1,1,0,1,0,0,1,0,0,1,0,1,0,0,1,0,0,1,1,0,1]),.inBlock 3,.code (aO Tryd.prog 12 [1,1,0,1,0,0,1,0,0,1,0,1,0,0,1,1]),.inLoop (aO Tryd.prog 12 [1,1,0,1,0,0,1,0,0,1,0,1,0,0]),.inBlock 2,.code (aO Tryd.prog 12 [1,1,0,1,0,0,1,0,0,1,1]),.inBlock 1,.code (aO Tryd.prog 12 [1,1,0,1,0,0,1,1]),.inLoop (aO Tryd.prog 12 [1,1,0,1,0,0]),.inBlock 0,.code (aO Tryd.prog 12 [1,1,1])],[(270,some (.cells 4 (Tr.fill (bK T V S n o len) 0 .nil) [])),(271,(some (aD eH (List.map Sl.l W)))),(272,some (.cells 7 (Tr.fill (aN e) 0 .nil) []))],273⟩
noncomputable def kE(n o len:Nat)(T V S nn:Int)(W:List (List Int))(i:Int)(l:List Int)(e:Ev):Fm:=⟨12,[(1,(.ptr (some (270,0)))),(3,(.slice (some (271,0)) ((List.map Sl.l W).length) (.aX (List.map Sl.l W).length 1))),(4,(.int .i64 nn)),(5,(.slice (some (272,0)) l.length (.aX l.length 1))),(6,(.int .i64 i)),(7,(.ptr (some (273,0))))],69,[.code (aO Tryd.prog 12 [1,1,0,1,0,0,1,0,0,1,0,1,0,0,1,0,0,1,1,0,0,0,0]),.inLoop (aO Tryd.prog 12 [1,1,0,1,0,0,1,0,0,1,0,1,0,0,1,0,0,1,1,0,0,0,0]),.inBlock 4,.code (aO Tryd.prog 12 [1,1,0,1,0,0,1,0,0,1,0,1,0,0,1,0,0,1,1,0,1]),.inBlock 3,.code (aO Tryd.prog 12 [1,1,0,1,0,0,1,0,0,1,0,1,0,0,1,1]),.inLoop (aO Tryd.prog 12 [1,1,0,1,0,0,1,0,0,1,0,1,0,0]),.inBlock 2,.code (aO Tryd.prog 12 [1,1,0,1,0,0,1,0,0,1,1]),.inBlock 1,.code (aO Tryd.prog 12 [1,1,0,1,0,0,1,1]),.inLoop (aO Tryd.prog 12 [1,1,0,1,0,0]),.inBlock 0,.code (aO Tryd.prog 12 [1,1,1])],[(270,some (.cells 4 (Tr.fill (bK T V S n o len) 0 .nil) [])),(271,(some (aD eH (List.map Sl.l W)))),(272,(some (aD aK l))),(273,some (.cells 7 (Tr.fill (aN e) 0 .nil) []))],274⟩
abbrev Nl(n o len:Nat)(T V S nn:Int):bz:=fun fr s1 _=>(True/\FC (mL n o len T V S nn 0) fr s1)
theorem ZN(mc:Mc (sp []) 6 B){o len:Nat}(h0:0<=nn)(h1:nn<T)(h2:nn<6)(H0:True->FSQ B v' dm (mL n o len T V S nn 0)):FSQ B v' dm (w8 n o len T V S nn):=by
 exact wC mc (C:=(Nl n o len T V S nn)) (gj H0) 2000 (gC 2 3 (.fk (.go 2 (.fk (gK 1 11 (iT (mL n o len T V S nn 0))) .no)) .no)) (U (nn<T) (fun _=>U (nn<6) (fun _=>jB (mL n o len T V S nn 0) (Nl n o len T V S nn) (⟨trivial,rfl,rfl⟩)) aA) aA)
abbrev Nm(n o len:Nat)(T V S nn:Int)(W:List (List Int)):bz:=fun fr s1 _=>(True/\FC (mM n o len T V S nn W 0) fr s1)
theorem ZO(mc:Mc (sp []) 6 B){o len:Nat}(h0:0<=nn)(h1:nn<T)(h2:nn<6)(hW:W.length<=1000)(H0:True->FSQ B v' dm (mM n o len T V S nn W 0)):FSQ B v' dm (gV n o len T V S nn W):=by
 exact wC mc (C:=(Nm n o len T V S nn W)) (gj H0) 2000 (gC 2 3 (.fk (.go 2 (.fk (gK 1 11 (iT (mM n o len T V S nn W 0))) .no)) .no)) (U (nn<T) (fun _=>U (nn<6) (fun _=>jB (mM n o len T V S nn W 0) (Nm n o len T V S nn W) (⟨trivial,rfl,rfl⟩)) aA) aA)
theorem TX(n o len:Nat)(T V S nn i:Int)(hn:top<=n)(C:bz)(h:FH C (mL n o len T V S nn (i+1))):FW 272 [(1,(.ptr (some (270,0)))),(3,(.slice none 0 (.known 0))),(4,(.int .i64 nn)),(5,(.slice none 0 (.known 0))),(6,(.int .i64 ((i+1))))] [(270,some (.cells 4 (Tr.fill (bK T V S n o len) 0 .nil) []))] (mL n o len T V S nn (i+1)) C:=by
 refine⟨rfl,rfl,iQ (fun k=>k) bx rfl (fun r q r3=>⟨(aJ.ptr (q 270 rfl)).z,vN,vI,vN,vI,trivial⟩) (fun r q r3=>⟨rfl,oS (oT hn r3) rfl rfl (fun h=>h),trivial⟩),h⟩
abbrev FN(n o len:Nat)(T V S nn i:Int)(e:Ev):bz:=fun fr s1 _=>((e.kind=1/\e.az=nn/\0<=e.tx/\e.tx<=5)/\FC (yW n o len T V S nn i e) fr s1)\/((¬(e.kind=1/\e.az=nn/\0<=e.tx/\e.tx<=5))/\FC (mL n o len T V S nn (i+1)) fr s1)
theorem X4(mc:Mc (sp []) 6 B){o len:Nat}(hn:top<=n)(hlen:len<=1000)(h0:0<=i)(hi:i<(len:Int))(he:bM FU n (o+i.toNat*7) 7=some (aN e))(H0:(e.kind=1/\e.az=nn/\0<=e.tx/\e.tx<=5)->FSQ B v' dm (yW n o len T V S nn i e))(H1:(¬(e.kind=1/\e.az=nn/\0<=e.tx/\e.tx<=5))->FSQ B v' dm (mL n o len T V S nn (i+1))):FSQ B v' dm (mL n o len T V S nn i):=by
 exact wC mc (C:=(FN n o len T V S nn i e)) (lP H0 H1) 2000 ((fun(q1:Pl)=>(gC 2 4 (.fk (gB 5 3 (.bI (.bJ (aN e) (gA 2 1 2 (.fk (.go 4 (.fk (.go 4 (.fk (.go 4 (.fk (gK 1 4 (iT (yW n o len T V S nn i e))) (.go 1 q1))) (.go 6 q1))) (.go 11 q1))) (.go 16 q1)))))) .no))) (gB 3 1 (.vl (.int .i64 (i+1)) (gK 1 1 (fO [(1,(.ptr (some (270,0)))),(3,(.slice none 0 (.known 0))),(4,(.int .i64 nn)),(5,(.slice none 0 (.known 0))),(6,(.int .i64 ((i+1))))] [(270,some (.cells 4 (Tr.fill (bK T V S n o len) 0 .nil) []))] (mL n o len T V S nn (i+1)) 272))))) (U (i<(len:Int)) (fun _=>aV i (len:Int) J J (ai hn (ai (c9 he 0 7 ar) (U (e.kind=1) (fun _=>U (e.az=nn) (fun _=>U (e.tx>=0) (fun _=>U (e.tx<=5) (fun _=>jB (yW n o len T V S nn i e) (FN n o len T V S nn i e) ((.inl ⟨J,rfl,rfl⟩))) CV) CV) CV) CV)))) aA)
theorem V9(n o len:Nat)(T V S nn:Int)(hn:top<=n)(C:bz)(h:FH C (gV n o len T V S (nn+1) ([[]]))):FW 273 [(1,(.ptr (some (270,0)))),(3,(.slice (some (272,0)) (1) (.aX 1 1))),(4,(.int .i64 ((nn+1))))] [(270,some (.cells 4 (Tr.fill (bK T V S n o len) 0 .nil) [])),(272,some (.cells 1 (Tr.fill [(.slice none 0 (.known 0))] 0 .nil) []))] (gV n o len T V S (nn+1) ([[]])) C:=by
 refine⟨rfl,rfl,iQ (fun k=>if k=271 then 272 else k) bx rfl (fun r q r3=>⟨(aJ.ptr (q 270 rfl)).z,(kJ (q 271 rfl) cR).z,vI,trivial⟩) (fun r q r3=>⟨rfl,oS (oT hn r3) rfl rfl (fun h=>h),rfl,oS (BM [] Sl.none [] r3 (by rw[List.length_nil];omega) ⟨l4,trivial⟩) rfl rfl (fun h=>h),trivial⟩),h⟩
abbrev Mr(n o len:Nat)(T V S nn:Int):bz:=fun fr s1 _=>(True/\FC (gV n o len T V S (nn+1) ([[]])) fr s1)
theorem X5(mc:Mc (sp []) 6 B){o len:Nat}(hn:top<=n)(hlen:len<=1000)(h0:0<=nn)(h1:nn<6)(hi:¬(i<(len:Int)))(H0:True->FSQ B v' dm (gV n o len T V S (nn+1) ([[]]))):FSQ B v' dm (mL n o len T V S nn i):=by
 exact wC mc (C:=(Mr n o len T V S nn)) (gj H0) 2000 (gC 2 4 (.fk .no (gB 4 1 (.vl (.int .i64 (nn+1)) (gK 1 1 (fO [(1,(.ptr (some (270,0)))),(3,(.slice (some (272,0)) (1) (.aX 1 1))),(4,(.int .i64 ((nn+1))))] [(270,some (.cells 4 (Tr.fill (bK T V S n o len) 0 .nil) [])),(272,some (.cells 1 (Tr.fill [(.slice none 0 (.known 0))] 0 .nil) []))] (gV n o len T V S (nn+1) ([[]])) 273)))))) (U (i<(len:Int)) aA (fun _=>ai (wI (nn+1) J) (V9 n o len T V S nn hn (Mr n o len T V S nn) (⟨trivial,rfl,rfl⟩))))
theorem TW(n o len:Nat)(T V S nn i:Int)(l:List Int)(hL:l.length<=1000)(hn:top<=n)(C:bz)(h:FH C (l8 n o len T V S nn (i+1) l)):FW 273 [(1,(.ptr (some (270,0)))),(3,(.slice none 0 (.known 0))),(4,(.int .i64 nn)),(5,(.slice (some (271,0)) l.length (.aX l.length 1))),(6,(.int .i64 ((i+1))))] [(270,some (.cells 4 (Tr.fill (bK T V S n o len) 0 .nil) [])),(271,(some (aD aK l)))] (l8 n o len T V S nn (i+1) l) C:=by
 refine⟨rfl,rfl,iQ (fun k=>k) bx rfl (fun r q r3=>⟨(aJ.ptr (q 270 rfl)).z,vN,vI,(kJ (q 271 rfl) cR).z,vI,trivial⟩) (fun r q r3=>⟨rfl,oS (oT hn r3) rfl rfl (fun h=>h),rfl,oS (c8.aD (enc:=aK) (l:=l) (fun x=>⟨rfl,rfl⟩) sS).z rfl rfl (fun h=>h),trivial⟩),h⟩
abbrev FM(n o len:Nat)(T V S nn i:Int)(e:Ev)(l:List Int):bz:=fun fr s1 _=>((e.kind=1/\e.az=nn/\0<=e.tx/\e.tx<=5)/\FC (kD n o len T V S nn i l e) fr s1)\/((¬(e.kind=1/\e.az=nn/\0<=e.tx/\e.tx<=5))/\FC (l8 n o len T V S nn (i+1) l) fr s1)
theorem X6(mc:Mc (sp []) 6 B){o len:Nat}(hn:top<=n)(hlen:len<=1000)(h0:0<=i)(hi:i<(len:Int))(he:bM FU n (o+i.toNat*7) 7=some (aN e))(hL:l.length<=1000)(H0:(e.kind=1/\e.az=nn/\0<=e.tx/\e.tx<=5)->FSQ B v' dm (kD n o len T V S nn i l e))(H1:(¬(e.kind=1/\e.az=nn/\0<=e.tx/\e.tx<=5))->FSQ B v' dm (l8 n o len T V S nn (i+1) l)):FSQ B v' dm (l8 n o len T V S nn i l):=by
 exact wC mc (C:=(FM n o len T V S nn i e l)) (lP H0 H1) 2000 ((fun(q1:Pl)=>(gC 2 4 (.fk (gB 5 3 (.bI (.bJ (aN e) (gA 2 1 2 (.fk (.go 4 (.fk (.go 4 (.fk (.go 4 (.fk (gK 1 4 (iT (kD n o len T V S nn i l e))) (.go 1 q1))) (.go 6 q1))) (.go 11 q1))) (.go 16 q1)))))) .no))) (gB 3 1 (.vl (.int .i64 (i+1)) (gK 1 1 (fO [(1,(.ptr (some (270,0)))),(3,(.slice none 0 (.known 0))),(4,(.int .i64 nn)),(5,(.slice (some (271,0)) l.length (.aX l.length 1))),(6,(.int .i64 ((i+1))))] [(270,some (.cells 4 (Tr.fill (bK T V S n o len) 0 .nil) [])),(271,(some (aD aK l)))] (l8 n o len T V S nn (i+1) l) 273))))) (U (i<(len:Int)) (fun _=>aV i (len:Int) J J (ai hn (ai (c9 he 0 7 ar) (U (e.kind=1) (fun _=>U (e.az=nn) (fun _=>U (e.tx>=0) (fun _=>U (e.tx<=5) (fun _=>jB (kD n o len T V S nn i l e) (FM n o len T V S nn i e l) ((.inl ⟨J,rfl,rfl⟩))) CU) CU) CU) CU)))) aA)
theorem UK(n o len:Nat)(T V S nn:Int)(l:List Int)(hL:l.length<=1000)(hn:top<=n)(C:bz)(h:FH C (gV n o len T V S (nn+1) ([l]))):FW 274 [(1,(.ptr (some (270,0)))),(3,(.slice (some (273,0)) (1) (.aX 1 1))),(4,(.int .i64 ((nn+1))))] [(270,some (.cells 4 (Tr.fill (bK T V S n o len) 0 .nil) [])),(273,some (.cells 1 (Tr.fill [(.slice (some (271,0)) l.length (.aX l.length 1))] 0 .nil) [])),(271,(some (aD aK l)))] (gV n o len T V S (nn+1) ([l])) C:=by
 refine⟨rfl,rfl,I5 [(271,nm (List.map aK l).flatten,(List.map aK l).flatten)] (fun k=>if k=271 then 273 else k) bx rfl (fun r q r3=>⟨(aJ.ptr (q 270 rfl)).z,(kJ (q 271 rfl) cR).z,vI,trivial⟩) (fun r q r3=>⟨rfl,oS (oT hn r3) rfl rfl (fun h=>h),rfl,oS (BM [] (Sl.own 271 l.length) l r3 (by rw[List.length_nil];omega) ⟨jI (.head _) r3 rfl,trivial⟩) rfl rfl (fun h=>h),trivial⟩) (fun p hp=>?_),h⟩
 simp only[List.mem_cons,List.not_mem_nil,or_false] at hp
 subst hp
 obtain⟨a,b,c⟩:=rO eI (l:=l) dW 271 dW (o0:=[(270,some (.cells 4 (Tr.fill (bK T V S n o len) 0 .nil) [])),(273,some (.cells 1 (Tr.fill [(.slice (some (271,0)) l.length (.aX l.length 1))] 0 .nil) [])),(271,(some (aD aK l)))]) (.tail _ (.tail _ (.head _)))
 exact⟨by show 270<=271;omega,a,fun q hq=>(by simp only[gV,List.mem_cons,List.not_mem_nil,or_false] at hq;rcases hq with rfl|rfl;exact(show(270:Nat)≠271 from by decide);exact(show(273:Nat)≠271 from by decide)),b,c⟩
abbrev Ms(n o len:Nat)(T V S nn:Int)(l:List Int):bz:=fun fr s1 _=>(True/\FC (gV n o len T V S (nn+1) ([l])) fr s1)
theorem X7(mc:Mc (sp []) 6 B){o len:Nat}(hn:top<=n)(hlen:len<=1000)(h0:0<=nn)(h1:nn<6)(hi:¬(i<(len:Int)))(hL:l.length<=1000)(H0:True->FSQ B v' dm (gV n o len T V S (nn+1) ([l]))):FSQ B v' dm (l8 n o len T V S nn i l):=by
 exact wC mc (C:=(Ms n o len T V S nn l)) (gj H0) 2000 (gC 2 4 (.fk .no (gB 4 1 (.vl (.int .i64 (nn+1)) (gK 1 1 (fO [(1,(.ptr (some (270,0)))),(3,(.slice (some (273,0)) (1) (.aX 1 1))),(4,(.int .i64 ((nn+1))))] [(270,some (.cells 4 (Tr.fill (bK T V S n o len) 0 .nil) [])),(273,some (.cells 1 (Tr.fill [(.slice (some (271,0)) l.length (.aX l.length 1))] 0 .nil) [])),(271,(some (aD aK l)))] (gV n o len T V S (nn+1) ([l])) 274)))))) (U (i<(len:Int)) aA (fun _=>ai (wI (nn+1) J) (UK n o len T V S nn l hL hn (Ms n o len T V S nn l) (⟨trivial,rfl,rfl⟩))))
theorem SO(n o len:Nat)(T V S nn i:Int)(W:List (List Int))(hW:W.length<=1000)(hn:top<=n)(C:bz)(h:FH C (mM n o len T V S nn W (i+1))):FW 273 [(1,(.ptr (some (270,0)))),(3,(.slice (some (271,0)) ((List.map Sl.l W).length) (.aX (List.map Sl.l W).length 1))),(4,(.int .i64 nn)),(5,(.slice none 0 (.known 0))),(6,(.int .i64 ((i+1))))] [(270,some (.cells 4 (Tr.fill (bK T V S n o len) 0 .nil) [])),(271,(some (aD eH (List.map Sl.l W))))] (mM n o len T V S nn W (i+1)) C:=by
 refine⟨rfl,rfl,iQ (fun k=>k) bx rfl (fun r q r3=>⟨(aJ.ptr (q 270 rfl)).z,(kJ (q 271 rfl) cR).z,vI,vN,vI,trivial⟩) (fun r q r3=>⟨rfl,oS (oT hn r3) rfl rfl (fun h=>h),rfl,oS (yy W r3 J) rfl rfl (fun h=>h),trivial⟩),h⟩
abbrev FL(n o len:Nat)(T V S nn i:Int)(e:Ev)(W:List (List Int)):bz:=fun fr s1 _=>((e.kind=1/\e.az=nn/\0<=e.tx/\e.tx<=5)/\FC (yX n o len T V S nn W i e) fr s1)\/((¬(e.kind=1/\e.az=nn/\0<=e.tx/\e.tx<=5))/\FC (mM n o len T V S nn W (i+1)) fr s1)
theorem X8(mc:Mc (sp []) 6 B){o len:Nat}(hn:top<=n)(hlen:len<=1000)(h0:0<=i)(hi:i<(len:Int))(he:bM FU n (o+i.toNat*7) 7=some (aN e))(hW:W.length<=1000)(H0:(e.kind=1/\e.az=nn/\0<=e.tx/\e.tx<=5)->FSQ B v' dm (yX n o len T V S nn W i e))(H1:(¬(e.kind=1/\e.az=nn/\0<=e.tx/\e.tx<=5))->FSQ B v' dm (mM n o len T V S nn W (i+1))):FSQ B v' dm (mM n o len T V S nn W i):=by
 exact wC mc (C:=(FL n o len T V S nn i e W)) (lP H0 H1) 2000 ((fun(q1:Pl)=>(gC 2 4 (.fk (gB 5 3 (.bI (.bJ (aN e) (gA 2 1 2 (.fk (.go 4 (.fk (.go 4 (.fk (.go 4 (.fk (gK 1 4 (iT (yX n o len T V S nn W i e))) (.go 1 q1))) (.go 6 q1))) (.go 11 q1))) (.go 16 q1)))))) .no))) (gB 3 1 (.vl (.int .i64 (i+1)) (gK 1 1 (fO [(1,(.ptr (some (270,0)))),(3,(.slice (some (271,0)) ((List.map Sl.l W).length) (.aX (List.map Sl.l W).length 1))),(4,(.int .i64 nn)),(5,(.slice none 0 (.known 0))),(6,(.int .i64 ((i+1))))] [(270,some (.cells 4 (Tr.fill (bK T V S n o len) 0 .nil) [])),(271,(some (aD eH (List.map Sl.l W))))] (mM n o len T V S nn W (i+1)) 273))))) (U (i<(len:Int)) (fun _=>aV i (len:Int) J J (ai hn (ai (c9 he 0 7 ar) (U (e.kind=1) (fun _=>U (e.az=nn) (fun _=>U (e.tx>=0) (fun _=>U (e.tx<=5) (fun _=>jB (yX n o len T V S nn W i e) (FL n o len T V S nn i e W) ((.inl ⟨J,rfl,rfl⟩))) CT) CT) CT) CT)))) aA)
theorem UL(n o len:Nat)(T V S nn:Int)(W:List (List Int))(hW:W.length<=1000)(hn:top<=n)(C:bz)(h:FH C (gV n o len T V S (nn+1) (W++[[]]))):FW 274 [(1,(.ptr (some (270,0)))),(3,(.slice (some (273,0)) (((List.map Sl.l W)++[Sl.none]).length) (.aX ((List.map Sl.l W)++[Sl.none]).length 1))),(4,(.int .i64 ((nn+1))))] [(270,some (.cells 4 (Tr.fill (bK T V S n o len) 0 .nil) [])),(273,(some (aD eH ((List.map Sl.l W)++[Sl.none]))))] (gV n o len T V S (nn+1) (W++[[]])) C:=by
 refine⟨rfl,rfl,iQ (fun k=>if k=271 then 273 else k) bx rfl (fun r q r3=>⟨(aJ.ptr (q 270 rfl)).z,(kJ (q 271 rfl) cR).z,vI,trivial⟩) (fun r q r3=>⟨rfl,oS (oT hn r3) rfl rfl (fun h=>h),rfl,oS (BM W Sl.none [] r3 J ⟨l4,trivial⟩) rfl rfl (fun h=>h),trivial⟩),h⟩
abbrev Mt(n o len:Nat)(T V S nn:Int)(W:List (List Int)):bz:=fun fr s1 _=>(True/\FC (gV n o len T V S (nn+1) (W++[[]])) fr s1)
theorem X9(mc:Mc (sp []) 6 B){o len:Nat}(hn:top<=n)(hlen:len<=1000)(h0:0<=nn)(h1:nn<6)(hi:¬(i<(len:Int)))(hW:W.length<=1000)(H0:True->FSQ B v' dm (gV n o len T V S (nn+1) (W++[[]]))):FSQ B v' dm (mM n o len T V S nn W i):=by
 exact wC mc (C:=(Mt n o len T V S nn W)) (gj H0) 2000 (gC 2 4 (.fk .no (gB 2 3 (.ap Sl eH (List.map Sl.l W) Sl.none (gA 1 1 1 (.vl (.int .i64 (nn+1)) (gK 1 1 (fO [(1,(.ptr (some (270,0)))),(3,(.slice (some (273,0)) (((List.map Sl.l W)++[Sl.none]).length) (.aX ((List.map Sl.l W)++[Sl.none]).length 1))),(4,(.int .i64 ((nn+1))))] [(270,some (.cells 4 (Tr.fill (bK T V S n o len) 0 .nil) [])),(273,(some (aD eH ((List.map Sl.l W)++[Sl.none]))))] (gV n o len T V S (nn+1) (W++[[]])) 274)))))))) (U (i<(len:Int)) aA (fun _=>nj eH (List.map Sl.l W) Sl.none (K:=1) (gO:=24) DP NR NS (ai (wI (nn+1) J) (UL n o len T V S nn W hW hn (Mt n o len T V S nn W) (⟨trivial,rfl,rfl⟩)))))
theorem SN(n o len:Nat)(T V S nn i:Int)(W:List (List Int))(l:List Int)(hW:W.length<=1000)(hL:l.length<=1000)(hn:top<=n)(C:bz)(h:FH C (l9 n o len T V S nn W (i+1) l)):FW 274 [(1,(.ptr (some (270,0)))),(3,(.slice (some (271,0)) ((List.map Sl.l W).length) (.aX (List.map Sl.l W).length 1))),(4,(.int .i64 nn)),(5,(.slice (some (272,0)) l.length (.aX l.length 1))),(6,(.int .i64 ((i+1))))] [(270,some (.cells 4 (Tr.fill (bK T V S n o len) 0 .nil) [])),(271,(some (aD eH (List.map Sl.l W)))),(272,(some (aD aK l)))] (l9 n o len T V S nn W (i+1) l) C:=by
 refine⟨rfl,rfl,iQ (fun k=>k) bx rfl (fun r q r3=>⟨(aJ.ptr (q 270 rfl)).z,(kJ (q 271 rfl) cR).z,vI,(kJ (q 272 rfl) cR).z,vI,trivial⟩) (fun r q r3=>⟨rfl,oS (oT hn r3) rfl rfl (fun h=>h),rfl,oS (yy W r3 J) rfl rfl (fun h=>h),rfl,oS (c8.aD (enc:=aK) (l:=l) (fun x=>⟨rfl,rfl⟩) sS).z rfl rfl (fun h=>h),trivial⟩),h⟩
abbrev FK(n o len:Nat)(T V S nn i:Int)(e:Ev)(W:List (List Int))(l:List Int):bz:=fun fr s1 _=>((e.kind=1/\e.az=nn/\0<=e.tx/\e.tx<=5)/\FC (kE n o len T V S nn W i l e) fr s1)\/((¬(e.kind=1/\e.az=nn/\0<=e.tx/\e.tx<=5))/\FC (l9 n o len T V S nn W (i+1) l) fr s1)
theorem Ya(mc:Mc (sp []) 6 B){o len:Nat}(hn:top<=n)(hlen:len<=1000)(h0:0<=i)(hi:i<(len:Int))(he:bM FU n (o+i.toNat*7) 7=some (aN e))(hW:W.length<=1000)(hL:l.length<=1000)(H0:(e.kind=1/\e.az=nn/\0<=e.tx/\e.tx<=5)->FSQ B v' dm (kE n o len T V S nn W i l e))(H1:(¬(e.kind=1/\e.az=nn/\0<=e.tx/\e.tx<=5))->FSQ B v' dm (l9 n o len T V S nn W (i+1) l)):FSQ B v' dm (l9 n o len T V S nn W i l):=by
 exact wC mc (C:=(FK n o len T V S nn i e W l)) (lP H0 H1) 2000 ((fun(q1:Pl)=>(gC 2 4 (.fk (gB 5 3 (.bI (.bJ (aN e) (gA 2 1 2 (.fk (.go 4 (.fk (.go 4 (.fk (.go 4 (.fk (gK 1 4 (iT (kE n o len T V S nn W i l e))) (.go 1 q1))) (.go 6 q1))) (.go 11 q1))) (.go 16 q1)))))) .no))) (gB 3 1 (.vl (.int .i64 (i+1)) (gK 1 1 (fO [(1,(.ptr (some (270,0)))),(3,(.slice (some (271,0)) ((List.map Sl.l W).length) (.aX (List.map Sl.l W).length 1))),(4,(.int .i64 nn)),(5,(.slice (some (272,0)) l.length (.aX l.length 1))),(6,(.int .i64 ((i+1))))] [(270,some (.cells 4 (Tr.fill (bK T V S n o len) 0 .nil) [])),(271,(some (aD eH (List.map Sl.l W)))),(272,(some (aD aK l)))] (l9 n o len T V S nn W (i+1) l) 274))))) (U (i<(len:Int)) (fun _=>aV i (len:Int) J J (ai hn (ai (c9 he 0 7 ar) (U (e.kind=1) (fun _=>U (e.az=nn) (fun _=>U (e.tx>=0) (fun _=>U (e.tx<=5) (fun _=>jB (kE n o len T V S nn W i l e) (FK n o len T V S nn i e W l) ((.inl ⟨J,rfl,rfl⟩))) CS) CS) CS) CS)))) aA)
theorem UM(n o len:Nat)(T V S nn:Int)(W:List (List Int))(l:List Int)(hW:W.length<=1000)(hL:l.length<=1000)(hn:top<=n)(C:bz)(h:FH C (gV n o len T V S (nn+1) (W++[l]))):FW 275 [(1,(.ptr (some (270,0)))),(3,(.slice (some (274,0)) (((List.map Sl.l W)++[(Sl.own 272 l.length)]).length) (.aX ((List.map Sl.l W)++[(Sl.own 272 l.length)]).length 1))),(4,(.int .i64 ((nn+1))))] [(270,some (.cells 4 (Tr.fill (bK T V S n o len) 0 .nil) [])),(274,(some (aD eH ((List.map Sl.l W)++[(Sl.own 272 l.length)])))),(272,(some (aD aK l)))] (gV n o len T V S (nn+1) (W++[l])) C:=by
 refine⟨rfl,rfl,I5 [(272,nm (List.map aK l).flatten,(List.map aK l).flatten)] (fun k=>if k=271 then 274 else k) bx rfl (fun r q r3=>⟨(aJ.ptr (q 270 rfl)).z,(kJ (q 271 rfl) cR).z,vI,trivial⟩) (fun r q r3=>⟨rfl,oS (oT hn r3) rfl rfl (fun h=>h),rfl,oS (BM W (Sl.own 272 l.length) l r3 J ⟨jI (.head _) r3 rfl,trivial⟩) rfl rfl (fun h=>h),trivial⟩) (fun p hp=>?_),h⟩
 simp only[List.mem_cons,List.not_mem_nil,or_false] at hp
 subst hp
 obtain⟨a,b,c⟩:=rO eI (l:=l) dW 272 dW (o0:=[(270,some (.cells 4 (Tr.fill (bK T V S n o len) 0 .nil) [])),(274,(some (aD eH ((List.map Sl.l W)++[(Sl.own 272 l.length)])))),(272,(some (aD aK l)))]) (.tail _ (.tail _ (.head _)))
 exact⟨by show 270<=272;omega,a,fun q hq=>(by simp only[gV,List.mem_cons,List.not_mem_nil,or_false] at hq;rcases hq with rfl|rfl;exact(show(270:Nat)≠272 from by decide);exact(show(274:Nat)≠272 from by decide)),b,c⟩
abbrev Mu(n o len:Nat)(T V S nn:Int)(W:List (List Int))(l:List Int):bz:=fun fr s1 _=>(True/\FC (gV n o len T V S (nn+1) (W++[l])) fr s1)
theorem Yb(mc:Mc (sp []) 6 B){o len:Nat}(hn:top<=n)(hlen:len<=1000)(h0:0<=nn)(h1:nn<6)(hi:¬(i<(len:Int)))(hW:W.length<=1000)(hL:l.length<=1000)(H0:True->FSQ B v' dm (gV n o len T V S (nn+1) (W++[l]))):FSQ B v' dm (l9 n o len T V S nn W i l):=by
 exact wC mc (C:=(Mu n o len T V S nn W l)) (gj H0) 2000 (gC 2 4 (.fk .no (gB 2 3 (.ap Sl eH (List.map Sl.l W) (Sl.own 272 l.length) (gA 1 1 1 (.vl (.int .i64 (nn+1)) (gK 1 1 (fO [(1,(.ptr (some (270,0)))),(3,(.slice (some (274,0)) (((List.map Sl.l W)++[(Sl.own 272 l.length)]).length) (.aX ((List.map Sl.l W)++[(Sl.own 272 l.length)]).length 1))),(4,(.int .i64 ((nn+1))))] [(270,some (.cells 4 (Tr.fill (bK T V S n o len) 0 .nil) [])),(274,(some (aD eH ((List.map Sl.l W)++[(Sl.own 272 l.length)])))),(272,(some (aD aK l)))] (gV n o len T V S (nn+1) (W++[l])) 275)))))))) (U (i<(len:Int)) aA (fun _=>nj eH (List.map Sl.l W) (Sl.own 272 l.length) (K:=1) (gO:=24) DP NR NS (ai (wI (nn+1) J) (UM n o len T V S nn W l hW hL hn (Mu n o len T V S nn W l) (⟨trivial,rfl,rfl⟩)))))
theorem Tf(n o len:Nat)(T V S nn i:Int)(e:Ev)(hn:top<=n)(C:bz)(h:FH C (kD n o len T V S nn i ([0]) e)):FW 274 [(1,(.ptr (some (270,0)))),(3,(.slice none 0 (.known 0))),(4,(.int .i64 nn)),(5,(.slice (some (273,0)) (1) (.aX 1 1))),(6,(.int .i64 i)),(7,(.ptr (some (271,0))))] [(270,some (.cells 4 (Tr.fill (bK T V S n o len) 0 .nil) [])),(273,some (.cells 1 (Tr.fill [(.int .i64 (.ofNat 0))] 0 .nil) [])),(271,some (.cells 7 (Tr.fill (aN e) 0 .nil) []))] (kD n o len T V S nn i ([0]) e) C:=by
 refine⟨rfl,rfl,iQ (fun k=>if k=271 then 273 else if k=272 then 271 else k) bx rfl (fun r q r3=>⟨(aJ.ptr (q 270 rfl)).z,vN,vI,(kJ (q 271 rfl) cR).z,vI,(aJ.ptr (q 272 rfl)).z,trivial⟩) (fun r q r3=>⟨rfl,oS (oT hn r3) rfl rfl (fun h=>h),rfl,oS (c8.aD (enc:=aK) (l:=[0]) (fun x=>⟨rfl,rfl⟩) sS).z rfl rfl (fun h=>h),rfl,oS oE rfl rfl (fun h=>h),trivial⟩),h⟩
abbrev Mv(n o len:Nat)(T V S nn i:Int)(e:Ev):bz:=fun fr s1 _=>(True/\FC (kD n o len T V S nn i ([0]) e) fr s1)
theorem Yc(mc:Mc (sp []) 6 B){o len:Nat}(hn:top<=n)(pE:0<=e.tx)(H0:True->FSQ B v' dm (kD n o len T V S nn i ([0]) e)):FSQ B v' dm (yW n o len T V S nn i e):=by
 exact wC mc (C:=(Mv n o len T V S nn i e)) (gj H0) 2000 (gC 2 4 (.fk (gL 6 (fO [(1,(.ptr (some (270,0)))),(3,(.slice none 0 (.known 0))),(4,(.int .i64 nn)),(5,(.slice (some (273,0)) (1) (.aX 1 1))),(6,(.int .i64 i)),(7,(.ptr (some (271,0))))] [(270,some (.cells 4 (Tr.fill (bK T V S n o len) 0 .nil) [])),(273,some (.cells 1 (Tr.fill [(.int .i64 (.ofNat 0))] 0 .nil) [])),(271,some (.cells 7 (Tr.fill (aN e) 0 .nil) []))] (kD n o len T V S nn i ([0]) e) 274)) .no)) (U ((0:Int)<=e.tx) (fun _=>Tf n o len T V S nn i e hn (Mv n o len T V S nn i e) (⟨trivial,rfl,rfl⟩)) aA)
theorem Tg(n o len:Nat)(T V S nn i:Int)(e:Ev)(l:List Int)(hL:l.length<=1000)(hn:top<=n)(C:bz)(h:FH C (kD n o len T V S nn i (l++[0]) e)):FW 275 [(1,(.ptr (some (270,0)))),(3,(.slice none 0 (.known 0))),(4,(.int .i64 nn)),(5,(.slice (some (274,0)) ((l++[0]).length) (.aX (l++[0]).length 1))),(6,(.int .i64 i)),(7,(.ptr (some (272,0))))] [(270,some (.cells 4 (Tr.fill (bK T V S n o len) 0 .nil) [])),(274,(some (aD aK (l++[0])))),(272,some (.cells 7 (Tr.fill (aN e) 0 .nil) []))] (kD n o len T V S nn i (l++[0]) e) C:=by
 refine⟨rfl,rfl,iQ (fun k=>if k=271 then 274 else k) bx rfl (fun r q r3=>⟨(aJ.ptr (q 270 rfl)).z,vN,vI,(kJ (q 271 rfl) cR).z,vI,(aJ.ptr (q 272 rfl)).z,trivial⟩) (fun r q r3=>⟨rfl,oS (oT hn r3) rfl rfl (fun h=>h),rfl,oS (c8.aD (enc:=aK) (l:=(l++[0])) (fun x=>⟨rfl,rfl⟩) sS).z rfl rfl (fun h=>h),rfl,oS oE rfl rfl (fun h=>h),trivial⟩),h⟩
abbrev Mw(n o len:Nat)(T V S nn i:Int)(e:Ev)(l:List Int):bz:=fun fr s1 _=>(True/\FC (kD n o len T V S nn i (l++[0]) e) fr s1)
theorem Yd(mc:Mc (sp []) 6 B){o len:Nat}(hn:top<=n)(pE:(l.length:Int)<=e.tx)(hL:l.length<=1000)(H0:True->FSQ B v' dm (kD n o len T V S nn i (l++[0]) e)):FSQ B v' dm (kD n o len T V S nn i l e):=by
 exact wC mc (C:=(Mw n o len T V S nn i e l)) (gj H0) 2000 (gC 2 4 (.fk (gB 3 2 (.ap Int aK l 0 (gK 1 2 (fO [(1,(.ptr (some (270,0)))),(3,(.slice none 0 (.known 0))),(4,(.int .i64 nn)),(5,(.slice (some (274,0)) ((l++[0]).length) (.aX (l++[0]).length 1))),(6,(.int .i64 i)),(7,(.ptr (some (272,0))))] [(270,some (.cells 4 (Tr.fill (bK T V S n o len) 0 .nil) [])),(274,(some (aD aK (l++[0])))),(272,some (.cells 7 (Tr.fill (aN e) 0 .nil) []))] (kD n o len T V S nn i (l++[0]) e) 275)))) .no)) (U ((l.length:Int)<=e.tx) (fun _=>nj aK l 0 (K:=1) (gO:=8) (fun x=>⟨rfl,rfl⟩) CW CY (Tg n o len T V S nn i e l hL hn (Mw n o len T V S nn i e l) (⟨trivial,rfl,rfl⟩))) aA)
theorem Ti(n o len:Nat)(T V S nn i c:Int)(e:Ev)(l:List Int)(hL:l.length<=1000)(hn:top<=n)(C:bz)(h:FH C (l8 n o len T V S nn (i+1) (l.set e.tx.toNat (c+1)))):FW 273 [(1,(.ptr (some (270,0)))),(3,(.slice none 0 (.known 0))),(4,(.int .i64 nn)),(5,(.slice (some (271,0)) l.length (.aX l.length 1))),(6,(.int .i64 ((i+1))))] [(270,some (.cells 4 (Tr.fill (bK T V S n o len) 0 .nil) [])),(271,(some (aD aK (l.set e.tx.toNat (c+1)))))] (l8 n o len T V S nn (i+1) (l.set e.tx.toNat (c+1))) C:=by
 refine⟨rfl,rfl,iQ (fun k=>k) bx rfl (fun r q r3=>⟨(aJ.ptr (q 270 rfl)).z,vN,vI,(kJ (q 271 rfl) cR).z,vI,trivial⟩) (fun r q r3=>⟨rfl,oS (oT hn r3) rfl rfl (fun h=>h),rfl,oS (c8.aD (enc:=aK) (l:=(l.set e.tx.toNat (c+1))) (fun x=>⟨rfl,rfl⟩) sS).z rfl rfl (fun h=>h),trivial⟩),h⟩
abbrev Mx(n o len:Nat)(T V S nn i c:Int)(e:Ev)(l:List Int):bz:=fun fr s1 _=>(True/\FC (l8 n o len T V S nn (i+1) (l.set e.tx.toNat (c+1))) fr s1)
theorem Ye(mc:Mc (sp []) 6 B){o len:Nat}(hn:top<=n)(h0:0<=i)(hi:i<1000)(pE:0<=e.tx)(Il:¬((l.length:Int)<=e.tx))(iz:l[e.tx.toNat]? =some c)(hcc:0<=c/\c<=1000)(hL:l.length<=1000)(H0:True->FSQ B v' dm (l8 n o len T V S nn (i+1) (l.set e.tx.toNat (c+1)))):FSQ B v' dm (kD n o len T V S nn i l e):=by
 exact wC mc (C:=(Mx n o len T V S nn i c e l)) (gj H0) 2000 (gC 2 4 (.fk .no (gB 2 3 (.ix (.ld [(.int .i64 c)] (.vl (.int .i64 (c+1)) (.ix (.dj (aD aK (l.set e.tx.toNat (c+1))) (gB 1 1 (.vl (.int .i64 (i+1)) (gK 1 1 (fO [(1,(.ptr (some (270,0)))),(3,(.slice none 0 (.known 0))),(4,(.int .i64 nn)),(5,(.slice (some (271,0)) l.length (.aX l.length 1))),(6,(.int .i64 ((i+1))))] [(270,some (.cells 4 (Tr.fill (bK T V S n o len) 0 .nil) [])),(271,(some (aD aK (l.set e.tx.toNat (c+1)))))] (l8 n o len T V S nn (i+1) (l.set e.tx.toNat (c+1))) 273)))))))))))) (U ((l.length:Int)<=e.tx) aA (fun _=>aV e.tx (l.length:Int) J J (ai (bN De dW iz 0 1 rfl) (ai (wI (c+1) J) (aV e.tx (l.length:Int) J J (ai (fR De dW iz (c':=(c+1)) (r:=[(.int .i64 ((c+1)))]) 0 rfl rfl rfl) (ai cS (Ti n o len T V S nn i c e l hL hn (Mx n o len T V S nn i c e l) (⟨trivial,rfl,rfl⟩)))))))))
theorem Tj(n o len:Nat)(T V S nn i:Int)(e:Ev)(W:List (List Int))(hW:W.length<=1000)(hn:top<=n)(C:bz)(h:FH C (kE n o len T V S nn W i ([0]) e)):FW 275 [(1,(.ptr (some (270,0)))),(3,(.slice (some (271,0)) ((List.map Sl.l W).length) (.aX (List.map Sl.l W).length 1))),(4,(.int .i64 nn)),(5,(.slice (some (274,0)) (1) (.aX 1 1))),(6,(.int .i64 i)),(7,(.ptr (some (272,0))))] [(270,some (.cells 4 (Tr.fill (bK T V S n o len) 0 .nil) [])),(271,(some (aD eH (List.map Sl.l W)))),(274,some (.cells 1 (Tr.fill [(.int .i64 (.ofNat 0))] 0 .nil) [])),(272,some (.cells 7 (Tr.fill (aN e) 0 .nil) []))] (kE n o len T V S nn W i ([0]) e) C:=by
 refine⟨rfl,rfl,iQ (fun k=>if k=272 then 274 else if k=273 then 272 else k) bx rfl (fun r q r3=>⟨(aJ.ptr (q 270 rfl)).z,(kJ (q 271 rfl) cR).z,vI,(kJ (q 272 rfl) cR).z,vI,(aJ.ptr (q 273 rfl)).z,trivial⟩) (fun r q r3=>⟨rfl,oS (oT hn r3) rfl rfl (fun h=>h),rfl,oS (yy W r3 J) rfl rfl (fun h=>h),rfl,oS (c8.aD (enc:=aK) (l:=[0]) (fun x=>⟨rfl,rfl⟩) sS).z rfl rfl (fun h=>h),rfl,oS oE rfl rfl (fun h=>h),trivial⟩),h⟩
abbrev My(n o len:Nat)(T V S nn i:Int)(e:Ev)(W:List (List Int)):bz:=fun fr s1 _=>(True/\FC (kE n o len T V S nn W i ([0]) e) fr s1)
theorem Yf(mc:Mc (sp []) 6 B){o len:Nat}(hn:top<=n)(pE:0<=e.tx)(hW:W.length<=1000)(H0:True->FSQ B v' dm (kE n o len T V S nn W i ([0]) e)):FSQ B v' dm (yX n o len T V S nn W i e):=by
 exact wC mc (C:=(My n o len T V S nn i e W)) (gj H0) 2000 (gC 2 4 (.fk (gL 6 (fO [(1,(.ptr (some (270,0)))),(3,(.slice (some (271,0)) ((List.map Sl.l W).length) (.aX (List.map Sl.l W).length 1))),(4,(.int .i64 nn)),(5,(.slice (some (274,0)) (1) (.aX 1 1))),(6,(.int .i64 i)),(7,(.ptr (some (272,0))))] [(270,some (.cells 4 (Tr.fill (bK T V S n o len) 0 .nil) [])),(271,(some (aD eH (List.map Sl.l W)))),(274,some (.cells 1 (Tr.fill [(.int .i64 (.ofNat 0))] 0 .nil) [])),(272,some (.cells 7 (Tr.fill (aN e) 0 .nil) []))] (kE n o len T V S nn W i ([0]) e) 275)) .no)) (U ((0:Int)<=e.tx) (fun _=>Tj n o len T V S nn i e W hW hn (My n o len T V S nn i e W) (⟨trivial,rfl,rfl⟩)) aA)
theorem Tk(n o len:Nat)(T V S nn i:Int)(e:Ev)(W:List (List Int))(l:List Int)(hW:W.length<=1000)(hL:l.length<=1000)(hn:top<=n)(C:bz)(h:FH C (kE n o len T V S nn W i (l++[0]) e)):FW 276 [(1,(.ptr (some (270,0)))),(3,(.slice (some (271,0)) ((List.map Sl.l W).length) (.aX (List.map Sl.l W).length 1))),(4,(.int .i64 nn)),(5,(.slice (some (275,0)) ((l++[0]).length) (.aX (l++[0]).length 1))),(6,(.int .i64 i)),(7,(.ptr (some (273,0))))] [(270,some (.cells 4 (Tr.fill (bK T V S n o len) 0 .nil) [])),(271,(some (aD eH (List.map Sl.l W)))),(275,(some (aD aK (l++[0])))),(273,some (.cells 7 (Tr.fill (aN e) 0 .nil) []))] (kE n o len T V S nn W i (l++[0]) e) C:=by
 refine⟨rfl,rfl,iQ (fun k=>if k=272 then 275 else k) bx rfl (fun r q r3=>⟨(aJ.ptr (q 270 rfl)).z,(kJ (q 271 rfl) cR).z,vI,(kJ (q 272 rfl) cR).z,vI,(aJ.ptr (q 273 rfl)).z,trivial⟩) (fun r q r3=>⟨rfl,oS (oT hn r3) rfl rfl (fun h=>h),rfl,oS (yy W r3 J) rfl rfl (fun h=>h),rfl,oS (c8.aD (enc:=aK) (l:=(l++[0])) (fun x=>⟨rfl,rfl⟩) sS).z rfl rfl (fun h=>h),rfl,oS oE rfl rfl (fun h=>h),trivial⟩),h⟩
abbrev Mz(n o len:Nat)(T V S nn i:Int)(e:Ev)(W:List (List Int))(l:List Int):bz:=fun fr s1 _=>(True/\FC (kE n o len T V S nn W i (l++[0]) e) fr s1)
theorem Yg(mc:Mc (sp []) 6 B){o len:Nat}(hn:top<=n)(pE:(l.length:Int)<=e.tx)(hW:W.length<=1000)(hL:l.length<=1000)(H0:True->FSQ B v' dm (kE n o len T V S nn W i (l++[0]) e)):FSQ B v' dm (kE n o len T V S nn W i l e):=by
 exact wC mc (C:=(Mz n o len T V S nn i e W l)) (gj H0) 2000 (gC 2 4 (.fk (gB 3 2 (.ap Int aK l 0 (gK 1 2 (fO [(1,(.ptr (some (270,0)))),(3,(.slice (some (271,0)) ((List.map Sl.l W).length) (.aX (List.map Sl.l W).length 1))),(4,(.int .i64 nn)),(5,(.slice (some (275,0)) ((l++[0]).length) (.aX (l++[0]).length 1))),(6,(.int .i64 i)),(7,(.ptr (some (273,0))))] [(270,some (.cells 4 (Tr.fill (bK T V S n o len) 0 .nil) [])),(271,(some (aD eH (List.map Sl.l W)))),(275,(some (aD aK (l++[0])))),(273,some (.cells 7 (Tr.fill (aN e) 0 .nil) []))] (kE n o len T V S nn W i (l++[0]) e) 276)))) .no)) (U ((l.length:Int)<=e.tx) (fun _=>nj aK l 0 (K:=1) (gO:=8) (fun x=>⟨rfl,rfl⟩) CW CY (Tk n o len T V S nn i e W l hW hL hn (Mz n o len T V S nn i e W l) (⟨trivial,rfl,rfl⟩))) aA)
theorem Tl(n o len:Nat)(T V S nn i c:Int)(e:Ev)(W:List (List Int))(l:List Int)(hW:W.length<=1000)(hL:l.length<=1000)(hn:top<=n)(C:bz)(h:FH C (l9 n o len T V S nn W (i+1) (l.set e.tx.toNat (c+1)))):FW 274 [(1,(.ptr (some (270,0)))),(3,(.slice (some (271,0)) ((List.map Sl.l W).length) (.aX (List.map Sl.l W).length 1))),(4,(.int .i64 nn)),(5,(.slice (some (272,0)) l.length (.aX l.length 1))),(6,(.int .i64 ((i+1))))] [(270,some (.cells 4 (Tr.fill (bK T V S n o len) 0 .nil) [])),(271,(some (aD eH (List.map Sl.l W)))),(272,(some (aD aK (l.set e.tx.toNat (c+1)))))] (l9 n o len T V S nn W (i+1) (l.set e.tx.toNat (c+1))) C:=by
 refine⟨rfl,rfl,iQ (fun k=>k) bx rfl (fun r q r3=>⟨(aJ.ptr (q 270 rfl)).z,(kJ (q 271 rfl) cR).z,vI,(kJ (q 272 rfl) cR).z,vI,trivial⟩) (fun r q r3=>⟨rfl,oS (oT hn r3) rfl rfl (fun h=>h),rfl,oS (yy W r3 J) rfl rfl (fun h=>h),rfl,oS (c8.aD (enc:=aK) (l:=(l.set e.tx.toNat (c+1))) (fun x=>⟨rfl,rfl⟩) sS).z rfl rfl (fun h=>h),trivial⟩),h⟩
abbrev MA(n o len:Nat)(T V S nn i c:Int)(e:Ev)(W:List (List Int))(l:List Int):bz:=fun fr s1 _=>(True/\FC (l9 n o len T V S nn W (i+1) (l.set e.tx.toNat (c+1))) fr s1)
theorem Yh(mc:Mc (sp []) 6 B){o len:Nat}(hn:top<=n)(h0:0<=i)(hi:i<1000)(pE:0<=e.tx)(Il:¬((l.length:Int)<=e.tx))(iz:l[e.tx.toNat]? =some c)(hcc:0<=c/\c<=1000)(hW:W.length<=1000)(hL:l.length<=1000)(H0:True->FSQ B v' dm (l9 n o len T V S nn W (i+1) (l.set e.tx.toNat (c+1)))):FSQ B v' dm (kE n o len T V S nn W i l e):=by
 exact wC mc (C:=(MA n o len T V S nn i c e W l)) (gj H0) 2000 (gC 2 4 (.fk .no (gB 2 3 (.ix (.ld [(.int .i64 c)] (.vl (.int .i64 (c+1)) (.ix (.dj (aD aK (l.set e.tx.toNat (c+1))) (gB 1 1 (.vl (.int .i64 (i+1)) (gK 1 1 (fO [(1,(.ptr (some (270,0)))),(3,(.slice (some (271,0)) ((List.map Sl.l W).length) (.aX (List.map Sl.l W).length 1))),(4,(.int .i64 nn)),(5,(.slice (some (272,0)) l.length (.aX l.length 1))),(6,(.int .i64 ((i+1))))] [(270,some (.cells 4 (Tr.fill (bK T V S n o len) 0 .nil) [])),(271,(some (aD eH (List.map Sl.l W)))),(272,(some (aD aK (l.set e.tx.toNat (c+1)))))] (l9 n o len T V S nn W (i+1) (l.set e.tx.toNat (c+1))) 274)))))))))))) (U ((l.length:Int)<=e.tx) aA (fun _=>aV e.tx (l.length:Int) J J (ai (bN De dW iz 0 1 rfl) (ai (wI (c+1) J) (aV e.tx (l.length:Int) J J (ai (fR De dW iz (c':=(c+1)) (r:=[(.int .i64 ((c+1)))]) 0 rfl rfl rfl) (ai cS (Tl n o len T V S nn i c e W l hW hL hn (MA n o len T V S nn i c e W l) (⟨trivial,rfl,rfl⟩)))))))))
noncomputable def uQ(W:List (List Int)):AF:=⟨12,eS [(2,aL cO W)],69,[.code (aO Tryd.prog 12 [1,1,1,1])],[],none⟩
theorem Tm(W:List (List Int)):aD eH (W.map Sl.l)=aD cO W:=by
 have:((W.map Sl.l).map eH).flatten=(W.map cO).flatten:=by rw[List.map_map];rfl
 unfold aD;rw[this]
theorem PB(bp:Nat)(hs:bp<300):([(2,AV.slice none 0 (.known 0))].map (fun q=>some q.2)=[(2,AV.slice none 0 (.known 0))].map (fun q=>some q.2))/\(([]:List (Nat×Option aE)).map (fun q=>q.2)=([]:List (Nat×Option aE)).map (fun q=>q.2))/\fC FU 270 bp [(2,.slice none 0 (.known 0))] [] [(2,aL cO [])] [] 270/\(uQ []=uQ []/\aM [] 270=aM [] 270):=
 ⟨rfl,rfl,Gb dW dW,rfl,rfl⟩
theorem PC(N bp:Nat)(W:List (List Int))(hN:N<300)(hs:bp<300)(hW:W.length<=1000):([(2,AV.slice (some (N,0)) (List.map Sl.l W).length (.aX (List.map Sl.l W).length 1))].map (fun q=>some q.2)=[(2,AV.slice (some (N,0)) (List.map Sl.l W).length (.aX (List.map Sl.l W).length 1))].map (fun q=>some q.2))/\([(N,some (aD eH (List.map Sl.l W)))].map (fun q=>q.2)=[(N,some (aD eH (List.map Sl.l W)))].map (fun q=>q.2))/\fC FU 270 bp [(2,.slice (some (N,0)) (List.map Sl.l W).length (.aX (List.map Sl.l W).length 1))] [(N,some (aD eH (List.map Sl.l W)))] [(2,aL cO W)] [] 270/\(uQ W=uQ W/\aM [] 270=aM [] 270):=by
 refine⟨rfl,rfl,?_,rfl,rfl⟩
 rw[Tm,List.length_map]
 exact BY rB W dW dW dW dW
theorem PD(mc:Mc (sp []) 6 B):Sm B dm (aL cO W) (uQ W) (aM [] 270):=by
 exact wS mc 2000 (.rt 1 .no) (AE (aL cO W))
theorem ZP(mc:Mc (sp []) 6 B)(n o len:Nat)(T V S nn:Int)(hi:¬(nn<T/\nn<6)):FSQ B (aL cO []) dm (w8 n o len T V S nn):=by
 exact wC mc (C:=(fun fr s1 _=>fr=uQ []/\s1=aM [] 270)) (fun fr s1 p hC=>by obtain⟨rfl,rfl⟩:=hC;exact PD mc) 2000 ((fun(q1:Pl)=>(gC 2 3 (.fk (.go 2 (.fk .no (.go 1 q1))) (.go 4 q1)))) (gL 4 (.rn [(2,(.slice none 0 (.known 0)))] [] [(2,aL cO [])] [] 271 270 .no))) (U (nn<T) (fun _=>U (nn<6) aA (fun _=>PB 271 J)) (fun _=>PB 271 J))
theorem ZQ(mc:Mc (sp []) 6 B)(n o len:Nat)(T V S nn:Int)(W:List (List Int))(hi:¬(nn<T/\nn<6))(hW:W.length<=1000):FSQ B (aL cO W) dm (gV n o len T V S nn W):=by
 exact wC mc (C:=(fun fr s1 _=>fr=uQ W/\s1=aM [] 270)) (fun fr s1 p hC=>by obtain⟨rfl,rfl⟩:=hC;exact PD mc) 2000 ((fun(q1:Pl)=>(gC 2 3 (.fk (.go 2 (.fk .no (.go 1 q1))) (.go 4 q1)))) (gL 4 (.rn [(2,(.slice (some (271,0)) ((List.map Sl.l W).length) (.aX (List.map Sl.l W).length 1)))] [(271,some (aD eH (List.map Sl.l W)))] [(2,aL cO W)] [] 272 270 .no))) (U (nn<T) (fun _=>U (nn<6) aA (fun _=>PC 271 272 W J J J)) (fun _=>PC 271 272 W J J J))
abbrev PE(n o len:Nat)(T V S:Int):bz:=fun fr s1 _=>(True/\FC (w8 n o len T V S 0) fr s1)
theorem goT(mc:Mc (sp []) 6 B){o len:Nat}(H0:True->FSQ B v' dm (w8 n o len T V S 0)):bw B 12 (max Tryd.f12.ntmps 1) dm [(.agg (bK T V S n o len))] v':=by
 exact wC mc (C:=(PE n o len T V S)) (gj H0) 2000 (.st 9 (iT (w8 n o len T V S 0))) (jB (w8 n o len T V S 0) (PE n o len T V S) (⟨trivial,rfl,rfl⟩))
theorem UN(h:p.length<=k):lQ (p++[0]) k=lQ p k:=by
 unfold lQ
 rw[List.length_append,List.length_cons,List.length_nil,List.append_assoc]
 congr 1
 rw[show k+1 - p.length=(k+1 - (p.length+(0+1)))+1 by omega,List.replicate_succ];rfl
theorem Bg(h:p.length<=k):jL (p++[0]) k=jL p k:=by unfold jL;rw[UN h]
theorem UO(h:k<p.length):lQ p k=p:=by unfold lQ;rw[show k+1 - p.length=0 by omega];simp
theorem K8(h:p[k]? =some c):jL p k=p.set k (c+1):=by
 unfold jL;rw[UO (List.getElem?_eq_some_iff.1 h).1,List.getD_eq_getElem?_getD,h];rfl
theorem MB(p:List Int)(k:Nat):(lQ p k).length=max p.length (k+1):=by unfold lQ;rw[List.length_append,List.length_replicate];omega
theorem UP(p:List Int)(k:Nat):(jL p k).length=max p.length (k+1):=by unfold jL;rw[List.length_set,MB]
theorem Wa{N:Int}(hN:0<=N)(h:∀x∈p,0<=x/\x<=N):∀x∈jL p k,0<=x/\x<=N+1:=by
 have h0:∀x∈lQ p k,0<=x/\x<=N:=by
  intro x hx
  unfold lQ at hx
  rcases List.mem_append.1 hx with hx|hx
  ·exact h x hx
  ·rw[(List.mem_replicate.1 hx).2];omega
 intro x hx
 unfold jL at hx
 rcases List.mem_or_eq_of_mem_set hx with hx|hx
 ·have:=h0 x hx;omega
 ·have hk:k<(lQ p k).length:=by rw[MB];omega
  have:=h0 ((lQ p k)[k]) (List.getElem_mem hk)
  rw[List.getD_eq_getElem?_getD,List.getElem?_eq_getElem hk] at hx
  rw[hx];show 0<=(lQ p k)[k]+1/\(lQ p k)[k]+1<=N+1;omega
theorem sj:∀(h:List Ev) (th:Int),(dz h th).length<=6/\∀x∈dz h th,0<=x/\x<=(h.length:Int)
  |[],_=>⟨Nat.zero_le _,fun x hx=>by cases hx⟩
  | e ::h,th=>by
    obtain⟨a,b⟩:=sj h th
    unfold dz DQ
    rw[List.length_cons]
    split
    · rename_i q
      exact⟨by rw[UP];omega,fun x hx=>by have:=Wa (Int.natCast_nonneg _) b x hx;omega⟩
    · exact⟨a,fun x hx=>by have:=b x hx;omega⟩
theorem B2(q:e.kind=1/\e.az=th/\0<=e.tx/\e.tx<=5):dz (e::h) th=jL (dz h th) e.tx.toNat:=if_pos q
theorem Cv(q:¬(e.kind=1/\e.az=th/\0<=e.tx/\e.tx<=5)):dz (e::h) th=dz h th:=if_neg q
def cE(l:List Ev)(T:Int):List (List Int):=(List.range (min T.toNat 6)).map fun n:Nat=>dz l.reverse (n:Int)
theorem ZR(mc:Mc (sp []) 6 B){o len:Nat}{l:List Ev}(h:bt aN 7 (.ae n o len) l)(hlen:len<=999):bw B 12 (max Tryd.f12.ntmps 1) dm [(.agg (bK T V S n o len))] (aL cO (cE l T)):=by
  obtain⟨dS,hn,cF⟩:=h.len
  have hlen:len<=1000:=by omega
  have abc:∀(nn:Nat) (W:List (List Int)),nn<6->W.length<=999->FSQ B (aL cO (cE l T)) dm (gV n o len T V S ((nn:Int)+1) (W++[dz l.reverse (nn:Int)]))->FSQ B (aL cO (cE l T)) dm (mM n o len T V S (nn:Int) W (0:Int)):=by
    intro nn W hn6 hW HO
    have jn:∀(k:Nat) (e:Ev),k<len->e.kind=1/\e.az=(nn:Int)/\0<=e.tx/\e.tx<=5->∀m:Nat,∀p:List Int,e.tx.toNat+1 - p.length=m->p.length<=7->(∀x∈p,0<=x/\x<=999)->FSQ B (aL cO (cE l T)) dm (l9 n o len T V S (nn:Int) W ((k:Int)+1) (jL p e.tx.toNat))->FSQ B (aL cO (cE l T)) dm (kE n o len T V S (nn:Int) W (k:Int) p e):=by
      intro k e hk he m
      induction m with
      | zero=>
        intro p hp Jb hb H
        obtain⟨c,iz⟩:∃c,p[e.tx.toNat]? =some c:=⟨_,List.getElem?_eq_getElem J⟩
        have Jc:=hb c (List.mem_of_getElem? iz)
        rw[K8 iz] at H
        exact Yh mc hn J J J J iz J J J (fun _=>H)
      | succ m ih=>
        intro p hp Jb hb H
        refine Yg mc hn J J J (fun _=>?_)
        refine ih (p++[0]) C4 C4 (fun x hx=>?_) (by rw[Bg J];exact H)
        rcases List.mem_append.1 hx with hx|hx
        · exact hb x hx
        · simp only[List.mem_cons,List.not_mem_nil,or_false] at hx;omega
    have m1:∀m k:Nat,k+m=len->FSQ B (aL cO (cE l T)) dm (l9 n o len T V S (nn:Int) W (k:Int) (dz (l.take k).reverse (nn:Int))):=by
      intro m
      induction m with
      | zero=>
        intro k hk
        have hb:=(sj (l.take k).reverse nn).1
        rw[show dz (l.take k).reverse nn=dz l.reverse nn by rw[List.take_of_length_le J]] at hb ⊢
        exact Yb mc hn hlen J J J J J (fun _=>HO)
      | succ m ih=>
        intro k hk
        obtain⟨e,he⟩:∃e,l[k]? =some e:=⟨_,List.getElem?_eq_getElem J⟩
        have e1:(l.take (k+1)).reverse=e::(l.take k).reverse:=by rw[List.take_add_one,he];simp
        have e2:((k:Int)+1)=((k+1:Nat):Int):=by omega
        obtain⟨b1,b2⟩:=sj (l.take k).reverse nn
        rw[List.length_reverse,List.length_take] at b2
        have H:=ih (k+1) J
        rw[e1] at H
        refine Ya (e:=e) mc hn hlen J J qa J J (fun q=>?_) (fun q=>?_)
        · refine jn k e J q _ _ rfl J (fun x hx=>by have:=b2 x hx;omega) ?_
          rw[e2, ←B2 q];exact H
        · rw[e2];rw[Cv q] at H;exact H
    have m0:∀m k:Nat,k+m=len->dz (l.take k).reverse nn=[]->FSQ B (aL cO (cE l T)) dm (mM n o len T V S (nn:Int) W (k:Int)):=by
      intro m
      induction m with
      | zero=>
        intro k hk hw
        rw[List.take_of_length_le J] at hw
        rw[hw] at HO
        exact X9 mc hn hlen J J J J (fun _=>HO)
      | succ m ih=>
        intro k hk hw
        obtain⟨e,he⟩:∃e,l[k]? =some e:=⟨_,List.getElem?_eq_getElem J⟩
        have e1:(l.take (k+1)).reverse=e::(l.take k).reverse:=by rw[List.take_add_one,he];simp
        have e2:((k:Int)+1)=((k+1:Nat):Int):=by omega
        refine X8 (e:=e) mc hn hlen J J qa J (fun q=>?_) (fun q=>?_)
        · refine Yf mc hn J J (fun _=>?_)
          refine jn k e J q _ [0] rfl ar (fun x hx=>by simp only[List.mem_cons,List.not_mem_nil,or_false] at hx;omega) ?_
          have H:=m1 m (k+1) J
          rw[e1,B2 q,hw, ←Bg (p:=[]) (Nat.zero_le _)] at H
          rw[e2];exact H
        · rw[e2];exact ih (k+1) J (by rw[e1,Cv q];exact hw)
    exact m0 len 0 J rfl
  have abd:∀(nn:Nat),nn<6->FSQ B (aL cO (cE l T)) dm (gV n o len T V S ((nn:Int)+1) ([dz l.reverse (nn:Int)]))->FSQ B (aL cO (cE l T)) dm (mL n o len T V S (nn:Int) (0:Int)):=by
    intro nn hn6 HO
    have jn:∀(k:Nat) (e:Ev),k<len->e.kind=1/\e.az=(nn:Int)/\0<=e.tx/\e.tx<=5->∀m:Nat,∀p:List Int,e.tx.toNat+1 - p.length=m->p.length<=7->(∀x∈p,0<=x/\x<=999)->FSQ B (aL cO (cE l T)) dm (l8 n o len T V S (nn:Int) ((k:Int)+1) (jL p e.tx.toNat))->FSQ B (aL cO (cE l T)) dm (kD n o len T V S (nn:Int) (k:Int) p e):=by
      intro k e hk he m
      induction m with
      | zero=>
        intro p hp Jb hb H
        obtain⟨c,iz⟩:∃c,p[e.tx.toNat]? =some c:=⟨_,List.getElem?_eq_getElem J⟩
        have Jc:=hb c (List.mem_of_getElem? iz)
        rw[K8 iz] at H
        exact Ye mc hn J J J J iz J J (fun _=>H)
      | succ m ih=>
        intro p hp Jb hb H
        refine Yd mc hn J J (fun _=>?_)
        refine ih (p++[0]) C4 C4 (fun x hx=>?_) (by rw[Bg J];exact H)
        rcases List.mem_append.1 hx with hx|hx
        · exact hb x hx
        · simp only[List.mem_cons,List.not_mem_nil,or_false] at hx;omega
    have m1:∀m k:Nat,k+m=len->FSQ B (aL cO (cE l T)) dm (l8 n o len T V S (nn:Int) (k:Int) (dz (l.take k).reverse (nn:Int))):=by
      intro m
      induction m with
      | zero=>
        intro k hk
        have hb:=(sj (l.take k).reverse nn).1
        rw[show dz (l.take k).reverse nn=dz l.reverse nn by rw[List.take_of_length_le J]] at hb ⊢
        exact X7 mc hn hlen J J J J (fun _=>HO)
      | succ m ih=>
        intro k hk
        obtain⟨e,he⟩:∃e,l[k]? =some e:=⟨_,List.getElem?_eq_getElem J⟩
        have e1:(l.take (k+1)).reverse=e::(l.take k).reverse:=by rw[List.take_add_one,he];simp
        have e2:((k:Int)+1)=((k+1:Nat):Int):=by omega
        obtain⟨b1,b2⟩:=sj (l.take k).reverse nn
        rw[List.length_reverse,List.length_take] at b2
        have H:=ih (k+1) J
        rw[e1] at H
        refine X6 (e:=e) mc hn hlen J J qa J (fun q=>?_) (fun q=>?_)
        · refine jn k e J q _ _ rfl J (fun x hx=>by have:=b2 x hx;omega) ?_
          rw[e2, ←B2 q];exact H
        · rw[e2];rw[Cv q] at H;exact H
    have m0:∀m k:Nat,k+m=len->dz (l.take k).reverse nn=[]->FSQ B (aL cO (cE l T)) dm (mL n o len T V S (nn:Int) (k:Int)):=by
      intro m
      induction m with
      | zero=>
        intro k hk hw
        rw[List.take_of_length_le J] at hw
        rw[hw] at HO
        exact X5 mc hn hlen J J J (fun _=>HO)
      | succ m ih=>
        intro k hk hw
        obtain⟨e,he⟩:∃e,l[k]? =some e:=⟨_,List.getElem?_eq_getElem J⟩
        have e1:(l.take (k+1)).reverse=e::(l.take k).reverse:=by rw[List.take_add_one,he];simp
        have e2:((k:Int)+1)=((k+1:Nat):Int):=by omega
        refine X4 (e:=e) mc hn hlen J J qa (fun q=>?_) (fun q=>?_)
        · refine Yc mc hn J (fun _=>?_)
          refine jn k e J q _ [0] rfl ar (fun x hx=>by simp only[List.mem_cons,List.not_mem_nil,or_false] at hx;omega) ?_
          have H:=m1 m (k+1) J
          rw[e1,B2 q,hw, ←Bg (p:=[]) (Nat.zero_le _)] at H
          rw[e2];exact H
        · rw[e2];exact ih (k+1) J (by rw[e1,Cv q];exact hw)
    exact m0 len 0 J rfl
  have key:∀m k:Nat,k+m=min T.toNat 6->FSQ B (aL cO (cE l T)) dm (gV n o len T V S (k:Int) ((List.range k).map fun n:Nat=>dz l.reverse (n:Int))):=by
    intro m
    induction m with
    | zero=>
      intro k hk
      have:=ZQ mc n o len T V S k ((List.range k).map fun n:Nat=>dz l.reverse (n:Int)) J (by rw[List.length_map,List.length_range];omega)
      rw[show cE l T=(List.range k).map fun n:Nat=>dz l.reverse (n:Int) by unfold cE;rw[show min T.toNat 6=k by omega]]
      exact this
    | succ m ih=>
      intro k hk
      have hW:((List.range k).map fun n:Nat=>dz l.reverse (n:Int)).length<=999:=by rw[List.length_map,List.length_range];omega
      refine ZO mc J J J J (fun _=>abc k _ J hW ?_)
      have H:=ih (k+1) J
      rw[List.range_succ,List.map_append] at H
      rw[show((k:Int)+1)=((k+1:Nat):Int) by omega];exact H
  refine goT mc (fun _=>?_)
  by_cases hT:0<T
  · refine ZN mc J J J (fun _=>abd 0 J ?_)
    exact key (min T.toNat 6 - 1) 1 J
  · have:=ZP mc n o len T V S 0 J
    rw[show cE l T=[] by unfold cE;rw[show min T.toNat 6=0 by omega];rfl]
    exact this
noncomputable def j8(l:List Ev)(T _ _:Int):AV:=aL cO (cE l T)
noncomputable def Ia:FuncId×(List AV->Option AV):=(12,aY (RT j8 999))
theorem MC(hP:fa Tryd.prog){L:gn}(h:cC Tryd.prog FU (sp L)):cC Tryd.prog FU (sp (Ia::L)):=by
 refine fJ.add hP h fJ.gr Tryd.func12 (fQ Tryd.func12 bx) bx fun args v e=>?_
 obtain⟨n,o,len,l,T,V,S,rfl,a,b,c,rfl⟩:=je e
 exact⟨bH.1 bx,fun B hB hc hl=>ZR ⟨hB,hc,hl⟩ a c⟩
end kz
end
section
open Go Go.Rn Go.RowKit Go.Proofs
namespace xX
open cd cj cv cD mz cH cI cN fx gk eP pB oo fy fm fA pC kz
variable {tr:List (List Int)} {p n m lo:Nat} {V T S nn oe eq cm:Int} {B:aZ} {v':AV} {tn ov ot:List Int} {A:bQ}
noncomputable abbrev nT(l:List (List Int)):Nat:=nm (l.map cO).flatten
noncomputable abbrev AN:gn:=[Pg,Ia,Pd,si,HE,HD]
theorem DR(b:Bool){v:AV}(h:v= .bool b):AV.bool b=v:=h.symm
noncomputable def kQ(n o len:Nat)(T V S:Int)(m p lo:Nat)(tr:List (List Int))(nn:Int):Fm:=⟨10,[(1,(.ae m p lo)),(2,(.ptr (some (270,0)))),(7,(.ae (nT tr) 0 tr.length)),(8,(.int .i64 nn))],133,[.code (aO Tryd.prog 10 [1,1,1,1,0,1,0,0]),.inLoop (aO Tryd.prog 10 [1,1,1,1,0,1,0,0]),.inBlock 0,.code (aO Tryd.prog 10 [1,1,1,1,1])],[(270,some (.cells 4 (Tr.fill (bK T V S n o len) 0 .nil) []))],271⟩
theorem Nn(n o len m p lo:Nat)(T V S nn:Int)(tr:List (List Int))(hm:top<=m)(hn:top<=n)(C:bz)(h:FH C (kQ n o len T V S m p lo tr (nn+1))):FW 273 [(1,(.ae m p lo)),(2,(.ptr (some (270,0)))),(7,(.ae (nT tr) 0 tr.length)),(8,(.int .i64 ((nn+1))))] [(270,some (.cells 4 (Tr.fill (bK T V S n o len) 0 .nil) []))] (kQ n o len T V S m p lo tr (nn+1)) C:=by
 refine⟨rfl,rfl,iQ (fun k=>k) bx rfl (fun r q r3=>⟨(mK hm r3),(aJ.ptr (q 270 rfl)).z,FJ r3,vI,trivial⟩) (fun r q r3=>⟨rfl,oS (oT hn r3) rfl rfl (fun h=>h),trivial⟩),h⟩
abbrev No(n o len m p lo:Nat)(T V S nn op eq cm oe:Int)(A:bQ)(tr:List (List Int))(ov ot:List Int):bz:=fun fr s1 _=>((eq=1/\(ov.length:Int)=cm/\(oe=41/\op≠1/\A.ab=6\/oe≠41/\(op=1\/A.ab≠6))/\(oe=0\/oe=41\/oe=42)/\(oe≠42\/op≠1/\(ot.length:Int)=(ov.length:Int)+1))/\FC (kQ n o len T V S m p lo tr (nn+1)) fr s1)
theorem ZS(mc:Mc (sp AN) 6 B){o len:Nat}{op:Int}(hn:top<=n)(hm:top<=m)(eY:lo<=1000)(ko:(lo:Int)<=(tr.length:Int))(h0:0<=nn)(hi:nn<(lo:Int))(jD:cm<=1000)(ho:bM FU m (p+nn.toNat*4) 4=some [(.ae (nI ov) 0 ov.length),(.ae (nI ot) 0 ot.length),(.int .i64 oe),(.bool false)])(xC:bj (aY (RE zQ)) [.ae n o len,.int .i64 nn,.int .i64 S]=some (.bool (decide (op=1))))(cG:bj (aY (RE hU)) [.ae n o len,.int .i64 nn,.int .i64 S]=some (.agg (cq A)))(mn:bj (aY (RE uK)) [.ae n o len,.int .i64 nn,.int .i64 S]=some (.int .i64 cm))(kh:bj (aY (R2 aK 1 jc)) [aL aK tn,aL aK ot]=some (.bool (decide (eq=1))))(iM:bM FU (nT tr) (0+nn.toNat*1) 1=some [aL aK tn])(hF:¬(eq=1/\(ov.length:Int)=cm/\(oe=41/\op≠1/\A.ab=6\/oe≠41/\(op=1\/A.ab≠6))/\(oe=0\/oe=41\/oe=42)/\(oe≠42\/op≠1/\(ot.length:Int)=(ov.length:Int)+1))->v'= .bool false)(H0:(eq=1/\(ov.length:Int)=cm/\(oe=41/\op≠1/\A.ab=6\/oe≠41/\(op=1\/A.ab≠6))/\(oe=0\/oe=41\/oe=42)/\(oe≠42\/op≠1/\(ot.length:Int)=(ov.length:Int)+1))->FSQ B v' qc (kQ n o len T V S m p lo tr (nn+1))):FSQ B v' qc (kQ n o len T V S m p lo tr nn):=by
 have f1:=fun h=>Nn n o len m p lo T V S nn tr hm hn (No n o len m p lo T V S nn op eq cm oe A tr ov ot) (⟨h,rfl,rfl⟩)
 have f2:=fun h=>DR false (hF h)
 have f3:=fun h=>wI (nn+1) h
 have f4:=fun h=>wI ((ov.length:Int)+1) h
 exact wC mc (C:=(No n o len m p lo T V S nn op eq cm oe A tr ov ot)) (gj H0) 2000 ((fun(q1:Pl)=>((fun(q2:Pl)=>((fun(q3:Pl)=>((fun(q4:Pl)=>((fun(q5:Pl)=>(gC 2 3 (.fk (gB 5 2 (.bI (.bJ [(.ae (nI ov) 0 ov.length),(.ae (nI ot) 0 ot.length),(.int .i64 oe),(.bool false)] (gA 2 1 5 (.kp (op=1) inferInstance (gA 1 1 5 (.kn (.agg [(.ae (nE A.L) 0 A.L.length),(.int .i64 A.rv),(.int .i64 A.wv),(.ae (nI A.read) 0 A.read.length),(.ae (nI A.ao) 0 A.ao.length),(.ae (nI A.ax) 0 A.ax.length),(.int .i64 A.checked),(.ae (nI A.aC) 0 A.aC.length),(.int .u8 A.ab),(.int .u8 A.last)]) (gA 2 4 2 (.bI (.bJ [(.ae (nI tn) 0 tn.length)] (.go 2 (.kp (eq=1) inferInstance (.go 10 (.kn (.int .i64 cm) (.fk (.go 8 q1) (.go 4 (.fk (.go 3 q1) (gA 3 4 2 (.fk (.go 3 (.fk (.go 4 (.fk (.go 1 q1) (.go 1 q3))) (.go 6 q3))) (.go 10 q3)))))))) (.go 20 q1)))))))) (gA 1 1 5 (.kn (.agg [(.ae (nE A.L) 0 A.L.length),(.int .i64 A.rv),(.int .i64 A.wv),(.ae (nI A.read) 0 A.read.length),(.ae (nI A.ao) 0 A.ao.length),(.ae (nI A.ax) 0 A.ax.length),(.int .i64 A.checked),(.ae (nI A.aC) 0 A.aC.length),(.int .u8 A.ab),(.int .u8 A.last)]) (gA 2 1 5 (.fk (gA 2 2 2 (.bI (.bJ [(.ae (nI tn) 0 tn.length)] (.go 2 (.kp (eq=1) inferInstance (.go 10 (.kn (.int .i64 cm) (.fk (.go 8 q1) (.go 4 (.fk q5 (.go 3 q1)))))) (.go 20 q1)))))) (gA 2 2 2 (.bI (.bJ [(.ae (nI tn) 0 tn.length)] (.go 2 (.kp (eq=1) inferInstance (.go 10 (.kn (.int .i64 cm) (.fk (.go 8 q1) (.go 4 (.fk (.go 3 q1) q5))))) (.go 20 q1))))))))))))))) .no))) (gA 3 4 2 (.fk (.go 3 (.fk (.go 4 (.fk (.go 1 q1) (.go 1 q4))) (.go 6 q4))) (.go 10 q4))))) (gB 4 2 (.fk (.go 9 (.vl (.int .i64 ((ov.length:Int)+1)) (.fk (.go 2 q1) (.go 2 q2)))) (.go 13 q2))))) (gB 4 2 (.fk (.go 13 q1) (.go 13 q2))))) (gB 7 1 (.vl (.int .i64 (nn+1)) (gK 1 1 (fO [(1,(.ae m p lo)),(2,(.ptr (some (270,0)))),(7,(.ae (nT tr) 0 tr.length)),(8,(.int .i64 ((nn+1))))] [(270,some (.cells 4 (Tr.fill (bK T V S n o len) 0 .nil) []))] (kQ n o len T V S m p lo tr (nn+1)) 273)))))) (gG 4)) (U (nn<(lo:Int)) (fun _=>aV nn (lo:Int) J J (ai hm (ai ho (ai xC (U (op=1) (fun _=>ai cG (aV nn (tr.length:Int) J J (ai (dB (tr.map cO).flatten) (ai iM (ai kh (U (eq=1) (fun _=>ai mn (U ((ov.length:Int)≠cm) dh (fun _=>U (oe=41) dh (fun _=>U (oe≠0) (fun _=>U (oe≠41) (fun _=>U (oe≠42) dh GB) GB) GB)))) dh)))))) (fun _=>ai cG (U (A.ab=6) (fun _=>aV nn (tr.length:Int) J J (ai (dB (tr.map cO).flatten) (ai iM (ai kh (U (eq=1) (fun _=>ai mn (U ((ov.length:Int)≠cm) dh (fun _=>U (oe=41) NW dh))) dh))))) (fun _=>aV nn (tr.length:Int) J J (ai (dB (tr.map cO).flatten) (ai iM (ai kh (U (eq=1) (fun _=>ai mn (U ((ov.length:Int)≠cm) dh (fun _=>U (oe=41) dh NW))) dh)))))))))))) aA)
abbrev Np(n o len m p lo:Nat)(T V S nn op eq cm oe:Int)(A:bQ)(tr:List (List Int))(ov ot:List Int):bz:=fun fr s1 _=>((eq=1/\(ov.length:Int)=cm/\(oe=41/\op≠1/\A.ab=6\/oe≠41/\(op=1\/A.ab≠6))/\(oe=0\/oe=41\/oe=42)/\(oe≠42\/op≠1/\(ot.length:Int)=(ov.length:Int)+1)/\op≠1/\oe=0/\ot.length=ov.length)/\FC (kQ n o len T V S m p lo tr (nn+1)) fr s1)
theorem ZT(mc:Mc (sp AN) 6 B){o len:Nat}{op:Int}(hn:top<=n)(hm:top<=m)(eY:lo<=1000)(ko:(lo:Int)<=(tr.length:Int))(h0:0<=nn)(hi:nn<(lo:Int))(jD:cm<=1000)(ho:bM FU m (p+nn.toNat*4) 4=some [(.ae (nI ov) 0 ov.length),(.ae (nI ot) 0 ot.length),(.int .i64 oe),(.bool true)])(xC:bj (aY (RE zQ)) [.ae n o len,.int .i64 nn,.int .i64 S]=some (.bool (decide (op=1))))(cG:bj (aY (RE hU)) [.ae n o len,.int .i64 nn,.int .i64 S]=some (.agg (cq A)))(mn:bj (aY (RE uK)) [.ae n o len,.int .i64 nn,.int .i64 S]=some (.int .i64 cm))(kh:bj (aY (R2 aK 1 jc)) [aL aK tn,aL aK ot]=some (.bool (decide (eq=1))))(iM:bM FU (nT tr) (0+nn.toNat*1) 1=some [aL aK tn])(hF:¬(eq=1/\(ov.length:Int)=cm/\(oe=41/\op≠1/\A.ab=6\/oe≠41/\(op=1\/A.ab≠6))/\(oe=0\/oe=41\/oe=42)/\(oe≠42\/op≠1/\(ot.length:Int)=(ov.length:Int)+1)/\op≠1/\oe=0/\ot.length=ov.length)->v'= .bool false)(H0:(eq=1/\(ov.length:Int)=cm/\(oe=41/\op≠1/\A.ab=6\/oe≠41/\(op=1\/A.ab≠6))/\(oe=0\/oe=41\/oe=42)/\(oe≠42\/op≠1/\(ot.length:Int)=(ov.length:Int)+1)/\op≠1/\oe=0/\ot.length=ov.length)->FSQ B v' qc (kQ n o len T V S m p lo tr (nn+1))):FSQ B v' qc (kQ n o len T V S m p lo tr nn):=by
 have f1:=fun h=>Nn n o len m p lo T V S nn tr hm hn (Np n o len m p lo T V S nn op eq cm oe A tr ov ot) (⟨h,rfl,rfl⟩)
 have f2:=fun h=>DR false (hF h)
 have f3:=fun h=>wI (nn+1) h
 have f4:=fun h=>wI ((ov.length:Int)+1) h
 exact wC mc (C:=(Np n o len m p lo T V S nn op eq cm oe A tr ov ot)) (gj H0) 2000 ((fun(q1:Pl)=>((fun(q2:Pl)=>((fun(q3:Pl)=>((fun(q4:Pl)=>((fun(q5:Pl)=>(gC 2 3 (.fk (gB 5 2 (.bI (.bJ [(.ae (nI ov) 0 ov.length),(.ae (nI ot) 0 ot.length),(.int .i64 oe),(.bool true)] (gA 2 1 5 (.kp (op=1) inferInstance (gA 1 1 5 (.kn (.agg [(.ae (nE A.L) 0 A.L.length),(.int .i64 A.rv),(.int .i64 A.wv),(.ae (nI A.read) 0 A.read.length),(.ae (nI A.ao) 0 A.ao.length),(.ae (nI A.ax) 0 A.ax.length),(.int .i64 A.checked),(.ae (nI A.aC) 0 A.aC.length),(.int .u8 A.ab),(.int .u8 A.last)]) (gA 2 4 2 (.bI (.bJ [(.ae (nI tn) 0 tn.length)] (.go 2 (.kp (eq=1) inferInstance (.go 10 (.kn (.int .i64 cm) (.fk (.go 8 q1) (.go 4 (.fk (.go 3 q1) (gA 3 4 2 (.fk (.go 3 (.fk (.go 4 (.fk (.go 1 q1) (.go 1 q2))) (.go 6 q2))) (.go 10 q2)))))))) (.go 20 q1)))))))) (gA 1 1 5 (.kn (.agg [(.ae (nE A.L) 0 A.L.length),(.int .i64 A.rv),(.int .i64 A.wv),(.ae (nI A.read) 0 A.read.length),(.ae (nI A.ao) 0 A.ao.length),(.ae (nI A.ax) 0 A.ax.length),(.int .i64 A.checked),(.ae (nI A.aC) 0 A.aC.length),(.int .u8 A.ab),(.int .u8 A.last)]) (gA 2 1 5 (.fk (gA 2 2 2 (.bI (.bJ [(.ae (nI tn) 0 tn.length)] (.go 2 (.kp (eq=1) inferInstance (.go 10 (.kn (.int .i64 cm) (.fk (.go 8 q1) (.go 4 (.fk q5 (.go 3 q1)))))) (.go 20 q1)))))) (gA 2 2 2 (.bI (.bJ [(.ae (nI tn) 0 tn.length)] (.go 2 (.kp (eq=1) inferInstance (.go 10 (.kn (.int .i64 cm) (.fk (.go 8 q1) (.go 4 (.fk (.go 3 q1) q5))))) (.go 20 q1))))))))))))))) .no))) (gA 3 4 2 (.fk (.go 3 (.fk (.go 4 (.fk (.go 1 q1) (.go 1 q4))) (.go 6 q4))) (.go 10 q4))))) (gB 4 2 (.fk (.go 9 (.vl (.int .i64 ((ov.length:Int)+1)) (.fk (.go 2 q1) (.go 2 q3)))) (.go 13 q3))))) (gB 3 7 (.fk (.go 11 q1) (.go 8 (.fk (.go 2 q1) (gA 2 3 1 (.vl (.int .i64 (nn+1)) (gK 1 1 (fO [(1,(.ae m p lo)),(2,(.ptr (some (270,0)))),(7,(.ae (nT tr) 0 tr.length)),(8,(.int .i64 ((nn+1))))] [(270,some (.cells 4 (Tr.fill (bK T V S n o len) 0 .nil) []))] (kQ n o len T V S m p lo tr (nn+1)) 273)))))))))) (gB 4 2 (.fk (.go 13 q1) (gF 13 8))))) (gG 4)) (U (nn<(lo:Int)) (fun _=>aV nn (lo:Int) J J (ai hm (ai ho (ai xC (U (op=1) (fun _=>ai cG (aV nn (tr.length:Int) J J (ai (dB (tr.map cO).flatten) (ai iM (ai kh (U (eq=1) (fun _=>ai mn (U ((ov.length:Int)≠cm) dh (fun _=>U (oe=41) dh (fun _=>U (oe≠0) (fun _=>U (oe≠41) (fun _=>U (oe≠42) dh (fun _=>U (oe=42) dh dh)) (fun _=>U (oe=42) dh dh)) (fun _=>U (oe=42) dh dh))))) dh)))))) (fun _=>ai cG (U (A.ab=6) (fun _=>aV nn (tr.length:Int) J J (ai (dB (tr.map cO).flatten) (ai iM (ai kh (U (eq=1) (fun _=>ai mn (U ((ov.length:Int)≠cm) dh (fun _=>U (oe=41) NX dh))) dh))))) (fun _=>aV nn (tr.length:Int) J J (ai (dB (tr.map cO).flatten) (ai iM (ai kh (U (eq=1) (fun _=>ai mn (U ((ov.length:Int)≠cm) dh (fun _=>U (oe=41) dh NX))) dh)))))))))))) aA)
theorem abe(mc:Mc (sp AN) 6 B){o len:Nat}(hi:¬(nn<(lo:Int))):FSQ B (.bool true) qc (kQ n o len T V S m p lo tr nn):=by
 exact wS mc 2000 (gC 2 3 (.fk .no (gG 5))) (U (nn<(lo:Int)) aA (fun _=>AB true))
abbrev Of(n o len m p lo:Nat)(T V S ce:Int)(tr:List (List Int)):bz:=fun fr s1 _=>((ce=0/\(lo:Int)=T)/\FC (kQ n o len T V S m p lo tr 0) fr s1)
theorem abf(mc:Mc (sp AN) 6 B){o len:Nat}{cn ce:Int}(hn:top<=n)(hm:top<=m)(Df:bj (aY zS) [.agg [.int .i64 T,.int .i64 V,.int .i64 S,.ae n o len]]=some (.tuple [.int .i64 cn,.int .i64 ce]))(zY:bj (aY (RT j8 999)) [.agg [.int .i64 T,.int .i64 V,.int .i64 S,.ae n o len]]=some (aL cO tr))(hF:¬(ce=0/\(lo:Int)=T)->v'= .bool false)(H0:(ce=0/\(lo:Int)=T)->FSQ B v' qc (kQ n o len T V S m p lo tr 0)):bw B 10 (max Tryd.f10.ntmps 2) qc [(.agg (bK T V S n o len)),(.ae m p lo)] v':=by
 exact wC mc (C:=(Of n o len m p lo T V S ce tr)) (gj H0) 2000 (gC 3 1 (.kn (.tuple [(.int .i64 cn),(.int .i64 ce)]) (gA 5 2 1 (.fk (gF 7 4) (.go 5 (.fk (gF 1 4) (gA 1 3 1 (.kn (.ae (nT tr) 0 tr.length) (gK 1 5 (iT (kQ n o len T V S m p lo tr 0))))))))))) (ai Df (U (ce≠0) (fun _=>DR false (hF J)) (fun _=>U ((lo:Int)≠T) (fun _=>DR false (hF J)) (fun _=>ai zY (jB (kQ n o len T V S m p lo tr 0) (Of n o len m p lo T V S ce tr) (⟨J,rfl,rfl⟩))))))
end xX
end
section
open Go Go.Rn Go.RowKit Go.Proofs
namespace xD
open cd cj cv cD mz cH cI cN fx gk eP pB oo fy fm fA pC kz xX
variable {l:List Ev} {p n m lo:Nat} {S:Int}
structure Out where
 values:List Int
 tries:List Int
 e:Int
 done:Bool
noncomputable def kR(o:Out):List AV:=[aL aK o.values,aL aK o.tries,.int .i64 o.e,.bool o.done]
theorem eO:lv 4 kR:=⟨fun _=>rfl,fun x=>by show([aL aK x.values,aL aK x.tries,.int .i64 x.e,.bool x.done].all AV.ct&&[aL aK x.values,aL aK x.tries,.int .i64 x.e,.bool x.done].all AV.gN)=true;simp only[List.all_cons,List.all_nil,FQ];rfl⟩
theorem LC(x y:Out)(h:kR x=kR y):x=y:=by
 obtain⟨a,b,c,d⟩:=x
 obtain⟨a',b',c',d'⟩:=y
 simp only[kR,List.cons.injEq,AV.int.injEq,AV.bool.injEq,true_and,_root_.and_true] at h
 obtain⟨h1,h2,rfl,rfl⟩:=h
 rw[(bt.aL eI a).inj pJ (by rw[h1];exact bt.aL eI a'),(bt.aL eI b).inj pJ (by rw[h2];exact bt.aL eI b')]
def o3(l:List Ev)(S:Int)(n:Nat)(tn:List Int)(o:Out):Prop:=
  tn=o.tries/\(o.values.length:Int)=bZ l.reverse n S/\(o.e=41/\aS (aG l.reverse n S)/\(aG l.reverse n S).ab=6\/o.e≠41/\¬(aS (aG l.reverse n S)/\(aG l.reverse n S).ab=6))/\(o.e=0\/o.e=41\/o.e=42)/\
    (o.e≠42\/aS (aG l.reverse n S)/\o.tries.length=o.values.length+1)/\(o.done=false\/aS (aG l.reverse n S)/\o.e=0/\o.tries.length=o.values.length)
def lp(l:List Ev)(T V S:Int)(os:List Out):Prop:=iq T V S/\Valid l.reverse T V S/\(os.length:Int)=T/\∀(n:Nat) (o:Out) (tn:List Int),os[n]? =some o->(cE l T)[n]? =some tn->o3 l S n tn o
theorem F5(l:List Ev)(T V S:Int):∃cn ce,nW l T V S= .tuple [.int .i64 cn,.int .i64 ce]/\(ce=0↔iq T V S/\Valid l.reverse T V S):=by
 unfold nW
 by_cases h:iq T V S
 ·rw[if_pos h]
  refine⟨_,_,rfl,?_⟩
  by_cases q:Valid l.reverse T V S
  ·rw[if_pos q];exact⟨fun _=>⟨h,q⟩,fun _=>rfl⟩
  ·rw[if_neg q];exact⟨fun z=>absurd z ar,fun z=>absurd z.2 q⟩
 ·rw[if_neg h]
  exact⟨_,_,rfl,fun z=>absurd z ar,fun z=>absurd z.1 h⟩
theorem rZ{P Q:Prop} [Decidable P] [Decidable Q](h:P↔Q):AV.bool (decide P)=AV.bool (decide Q):=by
 by_cases q:P
 ·rw[decide_eq_true q,decide_eq_true (h.1 q)]
 ·rw[decide_eq_false q,decide_eq_false (fun z=>q (h.2 z))]
theorem Ft(l:List Ev)(T:Int)(k:Nat)(h:k<min T.toNat 6):(cE l T)[k]? =some (dz l.reverse (k:Int)):=by
 unfold cE
 rw[List.getElem?_map,List.getElem?_range h];rfl
theorem BN{k:Nat}{tn:List Int}{o:Out}:o3 l S k tn o↔
    ((if tn=o.tries then(1:Int) else 0)=1/\(o.values.length:Int)=bZ l.reverse k S/\(o.e=41/\(if ¬aS (aG l.reverse k S) then(1:Int) else 0)≠1/\(aG l.reverse k S).ab=6\/o.e≠41/\((if ¬aS (aG l.reverse k S) then(1:Int) else 0)=1\/(aG l.reverse k S).ab≠6))/\(o.e=0\/o.e=41\/o.e=42)/\
      (o.e≠42\/(if ¬aS (aG l.reverse k S) then(1:Int) else 0)≠1/\(o.tries.length:Int)=(o.values.length:Int)+1))/\(o.done=false\/(if ¬aS (aG l.reverse k S) then(1:Int) else 0)≠1/\o.e=0/\o.tries.length=o.values.length):=by
  have e1:(if tn=o.tries then(1:Int) else 0)=1↔tn=o.tries:=by split<;>simp_all
  have e2:(if ¬aS (aG l.reverse k S) then(1:Int) else 0)=1↔¬aS (aG l.reverse k S):=by split<;>simp_all
  have nn:(if ¬aS (aG l.reverse k S) then(1:Int) else 0)≠1->aS (aG l.reverse k S):=fun q=>Classical.byContradiction fun h=>q (e2.2 h)
  unfold o3
  constructor
  · rintro ⟨z1,z2,z3,z4,z5,z6⟩
    refine⟨⟨e1.2 z1,z2,?_,z4,?_⟩,?_⟩
    · rcases z3 with⟨a,b,c⟩|⟨a,b⟩
      · exact .inl ⟨a,fun q=>e2.1 q b,c⟩
      · refine .inr ⟨a,?_⟩
        by_cases h2:aS (aG l.reverse k S)
        · exact .inr fun q=>b ⟨h2,q⟩
        · exact .inl (e2.2 h2)
    · rcases z5 with a|⟨a,b⟩
      · exact .inl a
      · exact .inr ⟨fun q=>e2.1 q a,by omega⟩
    · rcases z6 with a|⟨a,b,c⟩
      · exact .inl a
      · exact .inr ⟨fun q=>e2.1 q a,b,c⟩
  · rintro ⟨⟨z1,z2,z3,z4,z5⟩,z6⟩
    refine⟨e1.1 z1,z2,?_,z4,?_,?_⟩
    · rcases z3 with⟨a,b,c⟩|⟨a,b⟩
      · exact .inl ⟨a,nn b,c⟩
      · refine .inr ⟨a,fun q=>?_⟩
        rcases b with b|b
        · exact e2.1 b q.1
        · exact b q.2
    · rcases z5 with a|⟨a,b⟩
      · exact .inl a
      · exact .inr ⟨nn a,by omega⟩
    · rcases z6 with a|⟨a,b,c⟩
      · exact .inl a
      · exact .inr ⟨nn a,b,c⟩
theorem UQ{B:aZ}(mc:Mc (sp AN) 6 B){o len:Nat}{T V:Int}{os:List Out}(h:bt aN 7 (.ae n o len) l)(aT:eR l)(hlen:len<=900)(ho:bt kR 4 (.ae m p lo) os)(eY:lo<=1000):bw B 10 (max Tryd.f10.ntmps 2) qc [(.agg (bK T V S n o len)),(.ae m p lo)] (bP (lp l T V S os)):=by
  obtain⟨dS,hn,cF⟩:=h.len
  obtain⟨ho1,hm,GS⟩:=ho.len
  obtain⟨cn,ce,hcv,Qx⟩:=F5 l T V S
  have Df:=Xn T V S h aT J
  rw[hcv] at Df
  have zY:=zX j8 999 h aT J (bt.aL rB _).hi (T:=T) (V:=V) (S:=S)
  refine abf mc hn hm Df zY (fun q=>(bF (fun z=>q ⟨Qx.2 ⟨z.1,z.2.1⟩,by have:=z.2.2.1;omega⟩)).symm) (fun hq=>?_)
  obtain⟨hS,hV⟩:=Qx.1 hq.1
  have bE:0<=T/\T<=6/\1<=S:=by unfold iq at hS;omega
  have ZU:(cE l T).length=lo:=by unfold cE;rw[List.length_map,List.length_range];omega
  have key:∀m' k:Nat,k+m'=lo->(∀(j:Nat) (o:Out) (tn:List Int),j<k->os[j]? =some o->(cE l T)[j]? =some tn->o3 l S j tn o)->FSQ B (bP (lp l T V S os)) qc (kQ n o len T V S m p lo (cE l T) (k:Int)):=by
    intro m'
    induction m' with
    | zero=>
      intro k hk eF
      rw[show bP (lp l T V S os)= .bool true from(bT ⟨hS,hV,by omega,fun j o tn h1 h2=>eF j o tn (by have:=(List.getElem?_eq_some_iff.1 h1).1;omega) h1 h2⟩).symm]
      exact abe mc J
    | succ m' ih=>
      intro k hk eF
      obtain⟨oc,vG⟩:∃e,os[k]? =some e:=⟨_,List.getElem?_eq_getElem J⟩
      have iM:=Ft l T k J
      have Jc:=Ga l.reverse (k:Int) S
      rw[List.length_reverse] at Jc
      have xC:bj (aY (RE zQ)) [.ae n o len,.int .i64 (k:Int),.int .i64 S]=some (.bool (decide ((if ¬aS (aG l.reverse k S) then(1:Int) else 0)=1))):=by
        refine sC h aT J ?_ rfl rfl
        show(if 1<=S then some (AV.bool (decide (¬aS (aG l.reverse k S)))) else none)=_
        rw[if_pos bE.2.2]
        congr 1
        exact rZ (by by_cases q:aS (aG l.reverse k S)<;>simp[q])
      have kh:bj (aY (R2 aK 1 jc)) [aL aK (dz l.reverse (k:Int)),aL aK oc.tries]=some (.bool (decide ((if dz l.reverse (k:Int)=oc.tries then(1:Int) else 0)=1))):=by
        have:=uM jc pJ (bt.aL eI (dz l.reverse (k:Int))) (bt.aL eI oc.tries) (by have:=(sj l.reverse k).1;omega) rfl
        refine this.trans ?_
        show some (AV.bool (decide (dz l.reverse (k:Int)=oc.tries)))=_
        congr 1
        exact rZ (by by_cases q:dz l.reverse (k:Int)=oc.tries<;>simp[q])
      have cG:=BG (k:Int) S h aT J bE.2.2
      have mn:bj (aY (RE uK)) [.ae n o len,.int .i64 (k:Int),.int .i64 S]=some (.int .i64 (bZ l.reverse k S)):=sC h aT J (if_pos bE.2.2) rfl rfl
      have ko:bM FU (nT (cE l T)) (0+(k:Int).toNat*1) 1=some [aL aK (dz l.reverse (k:Int))]:=by
        rw[Int.toNat_natCast,Nat.zero_add];exact wM rB iM 0 1 J
      have e2:((k:Int)+1)=((k+1:Nat):Int):=by omega
      have cK:¬o3 l S k (dz l.reverse (k:Int)) oc->bP (lp l T V S os)= .bool false:=fun z=>(bF (fun y=>z (y.2.2.2 k oc _ vG iM))).symm
      have dx:o3 l S k (dz l.reverse (k:Int)) oc->FSQ B (bP (lp l T V S os)) qc (kQ n o len T V S m p lo (cE l T) ((k:Int)+1)):=fun z=>by
        rw[e2]
        refine ih (k+1) J fun j o tn hj h1 h2=>?_
        by_cases Ak:j=k
        · subst Ak
          rw[vG] at h1;injection h1 with h1;subst h1
          rw[iM] at h2;injection h2 with h2;subst h2
          exact z
        · exact eF j o tn J h1 h2
      have xY:=GS k oc vG
      obtain⟨ov,ot,oe,od⟩:=oc
      cases od with
      | false=>
        refine ZS (ov:=ov) (ot:=ot) (oe:=oe) mc hn hm eY J J J J (by rw[Int.toNat_natCast];exact xY) xC cG mn kh ko (fun z=>cK fun y=>z (BN.1 y).1) (fun z=>dx (BN.2 ⟨z,.inl rfl⟩))
      | true=>
        refine ZT (ov:=ov) (ot:=ot) (oe:=oe) mc hn hm eY J J J J (by rw[Int.toNat_natCast];exact xY) xC cG mn kh ko (fun z=>cK fun y=>z ?_) (fun z=>dx (BN.2 ⟨?_,.inr ?_⟩))
        · obtain⟨a,b⟩:=BN.1 y
          obtain⟨a1,a2,a3,a4,a5⟩:=a
          refine⟨a1,a2,a3,a4,a5,?_⟩
          rcases b with b|b
          · cases b
          · exact b
        · exact⟨z.1,z.2.1,z.2.2.1,z.2.2.2.1,z.2.2.2.2.1⟩
        · exact z.2.2.2.2.2
  exact key lo 0 J (fun j o tn hj=>absurd hj J)
def RF(f:List Ev->Int->Int->Int->List Out->AV)(args:List AV)(r:AV):Prop:=∃(n o len:Nat) (l:List Ev) (T V S:Int) (m p lo:Nat) (os:List Out),args=[.agg [.int .i64 T,.int .i64 V,.int .i64 S,.ae n o len],.ae m p lo]/\bt aN 7 (.ae n o len) l/\eR l/\len<=900/\bt kR 4 (.ae m p lo) os/\lo<=1000/\r=f l T V S os
theorem Yi{f:List Ev->Int->Int->Int->List Out->AV}(args:List AV)(v v':AV)(h:RF f args v)(h':RF f args v'):v=v':=by
 obtain⟨n,o,len,l,T,V,S,m,p,lo,os,rfl,h1,_,_,h2,_,rfl⟩:=h
 obtain⟨n',o',eM,l',T',V',S',m',p',mr,Ds,q,gX,_,_,lS,_,rfl⟩:=h'
 simp only[List.cons.injEq,AV.agg.injEq,AV.int.injEq,AV.ae.injEq,true_and,_root_.and_true] at q
 obtain⟨⟨rfl,rfl,rfl,rfl,rfl,rfl⟩,rfl,rfl,rfl⟩:=q
 rw[h1.inj qy gX,h2.inj LC lS]
theorem abg(f:List Ev->Int->Int->Int->List Out->AV){o len:Nat}(T V S:Int){os:List Out}(h:bt aN 7 (.ae n o len) l)(aT:eR l)(hlen:len<=900)(ho:bt kR 4 (.ae m p lo) os)(eY:lo<=1000)(hf:(f l T V S os).hi=true):bj (aY (RF f)) [.agg [.int .i64 T,.int .i64 V,.int .i64 S,.ae n o len],.ae m p lo]=some (f l T V S os):=
 l3 (mF Yi ⟨n,o,len,l,T,V,S,m,p,lo,os,rfl,h,aT,hlen,ho,eY,rfl⟩) (by have:=h.hi;have h2:=ho.hi;simp[AV.hi,AV.gN] at this h2 ⊢;exact⟨⟨rfl,rfl,rfl,this⟩,h2⟩) hf
noncomputable def ug(l:List Ev)(T V S:Int)(os:List Out):AV:=bP (lp l T V S os)
noncomputable def Og:FuncId×(List AV->Option AV):=(10,aY (RF ug))
theorem UR(hP:fa Tryd.prog){L:gn}(h:cC Tryd.prog FU (sp L)):cC Tryd.prog FU (sp (Og::L)):=by
 refine fJ.add hP h (VV hP (MC hP (VF hP (fJ.Bv hP (Mg hP (fJ.Mb hP fJ.gr)))))) Tryd.func10 (fQ Tryd.func10 bx) bx fun args v e=>?_
 obtain⟨n,o,len,l,T,V,S,m,p,lo,os,rfl,a,b,c,d,f,rfl⟩:=je e
 exact⟨bH.1 bx,fun B hB hc hl=>UQ ⟨hB,hc,hl⟩ a b c d f⟩
end xD
end
