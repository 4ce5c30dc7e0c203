import Derived.Test.YtgnieaajkdangaaDoorAtGJ
import Derived.Test.YtgnieaajkdangaaDoorAtGK
import Derived.Test.YtgnieaajkdangaaDoorRnGF
set_option maxRecDepth 100000
set_option maxHeartbeats 8000000
set_option linter.unusedSimpArgs false
section
open Go Go.Rn Go.RowKit Go.Proofs
namespace eG
open cd cj cv cD cH cI cN gw eW fy fm fA
abbrev tM(n o len m p lo nT nS:Nat)(T V S:Int)(aj:List Th)(ah:List Sr)(c:Th)(q:Sr)(ak an i th tx I v x:Int):bz:=fun fr s1 _=>((aB 10 th tx I v x 5 (nT:Int) V (nS:Int)/\(c.I=4/\I=eB c.check/\((q.owner≠ -1/\q.owner≠th)\/c.rv<q.version))/\(c.au=0))/\FC (aP n o len m p lo nT nS T V S (aj.set th.toNat {c with I:=0,full:=false}) ah ak (an+1) (i+1)) fr s1)\/((aB 10 th tx I v x 5 (nT:Int) V (nS:Int)/\(c.I=4/\I=eB c.check/\((q.owner≠ -1/\q.owner≠th)\/c.rv<q.version))/\(¬(c.au=0)))/\FC (aP n o len m p lo nT nS T V S (aj.set th.toNat {c with I:=7,full:=false}) ah ak (an+1) (i+1)) fr s1)
theorem XN{B:aZ}(mc:Mc (sp LN) 6 B){n o len m p lo nT nS:Nat}{T V S:Int}{aj:List Th}{ah:List Sr}{c:Th}{q:Sr}{ak an i th tx I v x:Int}{v':AV}(H_:jV n o len m nT nS V aj ah c an i 10 th tx I v x 5)(hQ:0<=I/\I<(nS:Int)->ah[(I).toNat]? =some q)(hF:¬(aB 10 th tx I v x 5 (nT:Int) V (nS:Int)/\(c.I=4/\I=eB c.check/\((q.owner≠ -1/\q.owner≠th)\/c.rv<q.version)))->v'= .bool false)(H0:(aB 10 th tx I v x 5 (nT:Int) V (nS:Int)/\(c.I=4/\I=eB c.check/\((q.owner≠ -1/\q.owner≠th)\/c.rv<q.version))/\(c.au=0))->FSQ B v' cg (aP n o len m p lo nT nS T V S (aj.set th.toNat {c with I:=0,full:=false}) ah ak (an+1) (i+1)))(H1:(aB 10 th tx I v x 5 (nT:Int) V (nS:Int)/\(c.I=4/\I=eB c.check/\((q.owner≠ -1/\q.owner≠th)\/c.rv<q.version))/\(¬(c.au=0)))->FSQ B v' cg (aP n o len m p lo nT nS T V S (aj.set th.toNat {c with I:=7,full:=false}) ah ak (an+1) (i+1))):FSQ B v' cg (aP n o len m p lo nT nS T V S aj ah ak an i):=by
 obtain⟨ho,hn,bu,hlen,h0,hi,bB,hV,bE,de,aH,bA,cZ,c7,aT,hC⟩:=H_
 have cu:=ho;simp only[dF,bL] at cu
 have f1:=fun h=>fH bc.len aH (hC h) (c:={c with I:=7,full:=false}) (c':={c with I:=0,full:=false}) (r:=[(.int .i64 (.ofNat 0))]) 0 rfl rfl rfl
 have f2:=fun h=>fH bc.len aH (hC h) (c:={c with I:=7}) (c':={c with I:=7,full:=false}) (r:=[(.bool false)]) 12 rfl rfl rfl
 have f3:=fun h=>fR bc.len aH (hC h) (c':={c with I:=7}) (r:=[(.int .i64 (.ofNat 7))]) 0 rfl rfl rfl
 have f4:=fun h=>iO bc.len aH (hC h) (c:={c with I:=7,full:=false}) 7 1 rfl
 exact wC mc (C:=(tM n o len m p lo nT nS T V S aj ah c q ak an i th tx I v x)) (lP H0 H1) 2000 ((fun(q1:Pl)=>((fun(q2:Pl)=>((fun(q3:Pl)=>((fun(q4:Pl)=>(gJ 1 (.fk (gE 6 (.bI (.bJ (bn (.ofNat 10) th tx I v x (.ofNat 5)) (gA 2 1 2 (.il (gC 8 4 (.fk .no (gA 1 2 15 (.kp (aB 10 th tx I v x 5 (nT:Int) V (nS:Int)) inferInstance (gA 2 7 11 (.ix (.go 1 (.il (gC 23 3 (.ld [(.int .i64 c.I)] (.fk (.go 6 (.ld [(.int .u32 c.check)] (.il (gC 3 1 (.kn (.int .i64 ((eB c.check))) (gH 1 1 (.fk (.go 6 (.il (gC 3 2 (.il (gC 3 5 (.ix (.go 1 (.ld [(.int .i64 q.owner)] (.fk (gH 1 1 (.go 15 q4)) (gH 1 1 (.go 7 (.ix (.go 1 (.ld [(.int .i64 q.owner)] (.go 2 (.fk (gH 2 1 (.go 9 q1)) (.go 2 q4))))))))))))))))) (.go 16 q3)))))))) (.go 25 q3)))))))) (.go 2 q2)))))))))) .no))) (gI 1 (.go 5 (.il (gC 3 5 (.ix (.go 1 (.ld [(.int .i64 q.version)] (.go 3 (.ld [(.int .i64 c.rv)] (.fk (gH 1 1 (.go 3 q1)) (gH 1 1 (.go 3 q3)))))))))))))) (gI 8 (.go 1 q2)))) (gI 4 (gF 1 4)))) (gB 7 7 (.dj (aD dc (aj.set th.toNat {c with I:=7})) (.go 2 (.dj (aD dc (aj.set th.toNat {c with I:=7,full:=false})) (gB 2 3 (.ld [(.int .u32 c.au)] (.fk (gB 1 3 (.dj (aD dc (aj.set th.toNat {c with I:=0,full:=false})) (gI 3 (gA 1 3 4 (.vl (.int .i64 (an+1)) (gH 3 3 (gD 1 3 (.vl (.int .i64 (i+1)) (gK 1 1 (.bk (aP n o len m p lo nT nS T V S (aj.set th.toNat {c with I:=0,full:=false}) ah ak (an+1) (i+1)).l (ay++(aP n o len m p lo nT nS T V S (aj.set th.toNat {c with I:=0,full:=false}) ah ak (an+1) (i+1)).o) 275 .no)))))))))) (gI 5 (gA 1 3 4 (.vl (.int .i64 (an+1)) (gH 3 3 (gD 1 3 (.vl (.int .i64 (i+1)) (gK 1 1 (.bk (aP n o len m p lo nT nS T V S (aj.set th.toNat {c with I:=7,full:=false}) ah ak (an+1) (i+1)).l (ay++(aP n o len m p lo nT nS T V S (aj.set th.toNat {c with I:=7,full:=false}) ah ak (an+1) (i+1)).o) 275 .no)))))))))))))))) (U (i<(len:Int)) (fun _=>aV i (len:Int) J J (ai hn (ai (c9 bB 0 7 ar) (U (an>=1048576) aA (fun _=>ai (jt 10 th tx I v x 5 (nT:Int) V (nS:Int) ⟨ho,by unfold bL;omega⟩) (U (aB 10 th tx I v x 5 (nT:Int) V (nS:Int)) (fun h3=>have hm:=eh h3;(have fF:=jU aT;(aV th (nT:Int) J J (ai (bN bc.len aH (hC J) 0 1 rfl) (U (c.I=4) (fun _=>ai (bN bc.len aH (hC J) 9 1 rfl) (ai (zj c.check J) (U (I=(eB c.check)) (fun _=>aV I (nS:Int) J J (ai (bN fh.len bA (hQ J) 0 1 rfl) (U (q.owner=(-1)) (fun _=>aV I (nS:Int) J J (ai (bN fh.len bA (hQ J) 1 1 rfl) (ai (bN bc.len aH (hC J) 2 1 rfl) (U (q.version>c.rv) (fun _=>ai (f3 J) (ai (f2 J) (ai (f4 J) (U (c.au=0) (fun h8=>ai fM (ai eV (ai cS (eK hn bu eU gd (tM n o len m p lo nT nS T V S aj ah c q ak an i th tx I v x) ((.inl ⟨⟨h3,by omega,h8⟩,rfl,rfl⟩)))))) (fun h8=>ai eV (ai cS (eK hn bu eU gd (tM n o len m p lo nT nS T V S aj ah c q ak an i th tx I v x) (.inr (⟨⟨h3,by omega,h8⟩,rfl,rfl⟩))))))))) dp)))) (fun _=>aV I (nS:Int) J J (ai (bN fh.len bA (hQ J) 0 1 rfl) (U (q.owner≠th) (fun _=>ai (f3 J) (ai (f2 J) (ai (f4 J) (U (c.au=0) (fun eA=>ai fM (ai eV (ai cS (eK hn bu eU gd (tM n o len m p lo nT nS T V S aj ah c q ak an i th tx I v x) ((.inl ⟨⟨h3,by omega,eA⟩,rfl,rfl⟩)))))) (fun eA=>ai eV (ai cS (eK hn bu eU gd (tM n o len m p lo nT nS T V S aj ah c q ak an i th tx I v x) (.inr (⟨⟨h3,by omega,eA⟩,rfl,rfl⟩))))))))) (fun _=>aV I (nS:Int) J J (ai (bN fh.len bA (hQ J) 1 1 rfl) (ai (bN bc.len aH (hC J) 2 1 rfl) (U (q.version>c.rv) (fun _=>ai (f3 J) (ai (f2 J) (ai (f4 J) (U (c.au=0) (fun ij=>ai fM (ai eV (ai cS (eK hn bu eU gd (tM n o len m p lo nT nS T V S aj ah c q ak an i th tx I v x) ((.inl ⟨⟨h3,by omega,ij⟩,rfl,rfl⟩)))))) (fun ij=>ai eV (ai cS (eK hn bu eU gd (tM n o len m p lo nT nS T V S aj ah c q ak an i th tx I v x) (.inr (⟨⟨h3,by omega,ij⟩,rfl,rfl⟩))))))))) dp)))))))))) dp))) dp))))) jj)))))) aA)
end eG
end
section
open Go Go.Rn Go.RowKit Go.Proofs
namespace eG
open cd cj cv cD cH cI cN gw eW fy fm fA
abbrev FY(n o len m p lo nT nS:Nat)(T V S:Int)(aj:List Th)(ah:List Sr)(c:Th)(ak an i th tx I v x:Int):bz:=fun fr s1 _=>((aB 10 th tx I v x 6 (nT:Int) V (nS:Int)/\(c.I=3)/\(c.au=0))/\FC (aP n o len m p lo nT nS T V S (aj.set th.toNat {c with I:=0,full:=true}) ah ak (an+1) (i+1)) fr s1)\/((aB 10 th tx I v x 6 (nT:Int) V (nS:Int)/\(c.I=3)/\(¬(c.au=0)))/\FC (aP n o len m p lo nT nS T V S (aj.set th.toNat {c with I:=7,full:=true}) ah ak (an+1) (i+1)) fr s1)
theorem XO{B:aZ}(mc:Mc (sp LN) 6 B){n o len m p lo nT nS:Nat}{T V S:Int}{aj:List Th}{ah:List Sr}{c:Th}{q:Sr}{ak an i th tx I v x:Int}{v':AV}(H_:jV n o len m nT nS V aj ah c an i 10 th tx I v x 6)(hQ:0<=I/\I<(nS:Int)->ah[(I).toNat]? =some q)(hF:¬(aB 10 th tx I v x 6 (nT:Int) V (nS:Int)/\(c.I=3))->v'= .bool false)(H0:(aB 10 th tx I v x 6 (nT:Int) V (nS:Int)/\(c.I=3)/\(c.au=0))->FSQ B v' cg (aP n o len m p lo nT nS T V S (aj.set th.toNat {c with I:=0,full:=true}) ah ak (an+1) (i+1)))(H1:(aB 10 th tx I v x 6 (nT:Int) V (nS:Int)/\(c.I=3)/\(¬(c.au=0)))->FSQ B v' cg (aP n o len m p lo nT nS T V S (aj.set th.toNat {c with I:=7,full:=true}) ah ak (an+1) (i+1))):FSQ B v' cg (aP n o len m p lo nT nS T V S aj ah ak an i):=by
 obtain⟨ho,hn,bu,hlen,h0,hi,bB,hV,bE,de,aH,bA,cZ,c7,aT,hC⟩:=H_
 have cu:=ho;simp only[dF,bL] at cu
 exact wC mc (C:=(FY n o len m p lo nT nS T V S aj ah c ak an i th tx I v x)) (lP H0 H1) 2000 ((fun(q1:Pl)=>(gJ 1 (.fk (gE 6 (.bI (.bJ (bn (.ofNat 10) th tx I v x (.ofNat 6)) (gA 2 1 2 (.il (gC 8 4 (.fk .no (gA 1 2 15 (.kp (aB 10 th tx I v x 6 (nT:Int) V (nS:Int)) inferInstance (gA 2 7 11 (.ix (.go 1 (.il (gC 26 3 (.ld [(.int .i64 c.I)] (.fk (gA 1 7 7 (.dj (aD dc (aj.set th.toNat {c with I:=7})) (.go 2 (.dj (aD dc (aj.set th.toNat {c with I:=7,full:=true})) (gB 2 3 (.ld [(.int .u32 c.au)] (.fk (gB 1 3 (.dj (aD dc (aj.set th.toNat {c with I:=0,full:=true})) (gI 3 (gA 1 3 4 (.vl (.int .i64 (an+1)) (gH 3 3 (gD 1 3 (.vl (.int .i64 (i+1)) (gK 1 1 (.bk (aP n o len m p lo nT nS T V S (aj.set th.toNat {c with I:=0,full:=true}) ah ak (an+1) (i+1)).l (ay++(aP n o len m p lo nT nS T V S (aj.set th.toNat {c with I:=0,full:=true}) ah ak (an+1) (i+1)).o) 275 .no)))))))))) (gI 5 (gA 1 3 4 (.vl (.int .i64 (an+1)) (gH 3 3 (gD 1 3 (.vl (.int .i64 (i+1)) (gK 1 1 (.bk (aP n o len m p lo nT nS T V S (aj.set th.toNat {c with I:=7,full:=true}) ah ak (an+1) (i+1)).l (ay++(aP n o len m p lo nT nS T V S (aj.set th.toNat {c with I:=7,full:=true}) ah ak (an+1) (i+1)).o) 275 .no))))))))))))))) (gH 1 8 (.go 1 q1))))))))) (.go 2 q1)))))))))) .no))) (gI 4 (gF 1 4))) (U (i<(len:Int)) (fun _=>aV i (len:Int) J J (ai hn (ai (c9 bB 0 7 ar) (U (an>=1048576) aA (fun _=>ai (jt 10 th tx I v x 6 (nT:Int) V (nS:Int) ⟨ho,by unfold bL;omega⟩) (U (aB 10 th tx I v x 6 (nT:Int) V (nS:Int)) (fun h3=>have hm:=eh h3;(have fF:=jU aT;(aV th (nT:Int) J J (ai (bN bc.len aH (hC J) 0 1 rfl) (U (c.I=3) (fun _=>ai (fR bc.len aH (hC J) (c':={c with I:=7}) (r:=[(.int .i64 (.ofNat 7))]) 0 rfl rfl rfl) (ai (fH bc.len aH (hC J) (c:={c with I:=7}) (c':={c with I:=7,full:=true}) (r:=[(.bool true)]) 12 rfl rfl rfl) (ai (iO bc.len aH (hC J) (c:={c with I:=7,full:=true}) 7 1 rfl) (U (c.au=0) (fun h5=>ai (fH bc.len aH (hC J) (c:={c with I:=7,full:=true}) (c':={c with I:=0,full:=true}) (r:=[(.int .i64 (.ofNat 0))]) 0 rfl rfl rfl) (ai eV (ai cS (eK hn bu eU gd (FY n o len m p lo nT nS T V S aj ah c ak an i th tx I v x) ((.inl ⟨⟨h3,by omega,h5⟩,rfl,rfl⟩)))))) (fun h5=>ai eV (ai cS (eK hn bu eU gd (FY n o len m p lo nT nS T V S aj ah c ak an i th tx I v x) (.inr (⟨⟨h3,by omega,h5⟩,rfl,rfl⟩))))))))) dp))))) jj)))))) aA)
end eG
end
section
open Go Go.Rn Go.RowKit Go.Proofs
namespace eG
open cd cj cv cD cH cI cN gw eW fy fm fA
abbrev Cs(n o len m p lo nT nS:Nat)(T V S:Int)(aj:List Th)(ah:List Sr)(c:Th)(q:Sr)(ak an i th tx I v x ab:Int):bz:=fun fr s1 _=>((aB 11 th tx I v x ab (nT:Int) V (nS:Int)/\(c.I=7/\I=eB c.au)/\((aq .andNot .u32 c.au (aq .shl .u32 1 I))=0)/\(c.full=true))/\FC (aP n o len m p lo nT nS T V S (aj.set th.toNat {c with I:=9,au:=(aq .andNot .u32 c.au (aq .shl .u32 1 I))}) (ah.set I.toNat {q with owner:=(-1)}) ak (an+1) (i+1)) fr s1)\/((aB 11 th tx I v x ab (nT:Int) V (nS:Int)/\(c.I=7/\I=eB c.au)/\((aq .andNot .u32 c.au (aq .shl .u32 1 I))=0)/\(c.full=false))/\FC (aP n o len m p lo nT nS T V S (aj.set th.toNat {c with I:=0,au:=(aq .andNot .u32 c.au (aq .shl .u32 1 I))}) (ah.set I.toNat {q with owner:=(-1)}) ak (an+1) (i+1)) fr s1)\/((aB 11 th tx I v x ab (nT:Int) V (nS:Int)/\(c.I=7/\I=eB c.au)/\(¬((aq .andNot .u32 c.au (aq .shl .u32 1 I))=0)))/\FC (aP n o len m p lo nT nS T V S (aj.set th.toNat {c with au:=(aq .andNot .u32 c.au (aq .shl .u32 1 I))}) (ah.set I.toNat {q with owner:=(-1)}) ak (an+1) (i+1)) fr s1)
theorem aaV{B:aZ}(mc:Mc (sp LN) 6 B){n o len m p lo nT nS:Nat}{T V S:Int}{aj:List Th}{ah:List Sr}{c:Th}{q:Sr}{ak an i th tx I v x ab:Int}{v':AV}(H_:jV n o len m nT nS V aj ah c an i 11 th tx I v x ab)(hQ:0<=I/\I<(nS:Int)->ah[(I).toNat]? =some q)(hF:¬(aB 11 th tx I v x ab (nT:Int) V (nS:Int)/\(c.I=7/\I=eB c.au))->v'= .bool false)(H0:(aB 11 th tx I v x ab (nT:Int) V (nS:Int)/\(c.I=7/\I=eB c.au)/\((aq .andNot .u32 c.au (aq .shl .u32 1 I))=0)/\(c.full=true))->FSQ B v' cg (aP n o len m p lo nT nS T V S (aj.set th.toNat {c with I:=9,au:=(aq .andNot .u32 c.au (aq .shl .u32 1 I))}) (ah.set I.toNat {q with owner:=(-1)}) ak (an+1) (i+1)))(H1:(aB 11 th tx I v x ab (nT:Int) V (nS:Int)/\(c.I=7/\I=eB c.au)/\((aq .andNot .u32 c.au (aq .shl .u32 1 I))=0)/\(c.full=false))->FSQ B v' cg (aP n o len m p lo nT nS T V S (aj.set th.toNat {c with I:=0,au:=(aq .andNot .u32 c.au (aq .shl .u32 1 I))}) (ah.set I.toNat {q with owner:=(-1)}) ak (an+1) (i+1)))(H2:(aB 11 th tx I v x ab (nT:Int) V (nS:Int)/\(c.I=7/\I=eB c.au)/\(¬((aq .andNot .u32 c.au (aq .shl .u32 1 I))=0)))->FSQ B v' cg (aP n o len m p lo nT nS T V S (aj.set th.toNat {c with au:=(aq .andNot .u32 c.au (aq .shl .u32 1 I))}) (ah.set I.toNat {q with owner:=(-1)}) ak (an+1) (i+1))):FSQ B v' cg (aP n o len m p lo nT nS T V S aj ah ak an i):=by
 obtain⟨ho,hn,bu,hlen,h0,hi,bB,hV,bE,de,aH,bA,cZ,c7,aT,hC⟩:=H_
 have cu:=ho;simp only[dF,bL] at cu
 have f1:=fun h=>iO bc.len aH (hC h) (c:={c with au:=(aq .andNot .u32 c.au (aq .shl .u32 1 I))}) 7 1 rfl
 exact wC mc (C:=(Cs n o len m p lo nT nS T V S aj ah c q ak an i th tx I v x ab)) (zN H0 H1 H2) 2000 ((fun(q1:Pl)=>(gJ 1 (.fk (gE 6 (.bI (.bJ (bn (.ofNat 11) th tx I v x ab) (gA 2 1 2 (.il (gC 8 4 (.fk .no (gA 1 2 15 (.kp (aB 11 th tx I v x ab (nT:Int) V (nS:Int)) inferInstance (gA 2 7 11 (.ix (.go 1 (.il (gC 4 3 (.ld [(.int .i64 c.I)] (.fk (gH 10 4 (.go 1 q1)) (.go 6 (.ld [(.int .u32 c.au)] (.il (gC 3 1 (.kn (.int .i64 ((eB c.au))) (gH 1 1 (.fk (gH 1 4 (.go 1 q1)) (gA 1 3 4 (.il (gC 1 3 (.ld [(.int .u32 c.au)] (.go 1 (.sh (.go 3 (.dj (aD dc (aj.set th.toNat {c with au:=(aq .andNot .u32 c.au (aq .shl .u32 1 I))})) (.en (.rg (.go 5 (.ix (.go 1 (.dj (aD nM (ah.set I.toNat {q with owner:=(-1)})) (gI 1 (gB 3 3 (.ld [(.int .u32 ((aq .andNot .u32 c.au (aq .shl .u32 1 I))))] (.fk (.go 4 (.Qb c.full (gA 2 1 3 (.dj (aD dc (aj.set th.toNat {c with I:=9,au:=(aq .andNot .u32 c.au (aq .shl .u32 1 I))})) (gI 4 (gA 1 3 4 (.vl (.int .i64 (an+1)) (gH 3 3 (gD 1 3 (.vl (.int .i64 (i+1)) (gK 1 1 (.bk (aP n o len m p lo nT nS T V S (aj.set th.toNat {c with I:=9,au:=(aq .andNot .u32 c.au (aq .shl .u32 1 I))}) (ah.set I.toNat {q with owner:=(-1)}) ak (an+1) (i+1)).l (ay++(aP n o len m p lo nT nS T V S (aj.set th.toNat {c with I:=9,au:=(aq .andNot .u32 c.au (aq .shl .u32 1 I))}) (ah.set I.toNat {q with owner:=(-1)}) ak (an+1) (i+1)).o) 275 .no)))))))))) (gA 2 2 3 (.ld [(.int .u32 ((aq .andNot .u32 c.au (aq .shl .u32 1 I))))] (.fk (gA 1 1 3 (.dj (aD dc (aj.set th.toNat {c with I:=0,au:=(aq .andNot .u32 c.au (aq .shl .u32 1 I))})) (gI 4 (gA 1 3 4 (.vl (.int .i64 (an+1)) (gH 3 3 (gD 1 3 (.vl (.int .i64 (i+1)) (gK 1 1 (.bk (aP n o len m p lo nT nS T V S (aj.set th.toNat {c with I:=0,au:=(aq .andNot .u32 c.au (aq .shl .u32 1 I))}) (ah.set I.toNat {q with owner:=(-1)}) ak (an+1) (i+1)).l (ay++(aP n o len m p lo nT nS T V S (aj.set th.toNat {c with I:=0,au:=(aq .andNot .u32 c.au (aq .shl .u32 1 I))}) (ah.set I.toNat {q with owner:=(-1)}) ak (an+1) (i+1)).o) 275 .no)))))))))) .no))))) (gA 7 2 3 (.ld [(.int .u32 ((aq .andNot .u32 c.au (aq .shl .u32 1 I))))] (.fk .no (gH 1 6 (gA 1 3 4 (.vl (.int .i64 (an+1)) (gH 3 3 (gD 1 3 (.vl (.int .i64 (i+1)) (gK 1 1 (.bk (aP n o len m p lo nT nS T V S (aj.set th.toNat {c with au:=(aq .andNot .u32 c.au (aq .shl .u32 1 I))}) (ah.set I.toNat {q with owner:=(-1)}) ak (an+1) (i+1)).l (ay++(aP n o len m p lo nT nS T V S (aj.set th.toNat {c with au:=(aq .andNot .u32 c.au (aq .shl .u32 1 I))}) (ah.set I.toNat {q with owner:=(-1)}) ak (an+1) (i+1)).o) 275 .no))))))))))))))))))))))))))))))))))))))))))) (.go 2 q1)))))))))) .no))) (gI 4 (gF 1 4))) (U (i<(len:Int)) (fun _=>aV i (len:Int) J J (ai hn (ai (c9 bB 0 7 ar) (U (an>=1048576) aA (fun _=>ai (jt 11 th tx I v x ab (nT:Int) V (nS:Int) ⟨ho,by unfold bL;omega⟩) (U (aB 11 th tx I v x ab (nT:Int) V (nS:Int)) (fun h3=>have hm:=eh h3;(have fF:=jU aT;(aV th (nT:Int) J J (ai (bN bc.len aH (hC J) 0 1 rfl) (U (c.I≠7) dp (fun _=>ai (bN bc.len aH (hC J) 7 1 rfl) (ai (zj c.au J) (U (I≠(eB c.au)) dp (fun _=>ai (bN bc.len aH (hC J) 7 1 rfl) (ai (show(0:Int)<=I from J) (ai (fR bc.len aH (hC J) (c':={c with au:=(aq .andNot .u32 c.au (aq .shl .u32 1 I))}) (r:=[(.int .u32 ((aq .andNot .u32 c.au (aq .shl .u32 1 I))))]) 7 rfl rfl rfl) (aV I (nS:Int) J J (ai (fR fh.len bA (hQ J) (c':={q with owner:=(-1)}) (r:=[(.int .i64 (.negSucc 0))]) 0 rfl rfl rfl) (ai fM (U ((aq .andNot .u32 c.au (aq .shl .u32 1 I))=0) (fun h6=>ai (iO bc.len aH (hC J) (c:={c with au:=(aq .andNot .u32 c.au (aq .shl .u32 1 I))}) 12 1 rfl) (tfb c.full (fun h7=>ai (fH bc.len aH (hC J) (c:={c with au:=(aq .andNot .u32 c.au (aq .shl .u32 1 I))}) (c':={c with I:=9,au:=(aq .andNot .u32 c.au (aq .shl .u32 1 I))}) (r:=[(.int .i64 (.ofNat 9))]) 0 rfl rfl rfl) (ai eV (ai cS (eK hn bu eU rb (Cs n o len m p lo nT nS T V S aj ah c q ak an i th tx I v x ab) ((.inl ⟨⟨h3,by omega,h6,h7⟩,rfl,rfl⟩)))))) (fun h7=>ai fM (U ((aq .andNot .u32 c.au (aq .shl .u32 1 I))=0) (fun _=>ai (fH bc.len aH (hC J) (c:={c with au:=(aq .andNot .u32 c.au (aq .shl .u32 1 I))}) (c':={c with I:=0,au:=(aq .andNot .u32 c.au (aq .shl .u32 1 I))}) (r:=[(.int .i64 (.ofNat 0))]) 0 rfl rfl rfl) (ai eV (ai cS (eK hn bu eU rb (Cs n o len m p lo nT nS T V S aj ah c q ak an i th tx I v x ab) (.inr ((.inl ⟨⟨h3,by omega,h6,h7⟩,rfl,rfl⟩))))))) aA)))) (fun h6=>ai fM (U ((aq .andNot .u32 c.au (aq .shl .u32 1 I))=0) aA (fun _=>ai eV (ai cS (eK hn bu eU rb (Cs n o len m p lo nT nS T V S aj ah c q ak an i th tx I v x ab) (.inr (.inr (⟨⟨h3,by omega,h6⟩,rfl,rfl⟩))))))))))))))))))))))) jj)))))) aA)
end eG
end
section
open Go Go.Rn Go.RowKit Go.Proofs
namespace eG
open cd cj cv cD cH cI cN gw eW fy fm fA
abbrev Ob(n o len m p lo nT nS:Nat)(T V S:Int)(aj:List Th)(ah:List Sr)(c:Th)(ak an i th tx I v x ab:Int):bz:=fun fr s1 _=>((aB 12 th tx I v x ab (nT:Int) V (nS:Int)/\(c.I=1))/\FC (aP n o len m p lo nT nS T V S (aj.set th.toNat {c with I:=8}) ah ak (an+1) (i+1)) fr s1)
theorem aaW{B:aZ}(mc:Mc (sp LN) 6 B){n o len m p lo nT nS:Nat}{T V S:Int}{aj:List Th}{ah:List Sr}{c:Th}{q:Sr}{ak an i th tx I v x ab:Int}{v':AV}(H_:jV n o len m nT nS V aj ah c an i 12 th tx I v x ab)(hQ:0<=I/\I<(nS:Int)->ah[(I).toNat]? =some q)(hF:¬(aB 12 th tx I v x ab (nT:Int) V (nS:Int)/\(c.I=1))->v'= .bool false)(H0:(aB 12 th tx I v x ab (nT:Int) V (nS:Int)/\(c.I=1))->FSQ B v' cg (aP n o len m p lo nT nS T V S (aj.set th.toNat {c with I:=8}) ah ak (an+1) (i+1))):FSQ B v' cg (aP n o len m p lo nT nS T V S aj ah ak an i):=by
 obtain⟨ho,hn,bu,hlen,h0,hi,bB,hV,bE,de,aH,bA,cZ,c7,aT,hC⟩:=H_
 have cu:=ho;simp only[dF,bL] at cu
 exact wC mc (C:=(Ob n o len m p lo nT nS T V S aj ah c ak an i th tx I v x ab)) (gj H0) 2000 ((fun(q1:Pl)=>(gJ 1 (.fk (gE 6 (.bI (.bJ (bn (.ofNat 12) th tx I v x ab) (gA 2 1 2 (.il (gC 8 4 (.fk .no (gA 1 2 15 (.kp (aB 12 th tx I v x ab (nT:Int) V (nS:Int)) inferInstance (gA 2 7 11 (.ix (.go 1 (.il (gC 4 3 (.ld [(.int .i64 c.I)] (.fk (gI 4 (.go 1 q1)) (gB 3 3 (.dj (aD dc (aj.set th.toNat {c with I:=8})) (gI 3 (gA 1 3 4 (.vl (.int .i64 (an+1)) (gH 3 3 (gD 1 3 (.vl (.int .i64 (i+1)) (gK 1 1 (.bk (aP n o len m p lo nT nS T V S (aj.set th.toNat {c with I:=8}) ah ak (an+1) (i+1)).l (ay++(aP n o len m p lo nT nS T V S (aj.set th.toNat {c with I:=8}) ah ak (an+1) (i+1)).o) 275 .no))))))))))))))))) (.go 2 q1)))))))))) .no))) (gI 4 (gF 1 4))) (U (i<(len:Int)) (fun _=>aV i (len:Int) J J (ai hn (ai (c9 bB 0 7 ar) (U (an>=1048576) aA (fun _=>ai (jt 12 th tx I v x ab (nT:Int) V (nS:Int) ⟨ho,by unfold bL;omega⟩) (U (aB 12 th tx I v x ab (nT:Int) V (nS:Int)) (fun h3=>have hm:=eh h3;(have fF:=jU aT;(aV th (nT:Int) J J (ai (bN bc.len aH (hC J) 0 1 rfl) (U (c.I≠1) dp (fun _=>ai (fR bc.len aH (hC J) (c':={c with I:=8}) (r:=[(.int .i64 (.ofNat 8))]) 0 rfl rfl rfl) (ai eV (ai cS (eK hn bu eU gd (Ob n o len m p lo nT nS T V S aj ah c ak an i th tx I v x ab) (⟨⟨h3,by omega⟩,rfl,rfl⟩)))))))))) jj)))))) aA)
end eG
end
section
open Go Go.Rn Go.RowKit Go.Proofs
namespace eG
open cd cj cv cD cH cI cN gw eW fy fm fA zV
variable {x ab v tx th i an ak V T S:Int} {v':AV} {aj:List Th} {ah:List Sr} {q:Sr} {p nS n m lo:Nat} {c:Th} {B:aZ}
abbrev Nj(n o len m p lo nT nS:Nat)(T V S:Int)(aj:List Th)(ah:List Sr)(c:Th)(ak an i th tx I v x ab:Int):bz:=fun fr s1 _=>((aB 13 th tx I v x ab (nT:Int) V (nS:Int)/\((0:Int)=0))/\FC (aP n o len m p lo nT nS T V S (aj.set th.toNat {c with I:=0}) ah ak (an+1) (i+1)) fr s1)
theorem ZF(mc:Mc (sp LN) 6 B){o len nT:Nat}{I:Int}(H_:jV n o len m nT nS V aj ah c an i 13 th tx I v x ab)(hQ:0<=I/\I<(nS:Int)->ah[(I).toNat]? =some q)(nr:ah.length=nS)(hW:ln nS ah c)(hF:¬(aB 13 th tx I v x ab (nT:Int) V (nS:Int)/\((0:Int)=0))->v'= .bool false)(H0:(aB 13 th tx I v x ab (nT:Int) V (nS:Int)/\((0:Int)=0))->FSQ B v' cg (aP n o len m p lo nT nS T V S (aj.set th.toNat {c with I:=0}) ah ak (an+1) (i+1))):FSQ B v' cg (aP n o len m p lo nT nS T V S aj ah ak an i):=by
 obtain⟨ho,hn,bu,hlen,h0,hi,bB,hV,bE,de,aH,bA,cZ,c7,aT,hC⟩:=H_
 have cu:=ho;simp only[dF,bL] at cu
 exact wC mc (C:=(Nj n o len m p lo nT nS T V S aj ah c ak an i th tx I v x ab)) (gj H0) 2000 (gJ 1 (.fk (gE 6 (.bI (.bJ (bn (.ofNat 13) th tx I v x ab) (gA 2 1 2 (.il (gC 8 4 (.fk .no (gA 1 2 15 (.kp (aB 13 th tx I v x ab (nT:Int) V (nS:Int)) inferInstance (gA 2 7 11 (.ix (.go 1 (.c2 False (.bool true) [(278,some (.cells 7 (Tr.fill (bn (.ofNat 13) th tx I v x ab) 0 .nil) [])),(271,(some (aD dc (aj.set th.toNat {c with I:=0}))))] (.bool true) [(278,some (.cells 7 (Tr.fill (bn (.ofNat 13) th tx I v x ab) 0 .nil) [])),(271,(some (aD dc (aj.set th.toNat {c with I:=0}))))] 279 [274,273,271] [271] .no (gA 1 3 4 (.vl (.int .i64 (an+1)) (gH 3 3 (gD 1 3 (.vl (.int .i64 (i+1)) (gK 1 1 (.bk (aP n o len m p lo nT nS T V S (aj.set th.toNat {c with I:=0}) ah ak (an+1) (i+1)).l (ay++(aP n o len m p lo nT nS T V S (aj.set th.toNat {c with I:=0}) ah ak (an+1) (i+1)).o) 275 .no))))))))))) (gH 2 4 (gF 1 4))))))))))) .no)) (U (i<(len:Int)) (fun _=>aV i (len:Int) J J (ai hn (ai (c9 bB 0 7 ar) (U (an>=1048576) aA (fun _=>ai NZ (U (aB 13 th tx I v x ab (nT:Int) V (nS:Int)) (fun h3=>have hm:=eh h3;(have fF:=jU aT;(aV th (nT:Int) J J (ai (UD (T:=T) (V:=V) (S:=S) (ak:=ak) (an:=an) (i:=i) (tx:=tx) (I:=I) (v:=v) (x:=x) (ab:=ab) (n:=n) (o:=o) (len:=len) (m:=m) (p:=p) (lo:=lo) (nT:=nT) aH bA nr de (hC J) hW) (ai (fun(h4:False)=>o9) (ai eV (ai cS (eK hn bu eU gd (Nj n o len m p lo nT nS T V S aj ah c ak an i th tx I v x ab) (⟨⟨h3,by omega⟩,rfl,rfl⟩))))))))) jj)))))) aA)
theorem ZG(mc:Mc (sp LN) 6 B){o len nT:Nat}{I:Int}(H_:jV n o len m nT nS V aj ah c an i 13 th tx I v x ab)(hQ:0<=I/\I<(nS:Int)->ah[(I).toNat]? =some q)(nr:ah.length=nS)(hW:¬ln nS ah c)(hF:¬(aB 13 th tx I v x ab (nT:Int) V (nS:Int)/\((0:Int)=1))->v'= .bool false):FSQ B v' cg (aP n o len m p lo nT nS T V S aj ah ak an i):=by
 obtain⟨ho,hn,bu,hlen,h0,hi,bB,hV,bE,de,aH,bA,cZ,c7,aT,hC⟩:=H_
 have cu:=ho;simp only[dF,bL] at cu
 exact wS mc 2000 ((fun(q1:Pl)=>(gJ 1 (.fk (gE 6 (.bI (.bJ (bn (.ofNat 13) th tx I v x ab) (gA 2 1 2 (.il (gC 8 4 (.fk .no (gA 1 2 15 (.kp (aB 13 th tx I v x ab (nT:Int) V (nS:Int)) inferInstance (gA 2 7 11 (.ix (.go 1 (.c2 False (.bool false) [(278,some (.cells 7 (Tr.fill (bn (.ofNat 13) th tx I v x ab) 0 .nil) []))] (.bool false) [(278,some (.cells 7 (Tr.fill (bn (.ofNat 13) th tx I v x ab) 0 .nil) []))] 279 [274,273,271] [271] .no (.go 1 q1))))) (.go 2 q1)))))))))) .no))) (gI 4 (gF 1 4))) (U (i<(len:Int)) (fun _=>aV i (len:Int) J J (ai hn (ai (c9 bB 0 7 ar) (U (an>=1048576) aA (fun _=>ai NZ (U (aB 13 th tx I v x ab (nT:Int) V (nS:Int)) (fun h3=>have hm:=eh h3;(have fF:=jU aT;(aV th (nT:Int) J J (ai (V0 (T:=T) (V:=V) (S:=S) (ak:=ak) (an:=an) (i:=i) (tx:=tx) (I:=I) (v:=v) (x:=x) (ab:=ab) (n:=n) (o:=o) (len:=len) (m:=m) (p:=p) (lo:=lo) (nT:=nT) aH bA nr de (hC J) hW) (ai (fun(h4:False)=>o9) (oj false (hF (fun z=>by have z:=z.2;omega)))))))) jj)))))) aA)
end eG
end
section
open Go Go.Rn Go.RowKit Go.Proofs
namespace eG
open cd cj cv cD cH cI cN gw eW fy fm fA
theorem evk{B:aZ}(mc:Mc (sp LN) 6 B){n o len m p lo nT nS:Nat}{T V S:Int}{aj:List Th}{ah:List Sr}{ak an i th tx I v x ab:Int}{k:Int}{v':AV}(hk:k<1\/13<k)(ho:dF (⟨k,th,tx,I,v,x,ab⟩:Ev))(hn:top<=n)(bu:top<=m)(hlen:len<=1000)(h0:0<=i)(hi:i<(len:Int))(bB:bM FU n (o+i.toNat*7) 7=some (bn k th tx I v x ab))(hV:1<=V/\V<=32)(bE:nT<=6)(de:nS<=32)(aH:aj.length*13<=top)(bA:ah.length*2<=top)(cZ:0<=an)(c7:an<=1000)(hF:¬(aB k th tx I v x ab (nT:Int) V (nS:Int)/\False)->v'= .bool false):FSQ B v' cg (aP n o len m p lo nT nS T V S aj ah ak an i):=by
 have cu:=ho;simp only[dF,bL] at cu
 exact wS mc 2000 (gJ 1 (.fk (gE 6 (.bI (.bJ (bn k th tx I v x ab) (gA 2 1 2 (.il (gC 8 4 (.fk .no (gA 1 2 15 (.kp (aB k th tx I v x ab (nT:Int) V (nS:Int)) inferInstance .no (gH 2 4 (gF 1 4))))))))))) .no)) (U (i<(len:Int)) (fun _=>aV i (len:Int) J J (ai hn (ai (c9 bB 0 7 ar) (U (an>=1048576) aA (fun _=>ai (jt k th tx I v x ab (nT:Int) V (nS:Int) ⟨ho,by unfold bL;omega⟩) (U (aB k th tx I v x ab (nT:Int) V (nS:Int)) (fun h3=>have hm:=eh h3;o9) jj)))))) aA)
end eG
end
section
open Go Go.Rn Go.RowKit Go.Proofs
namespace H6
open cd cj cv cD cH cI cN fx rz sE gw eW eG zV fy fm fA oo uN xz zU Dd
variable {h:List Ev} {ab S th x v tx V T ak:Int} {nS:Nat} {aj:List Th} {ah:List Sr} {e:Ev}
structure dQ (h:List Ev) (nT nS:Nat) (aj:List Th) (ah:List Sr) (ak:Int):Prop where
 th:∀th:Nat,th<nT->∃c,aj[th]? =some c/\bU (aG h th nS) (bZ h th nS) nS c
 sr:∀s:Nat,s<nS->ah[s]? =some ⟨bo h s,cx h s⟩
 ck:ak=ml h
 nt:aj.length=nT
 ns:ah.length=nS
theorem Nk(q:¬(e.az=th/\(e.kind=7\/e.kind=9)/\aS (aG (e::h) th S))):bZ (e::h) th S=bZ h th S:=if_neg q
theorem Mp(e:Ev)(q:(e.kind=7\/e.kind=9)/\aS (bR e S (aG h e.az S))):bZ (e::h) e.az S=bZ h e.az S+1:=if_pos ⟨rfl,q.1,by rw[rP];exact q.2⟩
theorem hM(e:Ev)(q:¬((e.kind=7\/e.kind=9)/\aS (bR e S (aG h e.az S)))):bZ (e::h) e.az S=bZ h e.az S:=Nk fun z=>q ⟨z.2.1,by rw[←rP];exact z.2.2⟩
theorem dQ.next{nT:Nat}(e:Ev)(r:dQ h nT nS aj ah ak)(fF:0<=e.az/\e.az<(nT:Int)){c':Th}(oq:bU (bR e nS (aG h e.az nS)) (bZ (e::h) e.az nS) nS c'){pn:List Sr}(hs:pn.length=nS)(pv:∀s:Nat,s<nS->pn[s]? =some ⟨iu e s (bo h s),mf e s (kN h e.az) (cx h s)⟩){pP:Int}(hk:pP=o8 e (ml h)):dQ (e::h) nT nS (aj.set e.az.toNat c') pn pP:=by
 refine⟨fun th cQ=>?_,pv,hk,by rw[List.length_set];exact r.nt,hs⟩
 by_cases q:e.az=th
 ·have e1:e.az.toNat=th:=by omega
  refine⟨c',?_,?_⟩
  ·rw[e1,List.getElem?_set_self (by rw[r.nt];exact cQ)]
  ·rw[←q,rP];exact oq
 ·obtain⟨c,h1,h2⟩:=r.th th cQ
  refine⟨c,?_,?_⟩
  ·rw[List.getElem?_set_ne J];exact h1
  ·rw[wt q,Nk (fun z=>q z.1)];exact h2
theorem jf{nT:Nat}(e:Ev)(r:dQ h nT nS aj ah ak)(hk:e.kind≠2/\e.kind≠4/\e.kind≠9/\e.kind≠11):∀s:Nat,s<nS->ah[s]? =some ⟨iu e s (bo h s),mf e s (kN h e.az) (cx h s)⟩:=by
 intro s hs
 rw[Bx J]
 unfold mf
 rw[if_neg J,if_neg J]
 exact r.sr s hs
theorem tW{nT:Nat}(e:Ev)(r:dQ h nT nS aj ah ak)(aW:0<=e.I/\e.I<(nS:Int))(q:Sr)(hq:q=⟨iu e e.I (bo h e.I),mf e e.I (kN h e.az) (cx h e.I)⟩):(ah.set e.I.toNat q).length=nS/\∀s:Nat,s<nS->(ah.set e.I.toNat q)[s]? =some ⟨iu e s (bo h s),mf e s (kN h e.az) (cx h s)⟩:=by
 refine⟨by rw[List.length_set];exact r.ns,fun s hs=>?_⟩
 by_cases z:e.I=s
 ·have e1:e.I.toNat=s:=by omega
  rw[e1,List.getElem?_set_self (by rw[r.ns];exact hs),hq,z]
 ·rw[List.getElem?_set_ne J,r.sr s hs]
  unfold iu mf
  rw[if_pos z,if_neg (fun y=>z y.1),if_neg (fun y=>z y.1)]
theorem T0{r:Int}(h:e.kind≠1/\e.kind≠5):r=o8 e r:=(if_neg J).symm
theorem ZH{a:bQ}{c:Th}{bm cm:Int}(d:cf a bm nS)(r:bU a cm nS c)(h:0<=cm/\cm<=1000):Db nS c:=by
 have h1:=r.u.1;have h2:=r.u.2.1;have h3:=r.u.2.2.1;have h4:=r.u.2.2.2
 refine⟨by rw[r.fP];exact h.1,by rw[r.fP];exact h.2,r.sp.1,r.sp.2,h1.1,h1.2,h2.1,h2.2,h3.1,h3.2,h4.1,h4.2,fun q=>?_⟩
 rw[r.I,xS] at q
 rw[r.rv (lC J)];exact d.rv
theorem Gc:∀(h:List Ev) (th S:Int),0<=bZ h th S/\bZ h th S<=(h.length:Int)
  |[],_,_=>⟨Int.le_refl 0,Int.le_refl 0⟩
  | e::h,th,S=>by
    have:=Gc h th S
    show 0<=p7 e th _ _/\p7 e th _ _<=_
    unfold p7
    rw[List.length_cons]
    split<;>omega
theorem dQ.get{nT:Nat}(r:dQ h nT nS aj ah ak)(Hh:zk h nS)(hS:1<=nS)(hb:h.length<=1000)(th:Int):∃c,(0<=th/\th<(nT:Int)->aj[th.toNat]? =some c/\bU (aG h th nS) (bZ h th nS) nS c)/\Db nS c:=by
 by_cases q:0<=th/\th<(nT:Int)
 ·obtain⟨c,h1,h2⟩:=r.th th.toNat J
  rw[show(th.toNat:Int)=th by omega] at h2
  have:=Gc h th nS
  exact⟨c,fun _=>⟨h1,h2⟩,ZH (Hh.doc th) h2 J⟩
 ·exact⟨default,fun z=>absurd z q,⟨Int.le_refl 0,ar,Int.le_refl 0,(by show(0:Int)<nS;omega),Int.le_refl 0,ar,Int.le_refl 0,ar,Int.le_refl 0,ar,Int.le_refl 0,ar,fun z=>absurd (show(0:Int)=3 from z) ar⟩⟩
theorem dQ.jW{nT:Nat}(r:dQ h nT nS aj ah ak){z:Int}(q:0<=z/\z<(nS:Int)):ah[z.toNat]? =some ⟨bo h z,cx h z⟩:=by
 have:=r.sr z.toNat J
 rwa[show(z.toNat:Int)=z by omega] at this
theorem Ch{I:Int}:cX h (⟨1,th,tx,I,v,x,ab⟩:Ev) T V S↔(aB 1 th tx I v x ab T V S/\(aS (aG h th S)/\(aG h th S).ab≠6/\tx=bZ h th S/\ml h<=v)):=⟨fun m=>⟨m.1,m.2.1 rfl⟩,fun z=>⟨z.1,fun _=>z.2,fun y=>absurd rfl y⟩⟩
theorem Ci{I:Int}:cX h (⟨2,th,tx,I,v,x,ab⟩:Ev) T V S↔(aB 2 th tx I v x ab T V S/\(¬aS (aG h th S)/\(((aG h th S).last=1\/(aG h th S).last=3)/\bo h I<0/\cx h I<=v/\v<=(aG h th S).rv))):=⟨fun m=>⟨m.1,(m.2.2 (show(2:Int)≠1 by decide)).1,HG.1 (m.2.2 (show(2:Int)≠1 by decide)).2⟩,fun z=>⟨z.1,fun y=>absurd (show(2:Int)=1 from y) ar,fun _=>⟨z.2.1,HG.2 z.2.2⟩⟩⟩
theorem Cj{I:Int}:cX h (⟨3,th,tx,I,v,x,ab⟩:Ev) T V S↔(aB 3 th tx I v x ab T V S/\(¬aS (aG h th S)/\((aG h th S).last=2/\(iP (aG h th S)).I=Int.tmod I S/\bo h (Int.tmod I S)<0/\cx h (Int.tmod I S)=(iP (aG h th S)).v))):=⟨fun m=>⟨m.1,(m.2.2 (show(3:Int)≠1 by decide)).1,HH.1 (m.2.2 (show(3:Int)≠1 by decide)).2⟩,fun z=>⟨z.1,fun y=>absurd (show(3:Int)=1 from y) ar,fun _=>⟨z.2.1,HH.2 z.2.2⟩⟩⟩
theorem Cl{I:Int}:cX h (⟨4,th,tx,I,v,x,ab⟩:Ev) T V S↔(aB 4 th tx I v x ab T V S/\(¬aS (aG h th S)/\((((aG h th S).last=1\/(aG h th S).last=3)\/(aG h th S).last=4)/\gQ (aG h th S).ao<I/\bo h I<0))):=⟨fun m=>⟨m.1,(m.2.2 (show(4:Int)≠1 by decide)).1,HI.1 (m.2.2 (show(4:Int)≠1 by decide)).2⟩,fun z=>⟨z.1,fun y=>absurd (show(4:Int)=1 from y) ar,fun _=>⟨z.2.1,HI.2 z.2.2⟩⟩⟩
theorem zf{I:Int}:cX h (⟨5,th,tx,I,v,x,ab⟩:Ev) T V S↔(aB 5 th tx I v x ab T V S/\(¬aS (aG h th S)/\((aG h th S).last=4/\ml h<v))):=⟨fun m=>⟨m.1,(m.2.2 (show(5:Int)≠1 by decide)).1,HJ.1 (m.2.2 (show(5:Int)≠1 by decide)).2⟩,fun z=>⟨z.1,fun y=>absurd (show(5:Int)=1 from y) ar,fun _=>⟨z.2.1,HJ.2 z.2.2⟩⟩⟩
theorem Cn{I:Int}:cX h (⟨6,th,tx,I,v,x,ab⟩:Ev) T V S↔(aB 6 th tx I v x ab T V S/\(¬aS (aG h th S)/\(((aG h th S).last=5\/(aG h th S).last=6)/\(dE (aG h th S)).head?=some I/\¬(0<=bo h I/\bo h I≠th)/\cx h I<=(aG h th S).rv))):=⟨fun m=>⟨m.1,(m.2.2 (show(6:Int)≠1 by decide)).1,HK.1 (m.2.2 (show(6:Int)≠1 by decide)).2⟩,fun z=>⟨z.1,fun y=>absurd (show(6:Int)=1 from y) ar,fun _=>⟨z.2.1,HK.2 z.2.2⟩⟩⟩
theorem zg{I:Int}:cX h (⟨7,th,tx,I,v,x,ab⟩:Ev) T V S↔(aB 7 th tx I v x ab T V S/\(¬aS (aG h th S)/\((v=0->(aG h th S).last=1\/(aG h th S).last=3)/\(v≠0->((aG h th S).last=5\/(aG h th S).last=6)/\dE (aG h th S)=[]/\v=(aG h th S).wv)))):=⟨fun m=>⟨m.1,(m.2.2 (show(7:Int)≠1 by decide)).1,HL.1 (m.2.2 (show(7:Int)≠1 by decide)).2⟩,fun z=>⟨z.1,fun y=>absurd (show(7:Int)=1 from y) ar,fun _=>⟨z.2.1,HL.2 z.2.2⟩⟩⟩
theorem Co{I:Int}:cX h (⟨8,th,tx,I,v,x,ab⟩:Ev) T V S↔(aB 8 th tx I v x ab T V S/\(¬aS (aG h th S)/\(((aG h th S).last=7\/(aG h th S).last=8)/\gQ (aG h th S).aC<I/\bo h (Int.tmod I S)=th))):=⟨fun m=>⟨m.1,(m.2.2 (show(8:Int)≠1 by decide)).1,HM.1 (m.2.2 (show(8:Int)≠1 by decide)).2⟩,fun z=>⟨z.1,fun y=>absurd (show(8:Int)=1 from y) ar,fun _=>⟨z.2.1,HM.2 z.2.2⟩⟩⟩
theorem zi{I:Int}:cX h (⟨9,th,tx,I,v,x,ab⟩:Ev) T V S↔(aB 9 th tx I v x ab T V S/\(¬aS (aG h th S)/\(((aG h th S).last=8/\(gb (aG h th S).aC S).length=(aG h th S).ao.length\/(aG h th S).last=9)/\(aG h th S).ao[(aG h th S).ax.length]? =some I))):=⟨fun m=>⟨m.1,(m.2.2 (show(9:Int)≠1 by decide)).1,HN.1 (m.2.2 (show(9:Int)≠1 by decide)).2⟩,fun z=>⟨z.1,fun y=>absurd (show(9:Int)=1 from y) ar,fun _=>⟨z.2.1,HN.2 z.2.2⟩⟩⟩
theorem wO{I:Int}:cX h (⟨11,th,tx,I,v,x,ab⟩:Ev) T V S↔(aB 11 th tx I v x ab T V S/\(¬aS (aG h th S)/\(((aG h th S).last=10\/(aG h th S).last=11)/\(aG h th S).ao[(aG h th S).ax.length]? =some I))):=⟨fun m=>⟨m.1,(m.2.2 (show(11:Int)≠1 by decide)).1,GJ.1 (m.2.2 (show(11:Int)≠1 by decide)).2⟩,fun z=>⟨z.1,fun y=>absurd (show(11:Int)=1 from y) ar,fun _=>⟨z.2.1,GJ.2 z.2.2⟩⟩⟩
theorem BZ{I:Int}:cX h (⟨12,th,tx,I,v,x,ab⟩:Ev) T V S↔(aB 12 th tx I v x ab T V S/\(¬aS (aG h th S)/\((aG h th S).last=1\/(aG h th S).last=3))):=⟨fun m=>⟨m.1,(m.2.2 (show(12:Int)≠1 by decide)).1,GK.1 (m.2.2 (show(12:Int)≠1 by decide)).2⟩,fun z=>⟨z.1,fun y=>absurd (show(12:Int)=1 from y) ar,fun _=>⟨z.2.1,GK.2 z.2.2⟩⟩⟩
theorem B0{I:Int}:cX h (⟨13,th,tx,I,v,x,ab⟩:Ev) T V S↔(aB 13 th tx I v x ab T V S/\(¬aS (aG h th S)/\((aG h th S).last=12/\∃s∈(aG h th S).read,bo h s<0/\(aG h th S).rv<cx h s))):=⟨fun m=>⟨m.1,(m.2.2 (show(13:Int)≠1 by decide)).1,GL.1 (m.2.2 (show(13:Int)≠1 by decide)).2⟩,fun z=>⟨z.1,fun y=>absurd (show(13:Int)=1 from y) ar,fun _=>⟨z.2.1,GL.2 z.2.2⟩⟩⟩
theorem Fi{I:Int}:cX h (⟨10,th,tx,I,v,x,1⟩:Ev) T V S↔(aB 10 th tx I v x 1 T V S/\(¬aS (aG h th S)/\(((aG h th S).last=1\/(aG h th S).last=3)/\0<=bo h I/\bo h I≠th))):=⟨fun m=>⟨m.1,(m.2.2 (show(10:Int)≠1 by decide)).1,HP.1 (kb.1 (m.2.2 (show(10:Int)≠1 by decide)).2)⟩,fun z=>⟨z.1,fun y=>absurd (show(10:Int)=1 from y) ar,fun _=>⟨z.2.1,kb.2 (HP.2 z.2.2)⟩⟩⟩
theorem Fj{I:Int}:cX h (⟨10,th,tx,I,v,x,2⟩:Ev) T V S↔(aB 10 th tx I v x 2 T V S/\(¬aS (aG h th S)/\(((aG h th S).last=1\/(aG h th S).last=3)/\bo h I<0/\(aG h th S).rv<cx h I))):=⟨fun m=>⟨m.1,(m.2.2 (show(10:Int)≠1 by decide)).1,HQ.1 (kb.1 (m.2.2 (show(10:Int)≠1 by decide)).2)⟩,fun z=>⟨z.1,fun y=>absurd (show(10:Int)=1 from y) ar,fun _=>⟨z.2.1,kb.2 (HQ.2 z.2.2)⟩⟩⟩
theorem Fk{I:Int}:cX h (⟨10,th,tx,I,v,x,3⟩:Ev) T V S↔(aB 10 th tx I v x 3 T V S/\(¬aS (aG h th S)/\((aG h th S).last=2/\(iP (aG h th S)).I=I/\(0<=bo h I\/cx h I≠(iP (aG h th S)).v)))):=⟨fun m=>⟨m.1,(m.2.2 (show(10:Int)≠1 by decide)).1,HR.1 (kb.1 (m.2.2 (show(10:Int)≠1 by decide)).2)⟩,fun z=>⟨z.1,fun y=>absurd (show(10:Int)=1 from y) ar,fun _=>⟨z.2.1,kb.2 (HR.2 z.2.2)⟩⟩⟩
theorem Fl{I:Int}:cX h (⟨10,th,tx,I,v,x,4⟩:Ev) T V S↔(aB 10 th tx I v x 4 T V S/\(¬aS (aG h th S)/\((((aG h th S).last=1\/(aG h th S).last=3)\/(aG h th S).last=4)/\gQ (aG h th S).ao<I/\0<=bo h I/\bo h I≠th))):=⟨fun m=>⟨m.1,(m.2.2 (show(10:Int)≠1 by decide)).1,HS.1 (kb.1 (m.2.2 (show(10:Int)≠1 by decide)).2)⟩,fun z=>⟨z.1,fun y=>absurd (show(10:Int)=1 from y) ar,fun _=>⟨z.2.1,kb.2 (HS.2 z.2.2)⟩⟩⟩
theorem Fo{I:Int}:cX h (⟨10,th,tx,I,v,x,5⟩:Ev) T V S↔(aB 10 th tx I v x 5 T V S/\(¬aS (aG h th S)/\(((aG h th S).last=5\/(aG h th S).last=6)/\(dE (aG h th S)).head?=some I/\((0<=bo h I/\bo h I≠th)\/(aG h th S).rv<cx h I)))):=⟨fun m=>⟨m.1,(m.2.2 (show(10:Int)≠1 by decide)).1,HT.1 (kb.1 (m.2.2 (show(10:Int)≠1 by decide)).2)⟩,fun z=>⟨z.1,fun y=>absurd (show(10:Int)=1 from y) ar,fun _=>⟨z.2.1,kb.2 (HT.2 z.2.2)⟩⟩⟩
theorem Fp{I:Int}:cX h (⟨10,th,tx,I,v,x,6⟩:Ev) T V S↔(aB 10 th tx I v x 6 T V S/\(¬aS (aG h th S)/\((aG h th S).last=4))):=⟨fun m=>⟨m.1,(m.2.2 (show(10:Int)≠1 by decide)).1,HU.1 (kb.1 (m.2.2 (show(10:Int)≠1 by decide)).2)⟩,fun z=>⟨z.1,fun y=>absurd (show(10:Int)=1 from y) ar,fun _=>⟨z.2.1,kb.2 (HU.2 z.2.2)⟩⟩⟩
theorem ku(h:1<=nS/\nS<=32):0<(nS:Int)/\(nS:Int)<=32:=by omega
theorem kv{nT:Nat}(r:dQ h nT nS aj ah ak)(h6:nT<=6):aj.length*13<=top:=by rw[r.nt];unfold top;omega
theorem kx{nT:Nat}(r:dQ h nT nS aj ah ak)(h1:1<=nS/\nS<=32):ah.length*2<=top:=by rw[r.ns];unfold top;omega
theorem cz{k I:Int}{nT:Nat}(hq:aB k th tx I v x ab (nT:Int) V (nS:Int)):0<=th/\th<(nT:Int):=by have:=eh hq;omega
abbrev ke(K W:Int):Prop:=∀{B:aZ} (mc:Mc (sp LN) 6 B) {n o len m p lo nT nS:Nat} {T V S:Int} {aj:List Th} {ah:List Sr} {ak an i th tx I v x:Int} {h:List Ev} {v':AV} (Hh:zk h nS) (r:dQ h nT nS aj ah ak) (hb:h.length<=1000) (ho:dF (⟨K,th,tx,I,v,x,W⟩:Ev)) (hn:top<=n) (bu:top<=m) (hlen:len<=1000) (h0:0<=i) (hi:i<(len:Int)) (bB:bM FU n (o+i.toNat*7) 7=some (bn K th tx I v x W)) (hV:1<=V/\V<=32) (bE:nT<=6) (bq:1<=nS/\nS<=32) (cZ:0<=an) (c7:an<=1000) (cK:¬cX h (⟨K,th,tx,I,v,x,W⟩:Ev) (nT:Int) V (nS:Int)->v'= .bool false) (dx:cX h (⟨K,th,tx,I,v,x,W⟩:Ev) (nT:Int) V (nS:Int)->∀uO pn pP,dQ ((⟨K,th,tx,I,v,x,W⟩:Ev)::h) nT nS uO pn pP->FSQ B v' cg (aP n o len m p lo nT nS T V S uO pn pP (an+1) (i+1))),FSQ B v' cg (aP n o len m p lo nT nS T V S aj ah ak an i)
theorem sp1:ke 1 ab:=by
 intro B mc n o len m p lo nT nS T V S aj ah ak an i th tx I v x h v' Hh r hb ho hn bu hlen h0 hi bB hV bE bq cZ c7 cK dx
 obtain⟨c,hC,aT⟩:=r.get Hh bq.1 hb th
 have d:=Hh.doc th
 have de:(nS:Int)<=32:=by omega
 have hS:=ku bq
 have rat:aB 1 th tx I v x ab (nT:Int) V (nS:Int)->0<=I/\I<(nS:Int):=fun hq=>by have:=eh hq;omega
 have rq:aB 1 th tx I v x ab (nT:Int) V (nS:Int)->I<(nS:Int):=fun hq=>(rat hq).2
 have hm:cX h (⟨1,th,tx,I,v,x,ab⟩:Ev) (nT:Int) V (nS:Int)↔(aB 1 th tx I v x ab (nT:Int) V (nS:Int)/\(c.I=0/\tx=c.cc/\ak<=v)):=Ch.trans (and_congr_right fun hq=>by have r':=(hC (cz hq)).2;rw[r.ck];exact Zw d r')
 have aH:=kv r bE
 have bA:=kx r bq
 refine ev1 (c:=c) (q:=⟨bo h I,cx h I⟩) mc ⟨ho,hn,bu,hlen,h0,hi,bB,hV,bE,bq.2,aH,bA,cZ,c7,aT,fun q=>(hC q).1⟩ (fun q=>r.jW q) (fun z=>cK fun y=>z (hm.1 y)) (fun z=>?_)
 ·have hq:=z.1
  have M:=hm.2 ⟨z.1,z.2⟩
  have m:=(Ch.1 M).2
  have r':=(hC (cz hq)).2
  have t':=Zq th tx I v x ab d r' hS
  have cm:=(hM (⟨1,th,tx,I,v,x,ab⟩:Ev) (fun y=>by have:=y.1;simp at this):bZ ((⟨1,th,tx,I,v,x,ab⟩:Ev)::h) th (nS:Int)=_)
  have t2:bU (bR (⟨1,th,tx,I,v,x,ab⟩:Ev) (nS:Int) (aG h th (nS:Int))) (bZ ((⟨1,th,tx,I,v,x,ab⟩:Ev)::h) th (nS:Int)) (nS:Int) {c with I:=1,rv:=v,wv:=0,bX:=0,v:=0,read:=0,au:=0,aC:=0,check:=0,ao:=(-1),gx:=(-1),full:=false}:=by rw[cm,HV];exact t'
  have s1:=r.ns
  have s2:=jf (⟨1,th,tx,I,v,x,ab⟩:Ev) r cR
  exact dx M _ _ _ (dQ.next (⟨1,th,tx,I,v,x,ab⟩:Ev) r (cz hq) t2 s1 s2 rfl)
theorem sp2:ke 2 ab:=by
 intro B mc n o len m p lo nT nS T V S aj ah ak an i th tx I v x h v' Hh r hb ho hn bu hlen h0 hi bB hV bE bq cZ c7 cK dx
 obtain⟨c,hC,aT⟩:=r.get Hh bq.1 hb th
 have d:=Hh.doc th
 have de:(nS:Int)<=32:=by omega
 have hS:=ku bq
 have rat:aB 2 th tx I v x ab (nT:Int) V (nS:Int)->0<=I/\I<(nS:Int):=fun hq=>by have:=eh hq;omega
 have rq:aB 2 th tx I v x ab (nT:Int) V (nS:Int)->I<(nS:Int):=fun hq=>(rat hq).2
 have hm:cX h (⟨2,th,tx,I,v,x,ab⟩:Ev) (nT:Int) V (nS:Int)↔(aB 2 th tx I v x ab (nT:Int) V (nS:Int)/\(c.I=1/\bo h I= -1/\cx h I<=v/\v<=c.rv)):=Ci.trans (and_congr_right fun hq=>by have r':=(hC (cz hq)).2;exact Zx d r' (Hh.low _))
 have aH:=kv r bE
 have bA:=kx r bq
 refine ev2 (c:=c) (q:=⟨bo h I,cx h I⟩) mc ⟨ho,hn,bu,hlen,h0,hi,bB,hV,bE,bq.2,aH,bA,cZ,c7,aT,fun q=>(hC q).1⟩ (fun q=>r.jW q) (fun z=>cK fun y=>z (hm.1 y)) (fun z=>?_)
 ·have hq:=z.1
  have M:=hm.2 ⟨z.1,z.2⟩
  have m:=(Ci.1 M).2
  have r':=(hC (cz hq)).2
  have t':=Zr th tx I v x ab d r' hS m.1 m.2.1 (rat hq)
  have cm:=(hM (⟨2,th,tx,I,v,x,ab⟩:Ev) (fun y=>by have:=y.1;simp at this):bZ ((⟨2,th,tx,I,v,x,ab⟩:Ev)::h) th (nS:Int)=_)
  have t2:bU (bR (⟨2,th,tx,I,v,x,ab⟩:Ev) (nS:Int) (aG h th (nS:Int))) (bZ ((⟨2,th,tx,I,v,x,ab⟩:Ev)::h) th (nS:Int)) (nS:Int) {c with I:=2,bX:=I,v:=v}:=by rw[cm,HW];exact t'
  obtain⟨s1,s2⟩:=tW (⟨2,th,tx,I,v,x,ab⟩:Ev) r (rat hq) {(⟨bo h I,cx h I⟩:Sr) with version:=v} (by rw[Bx cR];show _=Sr.mk _ (if I=I/\(2:Int)=2 then v else _);rw[if_pos ⟨rfl,rfl⟩])
  exact dx M _ _ _ (dQ.next (⟨2,th,tx,I,v,x,ab⟩:Ev) r (cz hq) t2 s1 s2 iA)
theorem sp3:ke 3 ab:=by
 intro B mc n o len m p lo nT nS T V S aj ah ak an i th tx I v x h v' Hh r hb ho hn bu hlen h0 hi bB hV bE bq cZ c7 cK dx
 obtain⟨c,hC,aT⟩:=r.get Hh bq.1 hb th
 have d:=Hh.doc th
 have de:(nS:Int)<=32:=by omega
 have hS:=ku bq
 have rm:aB 3 th tx I v x ab (nT:Int) V (nS:Int)->0<=Int.tmod I (nS:Int)/\Int.tmod I (nS:Int)<(nS:Int):=fun hq=>⟨Int.tmod_nonneg _ (by have:=eh hq;omega),Int.tmod_lt_of_pos _ hS.1⟩
 have hm:cX h (⟨3,th,tx,I,v,x,ab⟩:Ev) (nT:Int) V (nS:Int)↔(aB 3 th tx I v x ab (nT:Int) V (nS:Int)/\(c.I=2/\Int.tmod I (nS:Int)=c.bX/\bo h c.bX= -1/\cx h c.bX=c.v)):=Cj.trans (and_congr_right fun hq=>by have r':=(hC (cz hq)).2;exact Zy d r' Hh.low)
 have aH:=kv r bE
 have bA:=kx r bq
 refine ev3 (c:=c) (q:=⟨bo h c.bX,cx h c.bX⟩) mc ⟨ho,hn,bu,hlen,h0,hi,bB,hV,bE,bq.2,aH,bA,cZ,c7,aT,fun q=>(hC q).1⟩ (fun q=>r.jW q) (fun z=>cK fun y=>z (hm.1 y)) (fun z=>?_)
 ·have hq:=z.1
  have M:=hm.2 ⟨z.1,z.2⟩
  have m:=(Cj.1 M).2
  have r':=(hC (cz hq)).2
  have t':=Zs th tx I v x ab d r' hS m.1 m.2.1 z.2.2.1
  have cm:=(hM (⟨3,th,tx,I,v,x,ab⟩:Ev) (fun y=>by have:=y.1;simp at this):bZ ((⟨3,th,tx,I,v,x,ab⟩:Ev)::h) th (nS:Int)=_)
  have t2:bU (bR (⟨3,th,tx,I,v,x,ab⟩:Ev) (nS:Int) (aG h th (nS:Int))) (bZ ((⟨3,th,tx,I,v,x,ab⟩:Ev)::h) th (nS:Int)) (nS:Int) {c with I:=1,read:=(aq .or .u32 c.read (aq .shl .u32 1 c.bX))}:=by rw[cm,HX];exact t'
  have s1:=r.ns
  have s2:=jf (⟨3,th,tx,I,v,x,ab⟩:Ev) r cR
  exact dx M _ _ _ (dQ.next (⟨3,th,tx,I,v,x,ab⟩:Ev) r (cz hq) t2 s1 s2 iA)
theorem sp4:ke 4 ab:=by
 intro B mc n o len m p lo nT nS T V S aj ah ak an i th tx I v x h v' Hh r hb ho hn bu hlen h0 hi bB hV bE bq cZ c7 cK dx
 obtain⟨c,hC,aT⟩:=r.get Hh bq.1 hb th
 have d:=Hh.doc th
 have de:(nS:Int)<=32:=by omega
 have hS:=ku bq
 have rat:aB 4 th tx I v x ab (nT:Int) V (nS:Int)->0<=I/\I<(nS:Int):=fun hq=>by have:=eh hq;omega
 have rq:aB 4 th tx I v x ab (nT:Int) V (nS:Int)->I<(nS:Int):=fun hq=>(rat hq).2
 have hm:cX h (⟨4,th,tx,I,v,x,ab⟩:Ev) (nT:Int) V (nS:Int)↔(aB 4 th tx I v x ab (nT:Int) V (nS:Int)/\((c.I=1\/c.I=3)/\c.ao<I/\bo h I= -1)):=Cl.trans (and_congr_right fun hq=>by have r':=(hC (cz hq)).2;exact Zz d r' (Hh.low _))
 have aH:=kv r bE
 have bA:=kx r bq
 refine ev4 (c:=c) (q:=⟨bo h I,cx h I⟩) mc ⟨ho,hn,bu,hlen,h0,hi,bB,hV,bE,bq.2,aH,bA,cZ,c7,aT,fun q=>(hC q).1⟩ (fun q=>r.jW q) (fun z=>cK fun y=>z (hm.1 y)) (fun z=>?_)
 ·have hq:=z.1
  have M:=hm.2 ⟨z.1,z.2⟩
  have m:=(Cl.1 M).2
  have r':=(hC (cz hq)).2
  have t':=Zt th tx I v x ab d r' hS m.1 m8 (rat hq)
  have cm:=(hM (⟨4,th,tx,I,v,x,ab⟩:Ev) (fun y=>by have:=y.1;simp at this):bZ ((⟨4,th,tx,I,v,x,ab⟩:Ev)::h) th (nS:Int)=_)
  have t2:bU (bR (⟨4,th,tx,I,v,x,ab⟩:Ev) (nS:Int) (aG h th (nS:Int))) (bZ ((⟨4,th,tx,I,v,x,ab⟩:Ev)::h) th (nS:Int)) (nS:Int) {c with I:=3,au:=(aq .or .u32 c.au (aq .shl .u32 1 I)),ao:=I}:=by rw[cm,HY];exact t'
  obtain⟨s1,s2⟩:=tW (⟨4,th,tx,I,v,x,ab⟩:Ev) r (rat hq) {(⟨bo h I,cx h I⟩:Sr) with owner:=th} (by rw[GP rfl,if_pos rfl];show _=Sr.mk _ (if I=I/\(4:Int)=2 then v else if I=I/\(4:Int)=9 then _ else _);rw[if_neg cR,if_neg cR])
  exact dx M _ _ _ (dQ.next (⟨4,th,tx,I,v,x,ab⟩:Ev) r (cz hq) t2 s1 s2 iA)
theorem sp5:ke 5 ab:=by
 intro B mc n o len m p lo nT nS T V S aj ah ak an i th tx I v x h v' Hh r hb ho hn bu hlen h0 hi bB hV bE bq cZ c7 cK dx
 obtain⟨c,hC,aT⟩:=r.get Hh bq.1 hb th
 have d:=Hh.doc th
 have de:(nS:Int)<=32:=by omega
 have hS:=ku bq
 have rat:aB 5 th tx I v x ab (nT:Int) V (nS:Int)->0<=I/\I<(nS:Int):=fun hq=>by have:=eh hq;omega
 have rq:aB 5 th tx I v x ab (nT:Int) V (nS:Int)->I<(nS:Int):=fun hq=>(rat hq).2
 have hm:cX h (⟨5,th,tx,I,v,x,ab⟩:Ev) (nT:Int) V (nS:Int)↔(aB 5 th tx I v x ab (nT:Int) V (nS:Int)/\(c.I=3/\ak<v)):=zf.trans (and_congr_right fun hq=>by have r':=(hC (cz hq)).2;rw[r.ck];exact ZA d r')
 have aH:=kv r bE
 have bA:=kx r bq
 refine ev5 (c:=c) (q:=⟨bo h I,cx h I⟩) mc ⟨ho,hn,bu,hlen,h0,hi,bB,hV,bE,bq.2,aH,bA,cZ,c7,aT,fun q=>(hC q).1⟩ (fun q=>r.jW q) (fun z=>cK fun y=>z (hm.1 y)) (fun z=>?_) (fun z=>?_)
 ·have hq:=z.1
  have M:=hm.2 ⟨z.1,z.2.1⟩
  have m:=(zf.1 M).2
  have r':=(hC (cz hq)).2
  have t':=Xy th tx I v x ab d r' hS m.1 m.2.1 z.2.2
  have cm:=(hM (⟨5,th,tx,I,v,x,ab⟩:Ev) (fun y=>by have:=y.1;simp at this):bZ ((⟨5,th,tx,I,v,x,ab⟩:Ev)::h) th (nS:Int)=_)
  have t2:bU (bR (⟨5,th,tx,I,v,x,ab⟩:Ev) (nS:Int) (aG h th (nS:Int))) (bZ ((⟨5,th,tx,I,v,x,ab⟩:Ev)::h) th (nS:Int)) (nS:Int) {c with I:=4,wv:=v,check:=c.read}:=by rw[cm,Dc];exact t'
  have s1:=r.ns
  have s2:=jf (⟨5,th,tx,I,v,x,ab⟩:Ev) r cR
  exact dx M _ _ _ (dQ.next (⟨5,th,tx,I,v,x,ab⟩:Ev) r (cz hq) t2 s1 s2 rfl)
 ·have hq:=z.1
  have M:=hm.2 ⟨z.1,z.2.1⟩
  have m:=(zf.1 M).2
  have r':=(hC (cz hq)).2
  have t':=Xz th tx I v x ab d r' hS m.1 m.2.1 z.2.2
  have cm:=(hM (⟨5,th,tx,I,v,x,ab⟩:Ev) (fun y=>by have:=y.1;simp at this):bZ ((⟨5,th,tx,I,v,x,ab⟩:Ev)::h) th (nS:Int)=_)
  have t2:bU (bR (⟨5,th,tx,I,v,x,ab⟩:Ev) (nS:Int) (aG h th (nS:Int))) (bZ ((⟨5,th,tx,I,v,x,ab⟩:Ev)::h) th (nS:Int)) (nS:Int) {c with I:=4,wv:=v}:=by rw[cm,Dc];exact t'
  have s1:=r.ns
  have s2:=jf (⟨5,th,tx,I,v,x,ab⟩:Ev) r cR
  exact dx M _ _ _ (dQ.next (⟨5,th,tx,I,v,x,ab⟩:Ev) r (cz hq) t2 s1 s2 rfl)
theorem sp6:ke 6 ab:=by
 intro B mc n o len m p lo nT nS T V S aj ah ak an i th tx I v x h v' Hh r hb ho hn bu hlen h0 hi bB hV bE bq cZ c7 cK dx
 obtain⟨c,hC,aT⟩:=r.get Hh bq.1 hb th
 have d:=Hh.doc th
 have de:(nS:Int)<=32:=by omega
 have hS:=ku bq
 have rat:aB 6 th tx I v x ab (nT:Int) V (nS:Int)->0<=I/\I<(nS:Int):=fun hq=>by have:=eh hq;omega
 have rq:aB 6 th tx I v x ab (nT:Int) V (nS:Int)->I<(nS:Int):=fun hq=>(rat hq).2
 have hm:cX h (⟨6,th,tx,I,v,x,ab⟩:Ev) (nT:Int) V (nS:Int)↔(aB 6 th tx I v x ab (nT:Int) V (nS:Int)/\(c.I=4/\I=eB c.check/\¬(bo h I≠ -1/\bo h I≠th)/\cx h I<=c.rv)):=Cn.trans (and_congr_right fun hq=>by have r':=(hC (cz hq)).2;exact ZB d r' de (rq hq) (Hh.low _))
 have aH:=kv r bE
 have bA:=kx r bq
 refine ev6 (c:=c) (q:=⟨bo h I,cx h I⟩) mc ⟨ho,hn,bu,hlen,h0,hi,bB,hV,bE,bq.2,aH,bA,cZ,c7,aT,fun q=>(hC q).1⟩ (fun q=>r.jW q) (fun z=>cK fun y=>z (hm.1 y)) (fun z=>?_)
 ·have hq:=z.1
  have M:=hm.2 ⟨z.1,z.2⟩
  have m:=(Cn.1 M).2
  have r':=(hC (cz hq)).2
  have t':=Zu th tx I v x ab d r' hS m.1 m.2.1 (rat hq) m.2.2.1
  have cm:=(hM (⟨6,th,tx,I,v,x,ab⟩:Ev) (fun y=>by have:=y.1;simp at this):bZ ((⟨6,th,tx,I,v,x,ab⟩:Ev)::h) th (nS:Int)=_)
  have t2:bU (bR (⟨6,th,tx,I,v,x,ab⟩:Ev) (nS:Int) (aG h th (nS:Int))) (bZ ((⟨6,th,tx,I,v,x,ab⟩:Ev)::h) th (nS:Int)) (nS:Int) {c with check:=(aq .andNot .u32 c.check (aq .shl .u32 1 I))}:=by rw[cm,HZ];exact t'
  have s1:=r.ns
  have s2:=jf (⟨6,th,tx,I,v,x,ab⟩:Ev) r cR
  exact dx M _ _ _ (dQ.next (⟨6,th,tx,I,v,x,ab⟩:Ev) r (cz hq) t2 s1 s2 iA)
theorem sp7:ke 7 ab:=by
 intro B mc n o len m p lo nT nS T V S aj ah ak an i th tx I v x h v' Hh r hb ho hn bu hlen h0 hi bB hV bE bq cZ c7 cK dx
 obtain⟨c,hC,aT⟩:=r.get Hh bq.1 hb th
 have d:=Hh.doc th
 have de:(nS:Int)<=32:=by omega
 have hS:=ku bq
 have rat:aB 7 th tx I v x ab (nT:Int) V (nS:Int)->0<=I/\I<(nS:Int):=fun hq=>by have:=eh hq;omega
 have rq:aB 7 th tx I v x ab (nT:Int) V (nS:Int)->I<(nS:Int):=fun hq=>(rat hq).2
 have hm:cX h (⟨7,th,tx,I,v,x,ab⟩:Ev) (nT:Int) V (nS:Int)↔(aB 7 th tx I v x ab (nT:Int) V (nS:Int)/\(v=0/\c.I=1\/v≠0/\c.I=4/\c.check=0/\v=c.wv)):=zg.trans (and_congr_right fun hq=>by have r':=(hC (cz hq)).2;exact ZC d r' de)
 have aH:=kv r bE
 have bA:=kx r bq
 refine ev7 (c:=c) (q:=⟨bo h I,cx h I⟩) mc ⟨ho,hn,bu,hlen,h0,hi,bB,hV,bE,bq.2,aH,bA,cZ,c7,aT,fun q=>(hC q).1⟩ (fun q=>r.jW q) (fun z=>cK fun y=>z (hm.1 y)) (fun z=>?_) (fun z=>?_)
 ·have hq:=z.1
  have M:=hm.2 ⟨z.1,z.2.1⟩
  have m:=(zg.1 M).2
  have r':=(hC (cz hq)).2
  have t':=XA th tx I v x ab d r' hS m.1 (m.2.1 z.2.2)
  have cm:=(Mp (⟨7,th,tx,I,v,x,ab⟩:Ev) ⟨by simp,by rw[xx];exact(n9.1 (t'.I.symm.trans rfl)).1⟩:bZ ((⟨7,th,tx,I,v,x,ab⟩:Ev)::h) th (nS:Int)=_)
  have t2:bU (bR (⟨7,th,tx,I,v,x,ab⟩:Ev) (nS:Int) (aG h th (nS:Int))) (bZ ((⟨7,th,tx,I,v,x,ab⟩:Ev)::h) th (nS:Int)) (nS:Int) {c with I:=0,cc:=(c.cc+1)}:=by rw[cm,xx];exact t'
  have s1:=r.ns
  have s2:=jf (⟨7,th,tx,I,v,x,ab⟩:Ev) r cR
  exact dx M _ _ _ (dQ.next (⟨7,th,tx,I,v,x,ab⟩:Ev) r (cz hq) t2 s1 s2 iA)
 ·have hq:=z.1
  have M:=hm.2 ⟨z.1,z.2.1⟩
  have m:=(zg.1 M).2
  have r':=(hC (cz hq)).2
  have t':=XB th tx I v x ab d r' hS m.1 (m.2.2 z.2.2).1
  have cm:=(hM (⟨7,th,tx,I,v,x,ab⟩:Ev) (fun y=>by have:=y.2;rw[xx] at this;exact(xT.1 (t'.I.symm.trans rfl)).1 this):bZ ((⟨7,th,tx,I,v,x,ab⟩:Ev)::h) th (nS:Int)=_)
  have t2:bU (bR (⟨7,th,tx,I,v,x,ab⟩:Ev) (nS:Int) (aG h th (nS:Int))) (bZ ((⟨7,th,tx,I,v,x,ab⟩:Ev)::h) th (nS:Int)) (nS:Int) {c with I:=5}:=by rw[cm,xx];exact t'
  have s1:=r.ns
  have s2:=jf (⟨7,th,tx,I,v,x,ab⟩:Ev) r cR
  exact dx M _ _ _ (dQ.next (⟨7,th,tx,I,v,x,ab⟩:Ev) r (cz hq) t2 s1 s2 iA)
theorem sp8:ke 8 ab:=by
 intro B mc n o len m p lo nT nS T V S aj ah ak an i th tx I v x h v' Hh r hb ho hn bu hlen h0 hi bB hV bE bq cZ c7 cK dx
 obtain⟨c,hC,aT⟩:=r.get Hh bq.1 hb th
 have d:=Hh.doc th
 have de:(nS:Int)<=32:=by omega
 have hS:=ku bq
 have rm:aB 8 th tx I v x ab (nT:Int) V (nS:Int)->0<=Int.tmod I (nS:Int)/\Int.tmod I (nS:Int)<(nS:Int):=fun hq=>⟨Int.tmod_nonneg _ (by have:=eh hq;omega),Int.tmod_lt_of_pos _ hS.1⟩
 have hm:cX h (⟨8,th,tx,I,v,x,ab⟩:Ev) (nT:Int) V (nS:Int)↔(aB 8 th tx I v x ab (nT:Int) V (nS:Int)/\(c.I=5/\c.gx<I/\aq .and .u32 (aq .shr .u32 c.au (Int.tmod I (nS:Int))) 1≠0)):=Co.trans (and_congr_right fun hq=>by have r':=(hC (cz hq)).2;exact ZD d r' de (rm hq) (Hh.own _ _ (cz hq).1))
 have aH:=kv r bE
 have bA:=kx r bq
 refine ev8 (c:=c) (q:=⟨bo h I,cx h I⟩) mc ⟨ho,hn,bu,hlen,h0,hi,bB,hV,bE,bq.2,aH,bA,cZ,c7,aT,fun q=>(hC q).1⟩ (fun q=>r.jW q) (fun z=>cK fun y=>z (hm.1 y)) (fun z=>?_)
 ·have hq:=z.1
  have M:=hm.2 ⟨z.1,z.2⟩
  have m:=(Co.1 M).2
  have r':=(hC (cz hq)).2
  have t':=Zv th tx I v x ab d r' hS m.1 m.2.1 (rm hq)
  have cm:=(hM (⟨8,th,tx,I,v,x,ab⟩:Ev) (fun y=>by have:=y.1;simp at this):bZ ((⟨8,th,tx,I,v,x,ab⟩:Ev)::h) th (nS:Int)=_)
  have t2:bU (bR (⟨8,th,tx,I,v,x,ab⟩:Ev) (nS:Int) (aG h th (nS:Int))) (bZ ((⟨8,th,tx,I,v,x,ab⟩:Ev)::h) th (nS:Int)) (nS:Int) {c with aC:=(aq .or .u32 c.aC (aq .shl .u32 1 (Int.tmod I (nS:Int)))),gx:=I}:=by rw[cm,H3];exact t'
  have s1:=r.ns
  have s2:=jf (⟨8,th,tx,I,v,x,ab⟩:Ev) r cR
  exact dx M _ _ _ (dQ.next (⟨8,th,tx,I,v,x,ab⟩:Ev) r (cz hq) t2 s1 s2 iA)
theorem sp9:ke 9 ab:=by
 intro B mc n o len m p lo nT nS T V S aj ah ak an i th tx I v x h v' Hh r hb ho hn bu hlen h0 hi bB hV bE bq cZ c7 cK dx
 obtain⟨c,hC,aT⟩:=r.get Hh bq.1 hb th
 have d:=Hh.doc th
 have de:(nS:Int)<=32:=by omega
 have hS:=ku bq
 have rat:aB 9 th tx I v x ab (nT:Int) V (nS:Int)->0<=I/\I<(nS:Int):=fun hq=>by have:=eh hq;omega
 have rq:aB 9 th tx I v x ab (nT:Int) V (nS:Int)->I<(nS:Int):=fun hq=>(rat hq).2
 have hm:cX h (⟨9,th,tx,I,v,x,ab⟩:Ev) (nT:Int) V (nS:Int)↔(aB 9 th tx I v x ab (nT:Int) V (nS:Int)/\((c.I=6\/c.I=5/\c.aC=c.au)/\I=eB c.au)):=zi.trans (and_congr_right fun hq=>by have r':=(hC (cz hq)).2;exact ZE d r' hS (rq hq))
 have aH:=kv r bE
 have bA:=kx r bq
 have O5:∀{P:Prop},¬aS (aG h th (nS:Int))/\((aG h th (nS:Int)).last=8/\(gb (aG h th (nS:Int)).aC (nS:Int)).length=(aG h th (nS:Int)).ao.length\/(aG h th (nS:Int)).last=9)/\P->((aG h th (nS:Int)).last=5\/(aG h th (nS:Int)).last=6\/(aG h th (nS:Int)).last=8\/(aG h th (nS:Int)).last=9\/(aG h th (nS:Int)).last=7/\(aG h th (nS:Int)).ao≠[]):=fun m=>by have:=m.2.1;omega
 refine ev9 (c:=c) (q:=⟨bo h I,cx h I⟩) mc ⟨ho,hn,bu,hlen,h0,hi,bB,hV,bE,bq.2,aH,bA,cZ,c7,aT,fun q=>(hC q).1⟩ (fun q=>r.jW q) (fun z=>cK fun y=>z (hm.1 y)) (fun z=>?_) (fun z=>?_)
 ·have hq:=z.1
  have M:=hm.2 ⟨z.1,z.2.1⟩
  have m:=(zi.1 M).2
  have r':=(hC (cz hq)).2
  have t':=XC th tx I v x ab d r' hS m.1 (rat hq) m.2.2 m8 z.2.2
  have cm:=(Mp (⟨9,th,tx,I,v,x,ab⟩:Ev) ⟨by simp,by rw[xy];exact(n9.1 (t'.I.symm.trans rfl)).1⟩:bZ ((⟨9,th,tx,I,v,x,ab⟩:Ev)::h) th (nS:Int)=_)
  have t2:bU (bR (⟨9,th,tx,I,v,x,ab⟩:Ev) (nS:Int) (aG h th (nS:Int))) (bZ ((⟨9,th,tx,I,v,x,ab⟩:Ev)::h) th (nS:Int)) (nS:Int) {c with I:=0,cc:=(c.cc+1),au:=(aq .andNot .u32 c.au (aq .shl .u32 1 I))}:=by rw[cm,xy];exact t'
  obtain⟨s1,s2⟩:=tW (⟨9,th,tx,I,v,x,ab⟩:Ev) r (rat hq) (⟨(-1),c.wv⟩:Sr) O4
  exact dx M _ _ _ (dQ.next (⟨9,th,tx,I,v,x,ab⟩:Ev) r (cz hq) t2 s1 s2 iA)
 ·have hq:=z.1
  have M:=hm.2 ⟨z.1,z.2.1⟩
  have m:=(zi.1 M).2
  have r':=(hC (cz hq)).2
  have t':=XD th tx I v x ab d r' hS m.1 (rat hq) m.2.2 m8 z.2.2
  have cm:=(hM (⟨9,th,tx,I,v,x,ab⟩:Ev) (fun y=>by have:=y.2;rw[xy] at this;exact(I8.1 (t'.I.symm.trans rfl)).1 this):bZ ((⟨9,th,tx,I,v,x,ab⟩:Ev)::h) th (nS:Int)=_)
  have t2:bU (bR (⟨9,th,tx,I,v,x,ab⟩:Ev) (nS:Int) (aG h th (nS:Int))) (bZ ((⟨9,th,tx,I,v,x,ab⟩:Ev)::h) th (nS:Int)) (nS:Int) {c with I:=6,au:=(aq .andNot .u32 c.au (aq .shl .u32 1 I))}:=by rw[cm,xy];exact t'
  obtain⟨s1,s2⟩:=tW (⟨9,th,tx,I,v,x,ab⟩:Ev) r (rat hq) (⟨(-1),c.wv⟩:Sr) O4
  exact dx M _ _ _ (dQ.next (⟨9,th,tx,I,v,x,ab⟩:Ev) r (cz hq) t2 s1 s2 iA)
theorem XP:ke 10 1:=by
 intro B mc n o len m p lo nT nS T V S aj ah ak an i th tx I v x h v' Hh r hb ho hn bu hlen h0 hi bB hV bE bq cZ c7 cK dx
 obtain⟨c,hC,aT⟩:=r.get Hh bq.1 hb th
 have d:=Hh.doc th
 have de:(nS:Int)<=32:=by omega
 have hS:=ku bq
 have rat:aB 10 th tx I v x 1 (nT:Int) V (nS:Int)->0<=I/\I<(nS:Int):=fun hq=>by have:=eh hq;omega
 have rq:aB 10 th tx I v x 1 (nT:Int) V (nS:Int)->I<(nS:Int):=fun hq=>(rat hq).2
 have hm:cX h (⟨10,th,tx,I,v,x,1⟩:Ev) (nT:Int) V (nS:Int)↔(aB 10 th tx I v x 1 (nT:Int) V (nS:Int)/\(c.I=1/\(bo h I≠ -1/\bo h I≠th))):=Fi.trans (and_congr_right fun hq=>by have r':=(hC (cz hq)).2;exact UE d r' (Hh.low _))
 have aH:=kv r bE
 have bA:=kx r bq
 refine XJ (c:=c) (q:=⟨bo h I,cx h I⟩) mc ⟨ho,hn,bu,hlen,h0,hi,bB,hV,bE,bq.2,aH,bA,cZ,c7,aT,fun q=>(hC q).1⟩ (fun q=>r.jW q) (fun z=>cK fun y=>z (hm.1 y)) (fun z=>?_) (fun z=>?_)
 ·have hq:=z.1
  have M:=hm.2 ⟨z.1,z.2.1⟩
  have m:=(Fi.1 M).2
  have r':=(hC (cz hq)).2
  have t':=yH th tx I v x 1 d r' hS m.1 m8 ar z.2.2
  have cm:=(hM (⟨10,th,tx,I,v,x,1⟩:Ev) (fun y=>by have:=y.1;simp at this):bZ ((⟨10,th,tx,I,v,x,1⟩:Ev)::h) th (nS:Int)=_)
  have t2:bU (bR (⟨10,th,tx,I,v,x,1⟩:Ev) (nS:Int) (aG h th (nS:Int))) (bZ ((⟨10,th,tx,I,v,x,1⟩:Ev)::h) th (nS:Int)) (nS:Int) {c with I:=0,full:=false}:=by rw[cm,mg];exact t'
  have s1:=r.ns
  have s2:=jf (⟨10,th,tx,I,v,x,1⟩:Ev) r cR
  exact dx M _ _ _ (dQ.next (⟨10,th,tx,I,v,x,1⟩:Ev) r (cz hq) t2 s1 s2 iA)
 ·have hq:=z.1
  have M:=hm.2 ⟨z.1,z.2.1⟩
  have m:=(Fi.1 M).2
  have r':=(hC (cz hq)).2
  have t':=yx th tx I v x 1 d r' hS m.1 m8 ar z.2.2
  have cm:=(hM (⟨10,th,tx,I,v,x,1⟩:Ev) (fun y=>by have:=y.1;simp at this):bZ ((⟨10,th,tx,I,v,x,1⟩:Ev)::h) th (nS:Int)=_)
  have t2:bU (bR (⟨10,th,tx,I,v,x,1⟩:Ev) (nS:Int) (aG h th (nS:Int))) (bZ ((⟨10,th,tx,I,v,x,1⟩:Ev)::h) th (nS:Int)) (nS:Int) {c with I:=7,full:=false}:=by rw[cm,mg];exact t'
  have s1:=r.ns
  have s2:=jf (⟨10,th,tx,I,v,x,1⟩:Ev) r cR
  exact dx M _ _ _ (dQ.next (⟨10,th,tx,I,v,x,1⟩:Ev) r (cz hq) t2 s1 s2 iA)
theorem XQ:ke 10 2:=by
 intro B mc n o len m p lo nT nS T V S aj ah ak an i th tx I v x h v' Hh r hb ho hn bu hlen h0 hi bB hV bE bq cZ c7 cK dx
 obtain⟨c,hC,aT⟩:=r.get Hh bq.1 hb th
 have d:=Hh.doc th
 have de:(nS:Int)<=32:=by omega
 have hS:=ku bq
 have rat:aB 10 th tx I v x 2 (nT:Int) V (nS:Int)->0<=I/\I<(nS:Int):=fun hq=>by have:=eh hq;omega
 have rq:aB 10 th tx I v x 2 (nT:Int) V (nS:Int)->I<(nS:Int):=fun hq=>(rat hq).2
 have hm:cX h (⟨10,th,tx,I,v,x,2⟩:Ev) (nT:Int) V (nS:Int)↔(aB 10 th tx I v x 2 (nT:Int) V (nS:Int)/\(c.I=1/\bo h I= -1/\c.rv<cx h I)):=Fj.trans (and_congr_right fun hq=>by have r':=(hC (cz hq)).2;exact UF d r' (Hh.low _))
 have aH:=kv r bE
 have bA:=kx r bq
 refine XK (c:=c) (q:=⟨bo h I,cx h I⟩) mc ⟨ho,hn,bu,hlen,h0,hi,bB,hV,bE,bq.2,aH,bA,cZ,c7,aT,fun q=>(hC q).1⟩ (fun q=>r.jW q) (fun z=>cK fun y=>z (hm.1 y)) (fun z=>?_) (fun z=>?_)
 ·have hq:=z.1
  have M:=hm.2 ⟨z.1,z.2.1⟩
  have m:=(Fj.1 M).2
  have r':=(hC (cz hq)).2
  have t':=yH th tx I v x 2 d r' hS m.1 m8 ar z.2.2
  have cm:=(hM (⟨10,th,tx,I,v,x,2⟩:Ev) (fun y=>by have:=y.1;simp at this):bZ ((⟨10,th,tx,I,v,x,2⟩:Ev)::h) th (nS:Int)=_)
  have t2:bU (bR (⟨10,th,tx,I,v,x,2⟩:Ev) (nS:Int) (aG h th (nS:Int))) (bZ ((⟨10,th,tx,I,v,x,2⟩:Ev)::h) th (nS:Int)) (nS:Int) {c with I:=0,full:=false}:=by rw[cm,mg];exact t'
  have s1:=r.ns
  have s2:=jf (⟨10,th,tx,I,v,x,2⟩:Ev) r cR
  exact dx M _ _ _ (dQ.next (⟨10,th,tx,I,v,x,2⟩:Ev) r (cz hq) t2 s1 s2 iA)
 ·have hq:=z.1
  have M:=hm.2 ⟨z.1,z.2.1⟩
  have m:=(Fj.1 M).2
  have r':=(hC (cz hq)).2
  have t':=yx th tx I v x 2 d r' hS m.1 m8 ar z.2.2
  have cm:=(hM (⟨10,th,tx,I,v,x,2⟩:Ev) (fun y=>by have:=y.1;simp at this):bZ ((⟨10,th,tx,I,v,x,2⟩:Ev)::h) th (nS:Int)=_)
  have t2:bU (bR (⟨10,th,tx,I,v,x,2⟩:Ev) (nS:Int) (aG h th (nS:Int))) (bZ ((⟨10,th,tx,I,v,x,2⟩:Ev)::h) th (nS:Int)) (nS:Int) {c with I:=7,full:=false}:=by rw[cm,mg];exact t'
  have s1:=r.ns
  have s2:=jf (⟨10,th,tx,I,v,x,2⟩:Ev) r cR
  exact dx M _ _ _ (dQ.next (⟨10,th,tx,I,v,x,2⟩:Ev) r (cz hq) t2 s1 s2 iA)
theorem XR:ke 10 3:=by
 intro B mc n o len m p lo nT nS T V S aj ah ak an i th tx I v x h v' Hh r hb ho hn bu hlen h0 hi bB hV bE bq cZ c7 cK dx
 obtain⟨c,hC,aT⟩:=r.get Hh bq.1 hb th
 have d:=Hh.doc th
 have de:(nS:Int)<=32:=by omega
 have hS:=ku bq
 have rat:aB 10 th tx I v x 3 (nT:Int) V (nS:Int)->0<=I/\I<(nS:Int):=fun hq=>by have:=eh hq;omega
 have rq:aB 10 th tx I v x 3 (nT:Int) V (nS:Int)->I<(nS:Int):=fun hq=>(rat hq).2
 have hm:cX h (⟨10,th,tx,I,v,x,3⟩:Ev) (nT:Int) V (nS:Int)↔(aB 10 th tx I v x 3 (nT:Int) V (nS:Int)/\(c.I=2/\I=c.bX/\(bo h c.bX≠ -1\/cx h c.bX≠c.v))):=Fk.trans (and_congr_right fun hq=>by have r':=(hC (cz hq)).2;exact UG d r' Hh.low)
 have aH:=kv r bE
 have bA:=kx r bq
 refine XL (c:=c) (q:=⟨bo h c.bX,cx h c.bX⟩) mc ⟨ho,hn,bu,hlen,h0,hi,bB,hV,bE,bq.2,aH,bA,cZ,c7,aT,fun q=>(hC q).1⟩ (fun q=>r.jW q) (fun z=>cK fun y=>z (hm.1 y)) (fun z=>?_) (fun z=>?_)
 ·have hq:=z.1
  have M:=hm.2 ⟨z.1,z.2.1⟩
  have m:=(Fk.1 M).2
  have r':=(hC (cz hq)).2
  have t':=yH th tx I v x 3 d r' hS m.1 m8 ar z.2.2
  have cm:=(hM (⟨10,th,tx,I,v,x,3⟩:Ev) (fun y=>by have:=y.1;simp at this):bZ ((⟨10,th,tx,I,v,x,3⟩:Ev)::h) th (nS:Int)=_)
  have t2:bU (bR (⟨10,th,tx,I,v,x,3⟩:Ev) (nS:Int) (aG h th (nS:Int))) (bZ ((⟨10,th,tx,I,v,x,3⟩:Ev)::h) th (nS:Int)) (nS:Int) {c with I:=0,full:=false}:=by rw[cm,mg];exact t'
  have s1:=r.ns
  have s2:=jf (⟨10,th,tx,I,v,x,3⟩:Ev) r cR
  exact dx M _ _ _ (dQ.next (⟨10,th,tx,I,v,x,3⟩:Ev) r (cz hq) t2 s1 s2 iA)
 ·have hq:=z.1
  have M:=hm.2 ⟨z.1,z.2.1⟩
  have m:=(Fk.1 M).2
  have r':=(hC (cz hq)).2
  have t':=yx th tx I v x 3 d r' hS m.1 m8 ar z.2.2
  have cm:=(hM (⟨10,th,tx,I,v,x,3⟩:Ev) (fun y=>by have:=y.1;simp at this):bZ ((⟨10,th,tx,I,v,x,3⟩:Ev)::h) th (nS:Int)=_)
  have t2:bU (bR (⟨10,th,tx,I,v,x,3⟩:Ev) (nS:Int) (aG h th (nS:Int))) (bZ ((⟨10,th,tx,I,v,x,3⟩:Ev)::h) th (nS:Int)) (nS:Int) {c with I:=7,full:=false}:=by rw[cm,mg];exact t'
  have s1:=r.ns
  have s2:=jf (⟨10,th,tx,I,v,x,3⟩:Ev) r cR
  exact dx M _ _ _ (dQ.next (⟨10,th,tx,I,v,x,3⟩:Ev) r (cz hq) t2 s1 s2 iA)
theorem XS:ke 10 4:=by
 intro B mc n o len m p lo nT nS T V S aj ah ak an i th tx I v x h v' Hh r hb ho hn bu hlen h0 hi bB hV bE bq cZ c7 cK dx
 obtain⟨c,hC,aT⟩:=r.get Hh bq.1 hb th
 have d:=Hh.doc th
 have de:(nS:Int)<=32:=by omega
 have hS:=ku bq
 have rat:aB 10 th tx I v x 4 (nT:Int) V (nS:Int)->0<=I/\I<(nS:Int):=fun hq=>by have:=eh hq;omega
 have rq:aB 10 th tx I v x 4 (nT:Int) V (nS:Int)->I<(nS:Int):=fun hq=>(rat hq).2
 have hm:cX h (⟨10,th,tx,I,v,x,4⟩:Ev) (nT:Int) V (nS:Int)↔(aB 10 th tx I v x 4 (nT:Int) V (nS:Int)/\((c.I=1\/c.I=3)/\c.ao<I/\(bo h I≠ -1/\bo h I≠th))):=Fl.trans (and_congr_right fun hq=>by have r':=(hC (cz hq)).2;exact UH d r' (Hh.low _))
 have aH:=kv r bE
 have bA:=kx r bq
 refine XM (c:=c) (q:=⟨bo h I,cx h I⟩) mc ⟨ho,hn,bu,hlen,h0,hi,bB,hV,bE,bq.2,aH,bA,cZ,c7,aT,fun q=>(hC q).1⟩ (fun q=>r.jW q) (fun z=>cK fun y=>z (hm.1 y)) (fun z=>?_) (fun z=>?_)
 ·have hq:=z.1
  have M:=hm.2 ⟨z.1,z.2.1⟩
  have m:=(Fl.1 M).2
  have r':=(hC (cz hq)).2
  have t':=yH th tx I v x 4 d r' hS m.1 m8 ar z.2.2
  have cm:=(hM (⟨10,th,tx,I,v,x,4⟩:Ev) (fun y=>by have:=y.1;simp at this):bZ ((⟨10,th,tx,I,v,x,4⟩:Ev)::h) th (nS:Int)=_)
  have t2:bU (bR (⟨10,th,tx,I,v,x,4⟩:Ev) (nS:Int) (aG h th (nS:Int))) (bZ ((⟨10,th,tx,I,v,x,4⟩:Ev)::h) th (nS:Int)) (nS:Int) {c with I:=0,full:=false}:=by rw[cm,mg];exact t'
  have s1:=r.ns
  have s2:=jf (⟨10,th,tx,I,v,x,4⟩:Ev) r cR
  exact dx M _ _ _ (dQ.next (⟨10,th,tx,I,v,x,4⟩:Ev) r (cz hq) t2 s1 s2 iA)
 ·have hq:=z.1
  have M:=hm.2 ⟨z.1,z.2.1⟩
  have m:=(Fl.1 M).2
  have r':=(hC (cz hq)).2
  have t':=yx th tx I v x 4 d r' hS m.1 m8 ar z.2.2
  have cm:=(hM (⟨10,th,tx,I,v,x,4⟩:Ev) (fun y=>by have:=y.1;simp at this):bZ ((⟨10,th,tx,I,v,x,4⟩:Ev)::h) th (nS:Int)=_)
  have t2:bU (bR (⟨10,th,tx,I,v,x,4⟩:Ev) (nS:Int) (aG h th (nS:Int))) (bZ ((⟨10,th,tx,I,v,x,4⟩:Ev)::h) th (nS:Int)) (nS:Int) {c with I:=7,full:=false}:=by rw[cm,mg];exact t'
  have s1:=r.ns
  have s2:=jf (⟨10,th,tx,I,v,x,4⟩:Ev) r cR
  exact dx M _ _ _ (dQ.next (⟨10,th,tx,I,v,x,4⟩:Ev) r (cz hq) t2 s1 s2 iA)
theorem XT:ke 10 5:=by
 intro B mc n o len m p lo nT nS T V S aj ah ak an i th tx I v x h v' Hh r hb ho hn bu hlen h0 hi bB hV bE bq cZ c7 cK dx
 obtain⟨c,hC,aT⟩:=r.get Hh bq.1 hb th
 have d:=Hh.doc th
 have de:(nS:Int)<=32:=by omega
 have hS:=ku bq
 have rat:aB 10 th tx I v x 5 (nT:Int) V (nS:Int)->0<=I/\I<(nS:Int):=fun hq=>by have:=eh hq;omega
 have rq:aB 10 th tx I v x 5 (nT:Int) V (nS:Int)->I<(nS:Int):=fun hq=>(rat hq).2
 have hm:cX h (⟨10,th,tx,I,v,x,5⟩:Ev) (nT:Int) V (nS:Int)↔(aB 10 th tx I v x 5 (nT:Int) V (nS:Int)/\(c.I=4/\I=eB c.check/\((bo h I≠ -1/\bo h I≠th)\/c.rv<cx h I))):=Fo.trans (and_congr_right fun hq=>by have r':=(hC (cz hq)).2;exact UI d r' de (rq hq) (Hh.low _))
 have aH:=kv r bE
 have bA:=kx r bq
 refine XN (c:=c) (q:=⟨bo h I,cx h I⟩) mc ⟨ho,hn,bu,hlen,h0,hi,bB,hV,bE,bq.2,aH,bA,cZ,c7,aT,fun q=>(hC q).1⟩ (fun q=>r.jW q) (fun z=>cK fun y=>z (hm.1 y)) (fun z=>?_) (fun z=>?_)
 ·have hq:=z.1
  have M:=hm.2 ⟨z.1,z.2.1⟩
  have m:=(Fo.1 M).2
  have r':=(hC (cz hq)).2
  have t':=yH th tx I v x 5 d r' hS m.1 m8 ar z.2.2
  have cm:=(hM (⟨10,th,tx,I,v,x,5⟩:Ev) (fun y=>by have:=y.1;simp at this):bZ ((⟨10,th,tx,I,v,x,5⟩:Ev)::h) th (nS:Int)=_)
  have t2:bU (bR (⟨10,th,tx,I,v,x,5⟩:Ev) (nS:Int) (aG h th (nS:Int))) (bZ ((⟨10,th,tx,I,v,x,5⟩:Ev)::h) th (nS:Int)) (nS:Int) {c with I:=0,full:=false}:=by rw[cm,mg];exact t'
  have s1:=r.ns
  have s2:=jf (⟨10,th,tx,I,v,x,5⟩:Ev) r cR
  exact dx M _ _ _ (dQ.next (⟨10,th,tx,I,v,x,5⟩:Ev) r (cz hq) t2 s1 s2 iA)
 ·have hq:=z.1
  have M:=hm.2 ⟨z.1,z.2.1⟩
  have m:=(Fo.1 M).2
  have r':=(hC (cz hq)).2
  have t':=yx th tx I v x 5 d r' hS m.1 m8 ar z.2.2
  have cm:=(hM (⟨10,th,tx,I,v,x,5⟩:Ev) (fun y=>by have:=y.1;simp at this):bZ ((⟨10,th,tx,I,v,x,5⟩:Ev)::h) th (nS:Int)=_)
  have t2:bU (bR (⟨10,th,tx,I,v,x,5⟩:Ev) (nS:Int) (aG h th (nS:Int))) (bZ ((⟨10,th,tx,I,v,x,5⟩:Ev)::h) th (nS:Int)) (nS:Int) {c with I:=7,full:=false}:=by rw[cm,mg];exact t'
  have s1:=r.ns
  have s2:=jf (⟨10,th,tx,I,v,x,5⟩:Ev) r cR
  exact dx M _ _ _ (dQ.next (⟨10,th,tx,I,v,x,5⟩:Ev) r (cz hq) t2 s1 s2 iA)
theorem XU:ke 10 6:=by
 intro B mc n o len m p lo nT nS T V S aj ah ak an i th tx I v x h v' Hh r hb ho hn bu hlen h0 hi bB hV bE bq cZ c7 cK dx
 obtain⟨c,hC,aT⟩:=r.get Hh bq.1 hb th
 have d:=Hh.doc th
 have de:(nS:Int)<=32:=by omega
 have hS:=ku bq
 have rat:aB 10 th tx I v x 6 (nT:Int) V (nS:Int)->0<=I/\I<(nS:Int):=fun hq=>by have:=eh hq;omega
 have rq:aB 10 th tx I v x 6 (nT:Int) V (nS:Int)->I<(nS:Int):=fun hq=>(rat hq).2
 have hm:cX h (⟨10,th,tx,I,v,x,6⟩:Ev) (nT:Int) V (nS:Int)↔(aB 10 th tx I v x 6 (nT:Int) V (nS:Int)/\(c.I=3)):=Fp.trans (and_congr_right fun hq=>by have r':=(hC (cz hq)).2;exact UJ d r')
 have aH:=kv r bE
 have bA:=kx r bq
 refine XO (c:=c) (q:=⟨bo h I,cx h I⟩) mc ⟨ho,hn,bu,hlen,h0,hi,bB,hV,bE,bq.2,aH,bA,cZ,c7,aT,fun q=>(hC q).1⟩ (fun q=>r.jW q) (fun z=>cK fun y=>z (hm.1 y)) (fun z=>?_) (fun z=>?_)
 ·have hq:=z.1
  have M:=hm.2 ⟨z.1,z.2.1⟩
  have m:=(Fp.1 M).2
  have r':=(hC (cz hq)).2
  exact absurd z.2.2 (fun y=>by
   have e:=r'.au m.1
   rw[d.held (by have:=m.2;omega)] at e
   exact d.hi (by have:=m.2;omega) ((e.zero (d.gZ.mono de)).1 y))
 ·have hq:=z.1
  have M:=hm.2 ⟨z.1,z.2.1⟩
  have m:=(Fp.1 M).2
  have r':=(hC (cz hq)).2
  have t':=UC th tx I v x 6 d r' hS m.1 (by have:=m.2;omega) rfl m.2 z.2.2
  have cm:=(hM (⟨10,th,tx,I,v,x,6⟩:Ev) (fun y=>by have:=y.1;simp at this):bZ ((⟨10,th,tx,I,v,x,6⟩:Ev)::h) th (nS:Int)=_)
  have t2:bU (bR (⟨10,th,tx,I,v,x,6⟩:Ev) (nS:Int) (aG h th (nS:Int))) (bZ ((⟨10,th,tx,I,v,x,6⟩:Ev)::h) th (nS:Int)) (nS:Int) {c with I:=7,full:=true}:=by rw[cm,mg];exact t'
  have s1:=r.ns
  have s2:=jf (⟨10,th,tx,I,v,x,6⟩:Ev) r cR
  exact dx M _ _ _ (dQ.next (⟨10,th,tx,I,v,x,6⟩:Ev) r (cz hq) t2 s1 s2 iA)
theorem aaX:ke 11 ab:=by
 intro B mc n o len m p lo nT nS T V S aj ah ak an i th tx I v x h v' Hh r hb ho hn bu hlen h0 hi bB hV bE bq cZ c7 cK dx
 obtain⟨c,hC,aT⟩:=r.get Hh bq.1 hb th
 have d:=Hh.doc th
 have de:(nS:Int)<=32:=by omega
 have hS:=ku bq
 have rat:aB 11 th tx I v x ab (nT:Int) V (nS:Int)->0<=I/\I<(nS:Int):=fun hq=>by have:=eh hq;omega
 have rq:aB 11 th tx I v x ab (nT:Int) V (nS:Int)->I<(nS:Int):=fun hq=>(rat hq).2
 have hm:cX h (⟨11,th,tx,I,v,x,ab⟩:Ev) (nT:Int) V (nS:Int)↔(aB 11 th tx I v x ab (nT:Int) V (nS:Int)/\(c.I=7/\I=eB c.au)):=wO.trans (and_congr_right fun hq=>by have r':=(hC (cz hq)).2;exact XG d r' de (rq hq))
 have aH:=kv r bE
 have bA:=kx r bq
 refine aaV (c:=c) (q:=⟨bo h I,cx h I⟩) mc ⟨ho,hn,bu,hlen,h0,hi,bB,hV,bE,bq.2,aH,bA,cZ,c7,aT,fun q=>(hC q).1⟩ (fun q=>r.jW q) (fun z=>cK fun y=>z (hm.1 y)) (fun z=>?_) (fun z=>?_) (fun z=>?_)
 ·have hq:=z.1
  have M:=hm.2 ⟨z.1,z.2.1⟩
  have m:=(wO.1 M).2
  have r':=(hC (cz hq)).2
  have t':=VX th tx I v x ab d r' hS m.1 (rat hq) m.2.2 m.2.1 z.2.2.1 z.2.2.2
  have cm:=(hM (⟨11,th,tx,I,v,x,ab⟩:Ev) (fun y=>by have:=y.1;simp at this):bZ ((⟨11,th,tx,I,v,x,ab⟩:Ev)::h) th (nS:Int)=_)
  have t2:bU (bR (⟨11,th,tx,I,v,x,ab⟩:Ev) (nS:Int) (aG h th (nS:Int))) (bZ ((⟨11,th,tx,I,v,x,ab⟩:Ev)::h) th (nS:Int)) (nS:Int) {c with I:=9,au:=(aq .andNot .u32 c.au (aq .shl .u32 1 I))}:=by rw[cm,w7];exact t'
  obtain⟨s1,s2⟩:=tW (⟨11,th,tx,I,v,x,ab⟩:Ev) r (rat hq) {(⟨bo h I,cx h I⟩:Sr) with owner:=(-1)} Hy
  exact dx M _ _ _ (dQ.next (⟨11,th,tx,I,v,x,ab⟩:Ev) r (cz hq) t2 s1 s2 iA)
 ·have hq:=z.1
  have M:=hm.2 ⟨z.1,z.2.1⟩
  have m:=(wO.1 M).2
  have r':=(hC (cz hq)).2
  have t':=VY th tx I v x ab d r' hS m.1 (rat hq) m.2.2 m.2.1 z.2.2.1 z.2.2.2
  have cm:=(hM (⟨11,th,tx,I,v,x,ab⟩:Ev) (fun y=>by have:=y.1;simp at this):bZ ((⟨11,th,tx,I,v,x,ab⟩:Ev)::h) th (nS:Int)=_)
  have t2:bU (bR (⟨11,th,tx,I,v,x,ab⟩:Ev) (nS:Int) (aG h th (nS:Int))) (bZ ((⟨11,th,tx,I,v,x,ab⟩:Ev)::h) th (nS:Int)) (nS:Int) {c with I:=0,au:=(aq .andNot .u32 c.au (aq .shl .u32 1 I))}:=by rw[cm,w7];exact t'
  obtain⟨s1,s2⟩:=tW (⟨11,th,tx,I,v,x,ab⟩:Ev) r (rat hq) {(⟨bo h I,cx h I⟩:Sr) with owner:=(-1)} Hy
  exact dx M _ _ _ (dQ.next (⟨11,th,tx,I,v,x,ab⟩:Ev) r (cz hq) t2 s1 s2 iA)
 ·have hq:=z.1
  have M:=hm.2 ⟨z.1,z.2.1⟩
  have m:=(wO.1 M).2
  have r':=(hC (cz hq)).2
  have t':=VZ th tx I v x ab d r' hS m.1 (rat hq) m.2.2 m.2.1 z.2.2
  have cm:=(hM (⟨11,th,tx,I,v,x,ab⟩:Ev) (fun y=>by have:=y.1;simp at this):bZ ((⟨11,th,tx,I,v,x,ab⟩:Ev)::h) th (nS:Int)=_)
  have t2:bU (bR (⟨11,th,tx,I,v,x,ab⟩:Ev) (nS:Int) (aG h th (nS:Int))) (bZ ((⟨11,th,tx,I,v,x,ab⟩:Ev)::h) th (nS:Int)) (nS:Int) {c with au:=(aq .andNot .u32 c.au (aq .shl .u32 1 I))}:=by rw[cm,w7];exact t'
  obtain⟨s1,s2⟩:=tW (⟨11,th,tx,I,v,x,ab⟩:Ev) r (rat hq) {(⟨bo h I,cx h I⟩:Sr) with owner:=(-1)} Hy
  exact dx M _ _ _ (dQ.next (⟨11,th,tx,I,v,x,ab⟩:Ev) r (cz hq) t2 s1 s2 iA)
theorem aaY:ke 12 ab:=by
 intro B mc n o len m p lo nT nS T V S aj ah ak an i th tx I v x h v' Hh r hb ho hn bu hlen h0 hi bB hV bE bq cZ c7 cK dx
 obtain⟨c,hC,aT⟩:=r.get Hh bq.1 hb th
 have d:=Hh.doc th
 have de:(nS:Int)<=32:=by omega
 have hS:=ku bq
 have rat:aB 12 th tx I v x ab (nT:Int) V (nS:Int)->0<=I/\I<(nS:Int):=fun hq=>by have:=eh hq;omega
 have rq:aB 12 th tx I v x ab (nT:Int) V (nS:Int)->I<(nS:Int):=fun hq=>(rat hq).2
 have hm:cX h (⟨12,th,tx,I,v,x,ab⟩:Ev) (nT:Int) V (nS:Int)↔(aB 12 th tx I v x ab (nT:Int) V (nS:Int)/\(c.I=1)):=BZ.trans (and_congr_right fun hq=>by have r':=(hC (cz hq)).2;exact XH d r')
 have aH:=kv r bE
 have bA:=kx r bq
 refine aaW (c:=c) (q:=⟨bo h I,cx h I⟩) mc ⟨ho,hn,bu,hlen,h0,hi,bB,hV,bE,bq.2,aH,bA,cZ,c7,aT,fun q=>(hC q).1⟩ (fun q=>r.jW q) (fun z=>cK fun y=>z (hm.1 y)) (fun z=>?_)
 ·have hq:=z.1
  have M:=hm.2 ⟨z.1,z.2⟩
  have m:=(BZ.1 M).2
  have r':=(hC (cz hq)).2
  have t':=XE th tx I v x ab d r' hS m.1
  have cm:=(hM (⟨12,th,tx,I,v,x,ab⟩:Ev) (fun y=>by have:=y.1;simp at this):bZ ((⟨12,th,tx,I,v,x,ab⟩:Ev)::h) th (nS:Int)=_)
  have t2:bU (bR (⟨12,th,tx,I,v,x,ab⟩:Ev) (nS:Int) (aG h th (nS:Int))) (bZ ((⟨12,th,tx,I,v,x,ab⟩:Ev)::h) th (nS:Int)) (nS:Int) {c with I:=8}:=by rw[cm,GN];exact t'
  have s1:=r.ns
  have s2:=jf (⟨12,th,tx,I,v,x,ab⟩:Ev) r cR
  exact dx M _ _ _ (dQ.next (⟨12,th,tx,I,v,x,ab⟩:Ev) r (cz hq) t2 s1 s2 iA)
theorem aaZ:ke 13 ab:=by
 intro B mc n o len m p lo nT nS T V S aj ah ak an i th tx I v x h v' Hh r hb ho hn bu hlen h0 hi bB hV bE bq cZ c7 cK dx
 obtain⟨c,hC,aT⟩:=r.get Hh bq.1 hb th
 have d:=Hh.doc th
 have de:(nS:Int)<=32:=by omega
 have hS:=ku bq
 have rat:aB 13 th tx I v x ab (nT:Int) V (nS:Int)->0<=I/\I<(nS:Int):=fun hq=>by have:=eh hq;omega
 have rq:aB 13 th tx I v x ab (nT:Int) V (nS:Int)->I<(nS:Int):=fun hq=>(rat hq).2
 have hm:cX h (⟨13,th,tx,I,v,x,ab⟩:Ev) (nT:Int) V (nS:Int)↔(aB 13 th tx I v x ab (nT:Int) V (nS:Int)/\ln nS ah c):=B0.trans (and_congr_right fun hq=>by have r':=(hC (cz hq)).2;exact XI d r' rfl bq.2 r.sr Hh.low)
 have aH:=kv r bE
 have bA:=kx r bq
 by_cases hW:ln nS ah c
 ·refine ZF (c:=c) (q:=⟨bo h I,cx h I⟩) mc ⟨ho,hn,bu,hlen,h0,hi,bB,hV,bE,bq.2,aH,bA,cZ,c7,aT,fun q=>(hC q).1⟩ (fun q=>r.jW q) r.ns hW (fun z=>cK fun y=>z ⟨y.1,rfl⟩) (fun z=>?_)
  ·have hq:=z.1
   have M:=hm.2 ⟨z.1,hW⟩
   have m:=(B0.1 M).2
   have r':=(hC (cz hq)).2
   have t':=XF th tx I v x ab d r' hS m.1 m.2.1
   have cm:=(hM (⟨13,th,tx,I,v,x,ab⟩:Ev) (fun y=>by have:=y.1;simp at this):bZ ((⟨13,th,tx,I,v,x,ab⟩:Ev)::h) th (nS:Int)=_)
   have t2:bU (bR (⟨13,th,tx,I,v,x,ab⟩:Ev) (nS:Int) (aG h th (nS:Int))) (bZ ((⟨13,th,tx,I,v,x,ab⟩:Ev)::h) th (nS:Int)) (nS:Int) {c with I:=0}:=by rw[cm,GO];exact t'
   have s1:=r.ns
   have s2:=jf (⟨13,th,tx,I,v,x,ab⟩:Ev) r cR
   exact dx M _ _ _ (dQ.next (⟨13,th,tx,I,v,x,ab⟩:Ev) r (cz hq) t2 s1 s2 iA)
 ·refine ZG (c:=c) (q:=⟨bo h I,cx h I⟩) mc ⟨ho,hn,bu,hlen,h0,hi,bB,hV,bE,bq.2,aH,bA,cZ,c7,aT,fun q=>(hC q).1⟩ (fun q=>r.jW q) r.ns hW (fun z=>cK fun y=>hW (hm.1 y).2)
end H6
end
section
open Go Go.Rn Go.RowKit Go.Proofs
namespace eG
open cd cj cv cD cH cI cN gw eW fy fm fA
theorem evw{B:aZ}(mc:Mc (sp LN) 6 B){n o len m p lo nT nS:Nat}{T V S:Int}{aj:List Th}{ah:List Sr}{ak an i th tx I v x ab:Int}{v':AV}(hk:ab<1\/6<ab)(ho:dF (⟨10,th,tx,I,v,x,ab⟩:Ev))(hn:top<=n)(bu:top<=m)(hlen:len<=1000)(h0:0<=i)(hi:i<(len:Int))(bB:bM FU n (o+i.toNat*7) 7=some (bn (.ofNat 10) th tx I v x ab))(hV:1<=V/\V<=32)(bE:nT<=6)(de:nS<=32)(aH:aj.length*13<=top)(bA:ah.length*2<=top)(cZ:0<=an)(c7:an<=1000)(hF:¬(aB 10 th tx I v x ab (nT:Int) V (nS:Int)/\False)->v'= .bool false):FSQ B v' cg (aP n o len m p lo nT nS T V S aj ah ak an i):=by
 have cu:=ho;simp only[dF,bL] at cu
 exact wS mc 2000 (gJ 1 (.fk (gE 6 (.bI (.bJ (bn (.ofNat 10) th tx I v x ab) (gA 2 1 2 (.il (gC 8 4 (.fk .no (gA 1 2 15 (.kp (aB 10 th tx I v x ab (nT:Int) V (nS:Int)) inferInstance .no (gH 2 4 (gF 1 4))))))))))) .no)) (U (i<(len:Int)) (fun _=>aV i (len:Int) J J (ai hn (ai (c9 bB 0 7 ar) (U (an>=1048576) aA (fun _=>ai (jt 10 th tx I v x ab (nT:Int) V (nS:Int) ⟨ho,by unfold bL;omega⟩) (U (aB 10 th tx I v x ab (nT:Int) V (nS:Int)) (fun h3=>have hm:=eh h3;o9) jj)))))) aA)
end eG
end
section
open Go Go.Rn Go.RowKit Go.Proofs
namespace Pu
open cd cj cv cD cH cI cN fx rz sE gw eW eG zV fy fm fA oo uN xz zU Dd H6
variable {l:List Ev} {V T S:Int}
theorem Te(k:Nat)(q:Valid l.reverse T V S):Valid (l.take k).reverse T V S:=by
 have:l.reverse=(l.drop k).reverse++(l.take k).reverse:=by rw[←List.reverse_append,List.take_append_drop]
 rw[this] at q
 exact K4 q
theorem ZI{B:aZ}(mc:Mc (sp LN) 6 B){n o len m p lo nT nS:Nat}{v':AV}(h:bt aN 7 (.ae n o len) l)(aT:eR l)(hlen:len<=900)(bu:top<=m)(hV:1<=V/\V<=32)(bE:nT<=6)(bq:1<=nS/\nS<=32)(cK:¬Valid l.reverse nT V nS->v'= .bool false)(H:Valid l.reverse nT V nS->∀aj ah ak,dQ l.reverse nT nS aj ah ak->FSQ B v' cg (aP n o len m p lo nT nS T V S aj ah ak (len:Int) (len:Int))):
  ∀(m' k:Nat) (aj:List Th) (ah:List Sr) (ak:Int),k+m'=len->Valid (l.take k).reverse nT V nS->dQ (l.take k).reverse nT nS aj ah ak->FSQ B v' cg (aP n o len m p lo nT nS T V S aj ah ak (k:Int) (k:Int)):=by
  obtain⟨dS,hn,cF⟩:=h.len
  intro m'
  induction m' with
  | zero=>
    intro k aj ah ak hk hv hr
    have e:k=len:=by omega
    subst e
    rw[List.take_of_length_le J] at hv hr
    exact H hv aj ah ak hr
  | succ m' ih=>
    intro k aj ah ak hk hv hr
    obtain⟨e,he⟩:∃e,l[k]? =some e:=⟨_,List.getElem?_eq_getElem J⟩
    have e1:(l.take (k+1)).reverse=e::(l.take k).reverse:=by rw[List.take_add_one,he];simp
    have e2:((k:Int)+1)=((k+1:Nat):Int):=by omega
    have ho:=aT e (List.mem_of_getElem? he)
    have bB:=cF k e he
    have hb:(l.take k).reverse.length<=1000:=by rw[List.length_reverse,List.length_take];omega
    have Hh:=Fh hv
    have gf:¬cX (l.take k).reverse e nT V nS->v'= .bool false:=fun q=>cK fun y=>q (by have:=Te (k+1) y;rw[e1] at this;exact this.2)
    have ky:cX (l.take k).reverse e nT V nS->∀uO pn pP,dQ (e::(l.take k).reverse) nT nS uO pn pP->FSQ B v' cg (aP n o len m p lo nT nS T V S uO pn pP ((k:Int)+1) ((k:Int)+1)):=fun q uO pn pP r'=>by
      rw[e2]
      exact ih (k+1) uO pn pP J (by rw[e1];exact⟨hv,q⟩) (by rw[e1];exact r')
    have H7:∀{k':Int},e.kind=k'->(k'<1\/13<k'\/k'=10/\(e.ab<1\/6<e.ab))->v'= .bool false:=fun{k'} q1 q2=>gf fun y=>by have:=eh y.1;omega
    rw[show k=((k:Int)).toNat by omega] at bB
    have hi:(k:Int)<(len:Int):=by omega
    have dO:(0:Int)<=(k:Int):=by omega
    have dP:(k:Int)<=1000:=by omega
    have iI:len<=1000:=by omega
    obtain⟨K,th,tx,I,v,x,ab⟩:=e
    have sM:K=1\/K=2\/K=3\/K=4\/K=5\/K=6\/K=7\/K=8\/K=9\/K=10\/K=11\/K=12\/K=13\/(K<1\/13<K):=by omega
    rcases sM with rfl|rfl|rfl|rfl|rfl|rfl|rfl|rfl|rfl|rfl|rfl|rfl|rfl|sM
    · exact sp1 mc Hh hr hb ho hn bu iI dO hi bB hV bE bq dO dP gf ky
    · exact sp2 mc Hh hr hb ho hn bu iI dO hi bB hV bE bq dO dP gf ky
    · exact sp3 mc Hh hr hb ho hn bu iI dO hi bB hV bE bq dO dP gf ky
    · exact sp4 mc Hh hr hb ho hn bu iI dO hi bB hV bE bq dO dP gf ky
    · exact sp5 mc Hh hr hb ho hn bu iI dO hi bB hV bE bq dO dP gf ky
    · exact sp6 mc Hh hr hb ho hn bu iI dO hi bB hV bE bq dO dP gf ky
    · exact sp7 mc Hh hr hb ho hn bu iI dO hi bB hV bE bq dO dP gf ky
    · exact sp8 mc Hh hr hb ho hn bu iI dO hi bB hV bE bq dO dP gf ky
    · exact sp9 mc Hh hr hb ho hn bu iI dO hi bB hV bE bq dO dP gf ky
    · have hw:ab=1\/ab=2\/ab=3\/ab=4\/ab=5\/ab=6\/(ab<1\/6<ab):=by omega
      rcases hw with rfl|rfl|rfl|rfl|rfl|rfl|hw
      · exact XP mc Hh hr hb ho hn bu iI dO hi bB hV bE bq dO dP gf ky
      · exact XQ mc Hh hr hb ho hn bu iI dO hi bB hV bE bq dO dP gf ky
      · exact XR mc Hh hr hb ho hn bu iI dO hi bB hV bE bq dO dP gf ky
      · exact XS mc Hh hr hb ho hn bu iI dO hi bB hV bE bq dO dP gf ky
      · exact XT mc Hh hr hb ho hn bu iI dO hi bB hV bE bq dO dP gf ky
      · exact XU mc Hh hr hb ho hn bu iI dO hi bB hV bE bq dO dP gf ky
      · exact evw mc hw ho hn bu iI dO hi bB hV bE bq.2 (by rw[hr.nt];unfold top;omega) (by rw[hr.ns];unfold top;omega) dO dP (fun _=>H7 rfl (.inr (.inr ⟨rfl,hw⟩)))
    · exact aaX mc Hh hr hb ho hn bu iI dO hi bB hV bE bq dO dP gf ky
    · exact aaY mc Hh hr hb ho hn bu iI dO hi bB hV bE bq dO dP gf ky
    · exact aaZ mc Hh hr hb ho hn bu iI dO hi bB hV bE bq dO dP gf ky
    · exact evk mc sM ho hn bu iI dO hi bB hV bE bq.2 (by rw[hr.nt];unfold top;omega) (by rw[hr.ns];unfold top;omega) dO dP (fun _=>H7 (k':=K) rfl J)
end Pu
end
section
open Go Go.Rn Go.RowKit Go.Proofs
namespace Pv
open cd cj cv cD cH cI cN gw eW fy fm fA mz AA
variable {n p m lo nS S:Nat} {V T:Int} {B:aZ} {v':AV} {z':List AV} {t' t:Tr AV}
noncomputable section
def eb:Sr:=⟨-1,0⟩
def ed:Th:=⟨0,0,0,0,0,0,0,0,0,0,0,0,false⟩
def js(S:Nat):Option aE:=some (.cells (S*2) (Tr.fill ((List.replicate S eb).map nM).flatten 0 .nil) [.int .i64 0,.int .i64 0])
def hR(X0 X1:Option aE):Tr aE:=nU (ay++[(270,X0),(271,X1),(272,some (.cells 2 (Tr.fill [.int .i64 (-1),.int .i64 0] 0 .nil) []))])
def ZJ(X0 X1:Option aE)(S:Nat)(v:AV)(st:AS):Prop:=v= .slice (some (273,0)) S (.known S)/\st.h=pd (hR X0 X1) [(273,js S)]/\st.nx=274/\st.mark=273/\iF [272,273] st.rd=true/\iF [273] st.wr=true
def ZK(S k:Nat):Pl:=.st 8 (.rg (.go 2 (.vl (.int .u64 (.ofNat 1)) (.go 1 (.vl (.int .u64 (.ofNat S)) (.il (.st 6 (.rg (.go 2 (.il (.rt 25 (.go 5 (.en (.rt 3 (.go 5 (.en (.st 6 (.rg (.go 1 (.vl (.int .i64 (.ofNat S)) (.go 2 (.en (.rt k .no)))))))))))))))))))))))
def ZL(_:1<=S/\S<=32):Pl:=ZK S ([0,13,22,31,31,40,40,40,40,49,49,49,49,49,49,49,49,58,58,58,58,58,58,58,58,58,58,58,58,58,58,58,58].getD S 0)
end
theorem aa0(X0 X1:Option aE)(S:Nat):AV.int .u64 (.ofNat 1)= .int .u64 (.ofNat 1)/\AV.int .u64 (.ofNat S)= .int .u64 (.ofNat S)/\AV.int .i64 (.ofNat S)= .int .i64 (.ofNat S)/\AV.slice (some (273,0)) S (.known S)= .slice (some (273,0)) S (.known S)/\pd (hR X0 X1) [(273,js S)]=pd (hR X0 X1) [(273,js S)]/\274=274/\273=273/\true=true/\true=true:=⟨rfl,rfl,rfl,rfl,rfl,rfl,rfl,rfl,rfl⟩
theorem XV(X0 X1:Option aE)(hS:1<=S/\S<=32):gT (fK Tryd.prog 270 eg eD LN) 4 aaE (ZJ X0 X1 S) ⟨25,iD [.slice (some (272,0)) 1 (.known 1),.int .i64 (.ofNat S)],max Tryd.f25.ntmps 2,[.code (aO Tryd.prog 25 [])],[],none⟩ ⟨hR X0 X1,273,273,[],[]⟩:=by
 have h:S=1\/S=2\/S=3\/S=4\/S=5\/S=6\/S=7\/S=8\/S=9\/S=10\/S=11\/S=12\/S=13\/S=14\/S=15\/S=16\/S=17\/S=18\/S=19\/S=20\/S=21\/S=22\/S=23\/S=24\/S=25\/S=26\/S=27\/S=28\/S=29\/S=30\/S=31\/S=32:=by omega
 have T:=aa0 X0 X1 S
 rcases h with rfl|rfl|rfl|rfl|rfl|rfl|rfl|rfl|rfl|rfl|rfl|rfl|rfl|rfl|rfl|rfl|rfl|rfl|rfl|rfl|rfl|rfl|rfl|rfl|rfl|rfl|rfl|rfl|rfl|rfl|rfl|rfl
 all_goals exact qR (C:=fun _ _ _=>False) nA rfl (fun _ _ _ h=>h.elim) 2000 (ZL hS) T
theorem tN(hS:1<=S/\S<=32)(X0 X1:Option aE):CJ False (en LN) 5 25 [.slice (some (272,0)) 1 (.known 1),.int .i64 (.ofNat S)] ⟨hR X0 X1,273,273,[],[]⟩ (.slice (some (273,0)) S (.known S)) [(273,js S)] (.slice (some (273,0)) S (.known S)) [(273,js S)] 274 [272,273] [273]:=by
 obtain⟨v1,s2,q1,q2⟩:=gT.call (E:=(fK Tryd.prog 270 eg eD LN)) Tryd.func25 (fQ Tryd.func25 jl) (XV X0 X1 hS)
 obtain⟨h2,Qv,Oa,gM,AM⟩:=s2
 obtain⟨rfl,b1,b2,b3,b4,b5⟩:=q2
 simp only at b1 b2 b3 b4 b5
 subst b1;subst b2;subst b3
 exact⟨gM,AM,tg b4,tg b5,.inr q1⟩
noncomputable def Qw:List AV:=[(.int .i64 0),(.int .i64 0),(.int .i64 0),(.int .i64 0),(.int .i64 0),(.int .i64 0),(.int .u32 0),(.int .u32 0),(.int .u32 0),(.int .u32 0),(.int .i64 0),(.int .i64 0),(.bool false)]
noncomputable def oZ(n o len nT nS:Nat)(T V S:Int):List (Nat×Option aE):=[(270,some (.cells 4 (Tr.fill [.int .i64 T,.int .i64 V,.int .i64 S,.ae n o len] 0 .nil) [])),(271,some (.cells (nT*13) .nil Qw)),(273,js nS),(274,some (.cells 5 (Tr.fill [.int .i64 V,.int .i64 0,.int .i64 0,.slice (some (271,0)) nT (.known nT),.slice (some (273,0)) nS (.known nS)] 0 .nil) []))]
theorem c8.Oc{r:Nat->Nat}{z:List AV}(h:∀i,i<n->cellAt t z i=cellAt t' z' i)(hf:∀i x,i<n->cellAt t z i=some x->aJ r x x):c8 r (.cells n t z) (.cells n t' z'):=by
 intro ρ N ob k
 obtain⟨c,e,rfl,k1,k2,k3⟩:=k
 refine⟨c,e,rfl,k1,k2,fun i hi=>?_⟩
 obtain⟨x,v,a1,a2,a3,a4⟩:=k3 i hi
 exact⟨x,v,by rw[←h i hi];exact a1,a2,a3,hf i x hi a1 ρ v a4⟩
theorem Mq{z:List AV}(h:(List.range n).map (cellAt t z)=(List.range n).map (cellAt t' z')):∀i,i<n->cellAt t z i=cellAt t' z' i:=by
 intro i hi
 have:=congrArg (fun l=>l[i]?) h
 simp only[List.getElem?_map,List.getElem?_range hi,Option.map_some,Option.some.injEq] at this
 exact this
theorem zth(h:n<7):(List.range (n*13)).map (cellAt .nil Qw)=(List.range (n*13)).map (cellAt (Tr.fill ((List.replicate n ed).map dc).flatten 0 .nil) []):=by
 obtain rfl|rfl|rfl|rfl|rfl|rfl|rfl:n=0\/n=1\/n=2\/n=3\/n=4\/n=5\/n=6:=by omega
 all_goals kernel_rfl
theorem Fq{α:Type}{enc:α->List AV}(h:∀x,(enc x).all AV.flat=true):∀l:List α,(l.map enc).flatten.all AV.flat=true
 |[]=>rfl
 |a::l=>by rw[List.map_cons,List.flatten_cons,List.all_append,h a,Fq h l];rfl
theorem K7{l:List AV}{r:Nat->Nat}(hl:l.length<=top)(h:l.all AV.flat=true){i:Nat}{x:AV}{z:List AV}(hi:i<l.length)(e:cellAt (Tr.fill l 0 .nil) z i=some x):aJ r x x:=by
 unfold cellAt at e
 rw[vY _ hl i hi,List.getElem?_eq_getElem hi] at e
 injection e with e;subst e
 exact aJ.flat (List.all_eq_true.1 h _ (List.getElem_mem hi))
theorem ZM{o len nT:Nat}{S:Int}(hn:top<=n)(hm:top<=m)(h6:nT<7)(hS:1<=nS/\nS<=32):fC FU 270 275 (aP n o len m p lo nT nS T V S (List.replicate nT ed) (List.replicate nS eb) 0 0 0).l (ay++oZ n o len nT nS T V S) (aP n o len m p lo nT nS T V S (List.replicate nT ed) (List.replicate nS eb) 0 0 0).l (ay++(aP n o len m p lo nT nS T V S (List.replicate nT ed) (List.replicate nS eb) 0 0 0).o) 275:=by
  have hz:=zth h6
  refine Qs (fz:=[]) id J J dW (fun k a b=>⟨a,b⟩) (fun j k _ _ _ _ e=>e) (fun r r1 r2 r3 p hp=>?_) (fun r r1 r2 r3 p hp=>?_) (fun p hp=>by cases hp)
  · have oy:=hp
    simp only[aP,List.mem_cons,List.not_mem_nil,or_false] at hp
    rcases hp with rfl|rfl|rfl|rfl|rfl|rfl
    · exact⟨by show(1:Nat)<top;unfold top;omega,_,oy,(mK hm r3)⟩
    · exact⟨by show(2:Nat)<top;unfold top;omega,_,oy,(aJ.ptr ((r2 270 J J).trans rfl)).z⟩
    · exact⟨by show(5:Nat)<top;unfold top;omega,_,oy,(aJ.ptr ((r2 274 J J).trans rfl)).z⟩
    · exact⟨by show(35:Nat)<top;unfold top;omega,_,oy,(mK hn r3)⟩
    · exact⟨by show(36:Nat)<top;unfold top;omega,_,oy,(aJ.int _ _).z⟩
    · exact⟨by show(37:Nat)<top;unfold top;omega,_,oy,(aJ.int _ _).z⟩
  · simp only[aP,List.mem_cons,List.not_mem_nil,or_false] at hp
    rcases hp with rfl|rfl|rfl|rfl
    · refine⟨by show 270<=270;omega,by show 270<275;omega,fun y hy=>?_⟩
      injection hy with hy;subst hy
      exact⟨rfl,_,.head _,fun h=>h,(iH.cells (l:=[.int .i64 T,.int .i64 V,.int .i64 S,.ae n o len]) (m:=[.int .i64 T,.int .i64 V,.int .i64 S,.ae n o len]) (by show 4<=top;unfold top;omega) ⟨(aJ.int _ _).z,(aJ.int _ _).z,(aJ.int _ _).z,(mK hn r3),trivial⟩ rfl)⟩
    · refine⟨by show 270<=271;omega,by show 271<275;omega,fun y hy=>?_⟩
      injection hy with hy;subst hy
      refine⟨rfl,_,.tail _ (.head _),fun h=>h,?_⟩
      have hlen:((List.replicate nT ed).map dc).flatten.length=nT*13:=by rw[pI bc.len,List.length_replicate]
      unfold aD
      rw[hlen]
      refine(c8.Oc (Mq hz) fun i x hi e=>?_).z
      rw[Mq hz i hi] at e
      exact K7 (by rw[hlen];unfold top;omega) (Fq bc.flat _) (by rw[hlen];exact hi) e
    · refine⟨by show 270<=273;omega,by show 273<275;omega,fun y hy=>?_⟩
      injection hy with hy;subst hy
      refine⟨rfl,_,.tail _ (.tail _ (.head _)),fun h=>h,?_⟩
      have hlen:((List.replicate nS eb).map nM).flatten.length=nS*2:=by rw[pI fh.len,List.length_replicate]
      unfold aD
      rw[hlen]
      refine(c8.Oc (fun i hi=>?_) fun i x hi e=>?_).z
      · unfold cellAt
        rw[vY _ (by rw[hlen];unfold top;omega) i (by rw[hlen];exact hi)]
        have:i<((List.replicate nS eb).map nM).flatten.length:=by rw[hlen];exact hi
        rw[List.getElem?_eq_getElem this]
      · exact K7 (by rw[hlen];unfold top;omega) (Fq fh.flat _) (by rw[hlen];exact hi) e
    · refine⟨by show 270<=274;omega,by show 274<275;omega,fun y hy=>?_⟩
      injection hy with hy;subst hy
      exact⟨rfl,_,.tail _ (.tail _ (.tail _ (.head _))),fun h=>h,(iH.cells (l:=[.int .i64 V,.int .i64 0,.int .i64 0,.slice (some (271,0)) nT (.known nT),.slice (some (273,0)) nS (.known nS)]) (m:=[.int .i64 V,.int .i64 0,.int .i64 0,.slice (some (271,0)) nT (.known nT),.slice (some (273,0)) nS (.known nS)]) (by show 5<=top;unfold top;omega) ⟨(aJ.int _ _).z,(aJ.int _ _).z,(aJ.int _ _).z,(aJ.slice ((r2 271 J J).trans rfl)).z,(aJ.slice ((r2 273 J J).trans rfl)).z,trivial⟩ rfl)⟩
theorem vF(n o len m p lo nT nS:Nat)(T V S:Int)(hn:top<=n)(hm:top<=m)(h6:nT<7)(hS:1<=nS/\nS<=32)(C:bz)(h:FH C (aP n o len m p lo nT nS T V S (List.replicate nT ed) (List.replicate nS eb) 0 0 0)):((aP n o len m p lo nT nS T V S (List.replicate nT ed) (List.replicate nS eb) 0 0 0).l.map (fun q=>some q.2)=(aP n o len m p lo nT nS T V S (List.replicate nT ed) (List.replicate nS eb) 0 0 0).l.map (fun q=>some q.2))/\((ay++oZ n o len nT nS T V S).map (fun q=>q.2)=(ay++oZ n o len nT nS T V S).map (fun q=>q.2))/\fC FU 270 275 (aP n o len m p lo nT nS T V S (List.replicate nT ed) (List.replicate nS eb) 0 0 0).l (ay++oZ n o len nT nS T V S) (aP n o len m p lo nT nS T V S (List.replicate nT ed) (List.replicate nS eb) 0 0 0).l (ay++(aP n o len m p lo nT nS T V S (List.replicate nT ed) (List.replicate nS eb) 0 0 0).o) 275/\FH C (aP n o len m p lo nT nS T V S (List.replicate nT ed) (List.replicate nS eb) 0 0 0):=⟨rfl,rfl,ZM hn hm h6 hS,h⟩
abbrev Lv(n o len m p lo nS:Nat)(V:Int):bz:=fun fr s1 _=>((lo:Int)=0)/\FC (aP n o len m p lo 0 nS 0 V (nS:Int) (List.replicate 0 ed) (List.replicate nS eb) 0 0 0) fr s1
theorem V1(mc:Mc (sp LN) 6 B){o len:Nat}(hn:top<=n)(hm:top<=m)(hV:1<=V/\V<=32)(xV:(nS:Int)<=V)(hS:1<=nS/\nS<=32)(hF:(lo:Int)≠0->v'= .bool false)(H:(lo:Int)=0->FSQ B v' cg (aP n o len m p lo 0 nS 0 V (nS:Int) (List.replicate 0 ed) (List.replicate nS eb) 0 0 0)):bw B 9 (max Tryd.f9.ntmps 2) cg [(.agg [(.int .i64 (.ofNat 0)),(.int .i64 V),(.int .i64 ((nS:Int))),(.ae n o len)]),(.ae m p lo)] v':=by
 exact wC mc (C:=(Lv n o len m p lo nS V)) nV 2000 (gC 3 6 (.il (gC 4 8 (.fk .no (.go 3 (.fk .no (.go 3 (.fk .no (.go 4 (.fk .no (gA 1 3 6 (.c2 False (.slice (some (273,0)) nS (.known nS)) [(273,js nS)] (.slice (some (273,0)) nS (.known nS)) [(273,js nS)] 274 [272,273] [273] .no (gH 4 1 (gA 5 2 7 (.fk (gF 1 4) (gK 1 7 (fO (aP n o len m p lo 0 nS 0 V (nS:Int) (List.replicate 0 ed) (List.replicate nS eb) 0 0 0).l (oZ n o len 0 nS 0 V (nS:Int)) (aP n o len m p lo 0 nS 0 V (nS:Int) (List.replicate 0 ed) (List.replicate nS eb) 0 0 0) 275))))))))))))))))) (U (V<1) aA (fun _=>U (V>32) aA (fun _=>U ((nS:Int)<1) aA (fun _=>U ((nS:Int)>V) aA (fun _=>ai (tN hS (some (.cells 4 (Tr.fill [(.int .i64 (.ofNat 0)),(.int .i64 V),(.int .i64 ((nS:Int))),(.ae n o len)] 0 .nil) [])) ((some (.cells 0 .nil [(.int .i64 (.ofNat 0)),(.int .i64 (.ofNat 0)),(.int .i64 (.ofNat 0)),(.int .i64 (.ofNat 0)),(.int .i64 (.ofNat 0)),(.int .i64 (.ofNat 0)),(.int .u32 (.ofNat 0)),(.int .u32 (.ofNat 0)),(.int .u32 (.ofNat 0)),(.int .u32 (.ofNat 0)),(.int .i64 (.ofNat 0)),(.int .i64 (.ofNat 0)),(.bool false)])))) (ai (fun(h5:False)=>o9) (U ((lo:Int)≠0) uu (fun _=>vF n o len m p lo 0 nS 0 V (nS:Int) hn hm ar hS (Lv n o len m p lo nS V) ⟨J,rfl,rfl⟩))))))))
abbrev Lw(n o len m p lo nS:Nat)(V:Int):bz:=fun fr s1 _=>((lo:Int)=1)/\FC (aP n o len m p lo 1 nS 1 V (nS:Int) (List.replicate 1 ed) (List.replicate nS eb) 0 0 0) fr s1
theorem V2(mc:Mc (sp LN) 6 B){o len:Nat}(hn:top<=n)(hm:top<=m)(hV:1<=V/\V<=32)(xV:(nS:Int)<=V)(hS:1<=nS/\nS<=32)(hF:(lo:Int)≠1->v'= .bool false)(H:(lo:Int)=1->FSQ B v' cg (aP n o len m p lo 1 nS 1 V (nS:Int) (List.replicate 1 ed) (List.replicate nS eb) 0 0 0)):bw B 9 (max Tryd.f9.ntmps 2) cg [(.agg [(.int .i64 (.ofNat 1)),(.int .i64 V),(.int .i64 ((nS:Int))),(.ae n o len)]),(.ae m p lo)] v':=by
 exact wC mc (C:=(Lw n o len m p lo nS V)) nV 2000 (gC 3 6 (.il (gC 4 8 (.fk .no (.go 3 (.fk .no (.go 3 (.fk .no (.go 4 (.fk .no (gA 1 3 6 (.c2 False (.slice (some (273,0)) nS (.known nS)) [(273,js nS)] (.slice (some (273,0)) nS (.known nS)) [(273,js nS)] 274 [272,273] [273] .no (gH 4 1 (gA 5 2 7 (.fk (gF 1 4) (gK 1 7 (fO (aP n o len m p lo 1 nS 1 V (nS:Int) (List.replicate 1 ed) (List.replicate nS eb) 0 0 0).l (oZ n o len 1 nS 1 V (nS:Int)) (aP n o len m p lo 1 nS 1 V (nS:Int) (List.replicate 1 ed) (List.replicate nS eb) 0 0 0) 275))))))))))))))))) (U (V<1) aA (fun _=>U (V>32) aA (fun _=>U ((nS:Int)<1) aA (fun _=>U ((nS:Int)>V) aA (fun _=>ai (tN hS (some (.cells 4 (Tr.fill [(.int .i64 (.ofNat 1)),(.int .i64 V),(.int .i64 ((nS:Int))),(.ae n o len)] 0 .nil) [])) ((some (.cells 13 .nil [(.int .i64 (.ofNat 0)),(.int .i64 (.ofNat 0)),(.int .i64 (.ofNat 0)),(.int .i64 (.ofNat 0)),(.int .i64 (.ofNat 0)),(.int .i64 (.ofNat 0)),(.int .u32 (.ofNat 0)),(.int .u32 (.ofNat 0)),(.int .u32 (.ofNat 0)),(.int .u32 (.ofNat 0)),(.int .i64 (.ofNat 0)),(.int .i64 (.ofNat 0)),(.bool false)])))) (ai (fun(h5:False)=>o9) (U ((lo:Int)≠1) uu (fun _=>vF n o len m p lo 1 nS 1 V (nS:Int) hn hm ar hS (Lw n o len m p lo nS V) ⟨J,rfl,rfl⟩))))))))
abbrev Lx(n o len m p lo nS:Nat)(V:Int):bz:=fun fr s1 _=>((lo:Int)=2)/\FC (aP n o len m p lo 2 nS 2 V (nS:Int) (List.replicate 2 ed) (List.replicate nS eb) 0 0 0) fr s1
theorem V3(mc:Mc (sp LN) 6 B){o len:Nat}(hn:top<=n)(hm:top<=m)(hV:1<=V/\V<=32)(xV:(nS:Int)<=V)(hS:1<=nS/\nS<=32)(hF:(lo:Int)≠2->v'= .bool false)(H:(lo:Int)=2->FSQ B v' cg (aP n o len m p lo 2 nS 2 V (nS:Int) (List.replicate 2 ed) (List.replicate nS eb) 0 0 0)):bw B 9 (max Tryd.f9.ntmps 2) cg [(.agg [(.int .i64 (.ofNat 2)),(.int .i64 V),(.int .i64 ((nS:Int))),(.ae n o len)]),(.ae m p lo)] v':=by
 exact wC mc (C:=(Lx n o len m p lo nS V)) nV 2000 (gC 3 6 (.il (gC 4 8 (.fk .no (.go 3 (.fk .no (.go 3 (.fk .no (.go 4 (.fk .no (gA 1 3 6 (.c2 False (.slice (some (273,0)) nS (.known nS)) [(273,js nS)] (.slice (some (273,0)) nS (.known nS)) [(273,js nS)] 274 [272,273] [273] .no (gH 4 1 (gA 5 2 7 (.fk (gF 1 4) (gK 1 7 (fO (aP n o len m p lo 2 nS 2 V (nS:Int) (List.replicate 2 ed) (List.replicate nS eb) 0 0 0).l (oZ n o len 2 nS 2 V (nS:Int)) (aP n o len m p lo 2 nS 2 V (nS:Int) (List.replicate 2 ed) (List.replicate nS eb) 0 0 0) 275))))))))))))))))) (U (V<1) aA (fun _=>U (V>32) aA (fun _=>U ((nS:Int)<1) aA (fun _=>U ((nS:Int)>V) aA (fun _=>ai (tN hS (some (.cells 4 (Tr.fill [(.int .i64 (.ofNat 2)),(.int .i64 V),(.int .i64 ((nS:Int))),(.ae n o len)] 0 .nil) [])) ((some (.cells 26 .nil [(.int .i64 (.ofNat 0)),(.int .i64 (.ofNat 0)),(.int .i64 (.ofNat 0)),(.int .i64 (.ofNat 0)),(.int .i64 (.ofNat 0)),(.int .i64 (.ofNat 0)),(.int .u32 (.ofNat 0)),(.int .u32 (.ofNat 0)),(.int .u32 (.ofNat 0)),(.int .u32 (.ofNat 0)),(.int .i64 (.ofNat 0)),(.int .i64 (.ofNat 0)),(.bool false)])))) (ai (fun(h5:False)=>o9) (U ((lo:Int)≠2) uu (fun _=>vF n o len m p lo 2 nS 2 V (nS:Int) hn hm ar hS (Lx n o len m p lo nS V) ⟨J,rfl,rfl⟩))))))))
abbrev Ly(n o len m p lo nS:Nat)(V:Int):bz:=fun fr s1 _=>((lo:Int)=3)/\FC (aP n o len m p lo 3 nS 3 V (nS:Int) (List.replicate 3 ed) (List.replicate nS eb) 0 0 0) fr s1
theorem V4(mc:Mc (sp LN) 6 B){o len:Nat}(hn:top<=n)(hm:top<=m)(hV:1<=V/\V<=32)(xV:(nS:Int)<=V)(hS:1<=nS/\nS<=32)(hF:(lo:Int)≠3->v'= .bool false)(H:(lo:Int)=3->FSQ B v' cg (aP n o len m p lo 3 nS 3 V (nS:Int) (List.replicate 3 ed) (List.replicate nS eb) 0 0 0)):bw B 9 (max Tryd.f9.ntmps 2) cg [(.agg [(.int .i64 (.ofNat 3)),(.int .i64 V),(.int .i64 ((nS:Int))),(.ae n o len)]),(.ae m p lo)] v':=by
 exact wC mc (C:=(Ly n o len m p lo nS V)) nV 2000 (gC 3 6 (.il (gC 4 8 (.fk .no (.go 3 (.fk .no (.go 3 (.fk .no (.go 4 (.fk .no (gA 1 3 6 (.c2 False (.slice (some (273,0)) nS (.known nS)) [(273,js nS)] (.slice (some (273,0)) nS (.known nS)) [(273,js nS)] 274 [272,273] [273] .no (gH 4 1 (gA 5 2 7 (.fk (gF 1 4) (gK 1 7 (fO (aP n o len m p lo 3 nS 3 V (nS:Int) (List.replicate 3 ed) (List.replicate nS eb) 0 0 0).l (oZ n o len 3 nS 3 V (nS:Int)) (aP n o len m p lo 3 nS 3 V (nS:Int) (List.replicate 3 ed) (List.replicate nS eb) 0 0 0) 275))))))))))))))))) (U (V<1) aA (fun _=>U (V>32) aA (fun _=>U ((nS:Int)<1) aA (fun _=>U ((nS:Int)>V) aA (fun _=>ai (tN hS (some (.cells 4 (Tr.fill [(.int .i64 (.ofNat 3)),(.int .i64 V),(.int .i64 ((nS:Int))),(.ae n o len)] 0 .nil) [])) ((some (.cells 39 .nil [(.int .i64 (.ofNat 0)),(.int .i64 (.ofNat 0)),(.int .i64 (.ofNat 0)),(.int .i64 (.ofNat 0)),(.int .i64 (.ofNat 0)),(.int .i64 (.ofNat 0)),(.int .u32 (.ofNat 0)),(.int .u32 (.ofNat 0)),(.int .u32 (.ofNat 0)),(.int .u32 (.ofNat 0)),(.int .i64 (.ofNat 0)),(.int .i64 (.ofNat 0)),(.bool false)])))) (ai (fun(h5:False)=>o9) (U ((lo:Int)≠3) uu (fun _=>vF n o len m p lo 3 nS 3 V (nS:Int) hn hm ar hS (Ly n o len m p lo nS V) ⟨J,rfl,rfl⟩))))))))
abbrev Lz(n o len m p lo nS:Nat)(V:Int):bz:=fun fr s1 _=>((lo:Int)=4)/\FC (aP n o len m p lo 4 nS 4 V (nS:Int) (List.replicate 4 ed) (List.replicate nS eb) 0 0 0) fr s1
theorem V5(mc:Mc (sp LN) 6 B){o len:Nat}(hn:top<=n)(hm:top<=m)(hV:1<=V/\V<=32)(xV:(nS:Int)<=V)(hS:1<=nS/\nS<=32)(hF:(lo:Int)≠4->v'= .bool false)(H:(lo:Int)=4->FSQ B v' cg (aP n o len m p lo 4 nS 4 V (nS:Int) (List.replicate 4 ed) (List.replicate nS eb) 0 0 0)):bw B 9 (max Tryd.f9.ntmps 2) cg [(.agg [(.int .i64 (.ofNat 4)),(.int .i64 V),(.int .i64 ((nS:Int))),(.ae n o len)]),(.ae m p lo)] v':=by
 exact wC mc (C:=(Lz n o len m p lo nS V)) nV 2000 (gC 3 6 (.il (gC 4 8 (.fk .no (.go 3 (.fk .no (.go 3 (.fk .no (.go 4 (.fk .no (gA 1 3 6 (.c2 False (.slice (some (273,0)) nS (.known nS)) [(273,js nS)] (.slice (some (273,0)) nS (.known nS)) [(273,js nS)] 274 [272,273] [273] .no (gH 4 1 (gA 5 2 7 (.fk (gF 1 4) (gK 1 7 (fO (aP n o len m p lo 4 nS 4 V (nS:Int) (List.replicate 4 ed) (List.replicate nS eb) 0 0 0).l (oZ n o len 4 nS 4 V (nS:Int)) (aP n o len m p lo 4 nS 4 V (nS:Int) (List.replicate 4 ed) (List.replicate nS eb) 0 0 0) 275))))))))))))))))) (U (V<1) aA (fun _=>U (V>32) aA (fun _=>U ((nS:Int)<1) aA (fun _=>U ((nS:Int)>V) aA (fun _=>ai (tN hS (some (.cells 4 (Tr.fill [(.int .i64 (.ofNat 4)),(.int .i64 V),(.int .i64 ((nS:Int))),(.ae n o len)] 0 .nil) [])) ((some (.cells 52 .nil [(.int .i64 (.ofNat 0)),(.int .i64 (.ofNat 0)),(.int .i64 (.ofNat 0)),(.int .i64 (.ofNat 0)),(.int .i64 (.ofNat 0)),(.int .i64 (.ofNat 0)),(.int .u32 (.ofNat 0)),(.int .u32 (.ofNat 0)),(.int .u32 (.ofNat 0)),(.int .u32 (.ofNat 0)),(.int .i64 (.ofNat 0)),(.int .i64 (.ofNat 0)),(.bool false)])))) (ai (fun(h5:False)=>o9) (U ((lo:Int)≠4) uu (fun _=>vF n o len m p lo 4 nS 4 V (nS:Int) hn hm ar hS (Lz n o len m p lo nS V) ⟨J,rfl,rfl⟩))))))))
abbrev LA(n o len m p lo nS:Nat)(V:Int):bz:=fun fr s1 _=>((lo:Int)=5)/\FC (aP n o len m p lo 5 nS 5 V (nS:Int) (List.replicate 5 ed) (List.replicate nS eb) 0 0 0) fr s1
theorem V6(mc:Mc (sp LN) 6 B){o len:Nat}(hn:top<=n)(hm:top<=m)(hV:1<=V/\V<=32)(xV:(nS:Int)<=V)(hS:1<=nS/\nS<=32)(hF:(lo:Int)≠5->v'= .bool false)(H:(lo:Int)=5->FSQ B v' cg (aP n o len m p lo 5 nS 5 V (nS:Int) (List.replicate 5 ed) (List.replicate nS eb) 0 0 0)):bw B 9 (max Tryd.f9.ntmps 2) cg [(.agg [(.int .i64 (.ofNat 5)),(.int .i64 V),(.int .i64 ((nS:Int))),(.ae n o len)]),(.ae m p lo)] v':=by
 exact wC mc (C:=(LA n o len m p lo nS V)) nV 2000 (gC 3 6 (.il (gC 4 8 (.fk .no (.go 3 (.fk .no (.go 3 (.fk .no (.go 4 (.fk .no (gA 1 3 6 (.c2 False (.slice (some (273,0)) nS (.known nS)) [(273,js nS)] (.slice (some (273,0)) nS (.known nS)) [(273,js nS)] 274 [272,273] [273] .no (gH 4 1 (gA 5 2 7 (.fk (gF 1 4) (gK 1 7 (fO (aP n o len m p lo 5 nS 5 V (nS:Int) (List.replicate 5 ed) (List.replicate nS eb) 0 0 0).l (oZ n o len 5 nS 5 V (nS:Int)) (aP n o len m p lo 5 nS 5 V (nS:Int) (List.replicate 5 ed) (List.replicate nS eb) 0 0 0) 275))))))))))))))))) (U (V<1) aA (fun _=>U (V>32) aA (fun _=>U ((nS:Int)<1) aA (fun _=>U ((nS:Int)>V) aA (fun _=>ai (tN hS (some (.cells 4 (Tr.fill [(.int .i64 (.ofNat 5)),(.int .i64 V),(.int .i64 ((nS:Int))),(.ae n o len)] 0 .nil) [])) ((some (.cells 65 .nil [(.int .i64 (.ofNat 0)),(.int .i64 (.ofNat 0)),(.int .i64 (.ofNat 0)),(.int .i64 (.ofNat 0)),(.int .i64 (.ofNat 0)),(.int .i64 (.ofNat 0)),(.int .u32 (.ofNat 0)),(.int .u32 (.ofNat 0)),(.int .u32 (.ofNat 0)),(.int .u32 (.ofNat 0)),(.int .i64 (.ofNat 0)),(.int .i64 (.ofNat 0)),(.bool false)])))) (ai (fun(h5:False)=>o9) (U ((lo:Int)≠5) uu (fun _=>vF n o len m p lo 5 nS 5 V (nS:Int) hn hm ar hS (LA n o len m p lo nS V) ⟨J,rfl,rfl⟩))))))))
abbrev LB(n o len m p lo nS:Nat)(V:Int):bz:=fun fr s1 _=>((lo:Int)=6)/\FC (aP n o len m p lo 6 nS 6 V (nS:Int) (List.replicate 6 ed) (List.replicate nS eb) 0 0 0) fr s1
theorem V7(mc:Mc (sp LN) 6 B){o len:Nat}(hn:top<=n)(hm:top<=m)(hV:1<=V/\V<=32)(xV:(nS:Int)<=V)(hS:1<=nS/\nS<=32)(hF:(lo:Int)≠6->v'= .bool false)(H:(lo:Int)=6->FSQ B v' cg (aP n o len m p lo 6 nS 6 V (nS:Int) (List.replicate 6 ed) (List.replicate nS eb) 0 0 0)):bw B 9 (max Tryd.f9.ntmps 2) cg [(.agg [(.int .i64 (.ofNat 6)),(.int .i64 V),(.int .i64 ((nS:Int))),(.ae n o len)]),(.ae m p lo)] v':=by
 exact wC mc (C:=(LB n o len m p lo nS V)) nV 2000 (gC 3 6 (.il (gC 4 8 (.fk .no (.go 3 (.fk .no (.go 3 (.fk .no (.go 4 (.fk .no (gA 1 3 6 (.c2 False (.slice (some (273,0)) nS (.known nS)) [(273,js nS)] (.slice (some (273,0)) nS (.known nS)) [(273,js nS)] 274 [272,273] [273] .no (gH 4 1 (gA 5 2 7 (.fk (gF 1 4) (gK 1 7 (fO (aP n o len m p lo 6 nS 6 V (nS:Int) (List.replicate 6 ed) (List.replicate nS eb) 0 0 0).l (oZ n o len 6 nS 6 V (nS:Int)) (aP n o len m p lo 6 nS 6 V (nS:Int) (List.replicate 6 ed) (List.replicate nS eb) 0 0 0) 275))))))))))))))))) (U (V<1) aA (fun _=>U (V>32) aA (fun _=>U ((nS:Int)<1) aA (fun _=>U ((nS:Int)>V) aA (fun _=>ai (tN hS (some (.cells 4 (Tr.fill [(.int .i64 (.ofNat 6)),(.int .i64 V),(.int .i64 ((nS:Int))),(.ae n o len)] 0 .nil) [])) ((some (.cells 78 .nil [(.int .i64 (.ofNat 0)),(.int .i64 (.ofNat 0)),(.int .i64 (.ofNat 0)),(.int .i64 (.ofNat 0)),(.int .i64 (.ofNat 0)),(.int .i64 (.ofNat 0)),(.int .u32 (.ofNat 0)),(.int .u32 (.ofNat 0)),(.int .u32 (.ofNat 0)),(.int .u32 (.ofNat 0)),(.int .i64 (.ofNat 0)),(.int .i64 (.ofNat 0)),(.bool false)])))) (ai (fun(h5:False)=>o9) (U ((lo:Int)≠6) uu (fun _=>vF n o len m p lo 6 nS 6 V (nS:Int) hn hm ar hS (LB n o len m p lo nS V) ⟨J,rfl,rfl⟩))))))))
theorem aa1(mc:Mc (sp LN) 6 B){o len:Nat}{S:Int}(H7:T<0\/T>6\/V<1\/V>32\/S<1\/S>V):bw B 9 (max Tryd.f9.ntmps 2) cg [(.agg (bK T V S n o len)),(.ae m p lo)] (.bool false):=by
 exact wS mc 2000 ((fun(q1:Pl)=>(gC 3 6 (.il (gC 4 1 (.fk (.go 21 q1) (.go 2 (.fk (.go 18 q1) (.go 3 (.fk (.go 14 q1) (.go 3 (.fk (.go 10 q1) (.go 3 (.fk (.go 6 q1) (.go 4 (.fk (.go 1 q1) .no))))))))))))))) (gI 4 (gF 5 7))) (U (T<0) wW (fun _=>U (T>6) wW (fun _=>U (V<1) wW (fun _=>U (V>32) wW (fun _=>U (S<1) wW (fun _=>U (S>V) wW aA))))))
end Pv
end
