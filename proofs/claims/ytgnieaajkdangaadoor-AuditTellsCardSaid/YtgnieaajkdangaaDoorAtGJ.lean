import Derived.Test.YtgnieaajkdangaaDoorAtGI
import Derived.Test.YtgnieaajkdangaaDoorRnGE
set_option maxRecDepth 100000
set_option maxHeartbeats 8000000
set_option linter.unusedSimpArgs false
section
open Go Go.Rn Go.RowKit Go.Proofs
namespace pB
open cd cj cv cD mz cH cI cN fx gk eP
variable {x ab v tx th S ve ow i V T lf:Int} {A:bQ} {B:aZ} {v':AV} {n:Nat} {W:List Int}
noncomputable def mP(n o len:Nat)(th tx I v x ab:Int)(A:bQ)(i:Int):Fm:=⟨42,[(0,(.ae n o len)),(11,(.ptr (some (271,0)))),(21,(.int .i64 i))],476,[.code (aO Tryd.prog 42 [1,1,1,1,1,1,1,1,1,0,1,0,1,1,1,1,1,1,1,1,1,1,1,1,1,1,1,1,1,1,1,1,1,0,0,1,0,0]),.inLoop (aO Tryd.prog 42 [1,1,1,1,1,1,1,1,1,0,1,0,1,1,1,1,1,1,1,1,1,1,1,1,1,1,1,1,1,1,1,1,1,0,0,1,0,0]),.inBlock 3,.code (aO Tryd.prog 42 [1,1,1,1,1,1,1,1,1,0,1,0,1,1,1,1,1,1,1,1,1,1,1,1,1,1,1,1,1,1,1,1,1,0,1]),.inBlock 0,.code (aO Tryd.prog 42 [1,1,1,1,1,1,1,1,1,1])],[(270,some (.cells 7 (Tr.fill (bn (.ofNat 13) th tx I v x ab) 0 .nil) [])),(271,some (.cells 10 (Tr.fill [(.ae (nE A.L) 0 A.L.length),(.int .i64 A.rv),(.int .i64 A.wv),(.ae (nI A.read) 0 A.read.length),(.ae (nI A.ao) 0 A.ao.length),(.ae (nI A.ax) 0 A.ax.length),(.int .i64 A.checked),(.ae (nI A.aC) 0 A.aC.length),(.int .u8 A.ab),(.int .u8 A.last)] 0 .nil) []))],272⟩
theorem aaM(mc:Mc (sp gY) 6 B){o len:Nat}{I s:Int}(h0:0<=i)(hi:i<(A.read.length:Int))(hb:A.read.length<=1000)(AD:A.last=12)(hs:bM FU (nI A.read) (0+i.toNat*1) 1=some [.int .i64 s])(cw:bj (aY (RE ia)) [.ae n o len,.int .i64 s]=some (.int .i64 ow))(cJ:bj (aY (RE iw)) [.ae n o len,.int .i64 s]=some (.int .i64 ve))(hT:ow<0/\A.rv<ve->v'= .bool true)(H:(¬(ow<0/\A.rv<ve))->FSQ B v' fN (mP n o len th tx I v x ab A (i+1))):FSQ B v' fN (mP n o len th tx I v x ab A i):=by
 exact wC mc (C:=(fun fr s1 _=>(¬(ow<0/\A.rv<ve))/\FC (mP n o len th tx I v x ab A (i+1)) fr s1)) nV 2000 ((fun(q1:Pl)=>(gC 2 4 (.fk (.go 3 (.fk (gA 1 5 4 (.bI (.bJ [(.int .i64 s)] (.kn (.int .i64 ow) (.fk (.go 5 (.bI (.bJ [(.int .i64 s)] (.kn (.int .i64 ve) (.go 2 (.fk (gF 1 4) (.go 1 q1))))))) (.go 12 q1)))))) .no)) .no))) (gB 3 1 (.vl (.int .i64 (i+1)) (gK 1 1 (iT (mP n o len th tx I v x ab A (i+1))))))) (U (i<(A.read.length:Int)) (fun _=>U (A.last=12) (fun _=>aV i (A.read.length:Int) J J (ai (dB (A.read.map aK).flatten) (ai (hs) (ai cw (U (ow<0) (fun _=>aV i (A.read.length:Int) J J (ai (dB (A.read.map aK).flatten) (ai (hs) (ai cJ (U (ve>A.rv) (fun _=>eT true (hT J)) NV))))) NV))))) aA) aA)
theorem Pe(mc:Mc (sp gY) 6 B){o len:Nat}{I:Int}(h0:0<=i)(hi:¬(i<(A.read.length:Int)/\A.last=12)):FSQ B (.bool false) fN (mP n o len th tx I v x ab A i):=by
 exact wS mc 2000 (gC 2 4 (.fk (.go 3 (.fk .no (gF 1 5))) (gF 5 5))) (U (i<(A.read.length:Int)) (fun _=>U (A.last=12) aA (fun _=>AB false)) (fun _=>AB false))
theorem aaN(mc:Mc (sp gY) 6 B){o len:Nat}{I:Int}(eJ:0<=A.rv/\A.rv<=1099511627776)(dX:1<=S)(hq:aB 13 th tx I v x ab T V S)(cG:bj (aY (RE hU)) [.ae n o len,.int .i64 th,.int .i64 S]=some (.agg (cq A)))(cw:bj (aY (RE ia)) [.ae n o len,.int .i64 I]=some (.int .i64 ow))(cJ:bj (aY (RE iw)) [.ae n o len,.int .i64 I]=some (.int .i64 ve))(aU:¬aS A)(H:FSQ B v' fN (mP n o len th tx I v x ab A 0)):bw B 42 (max Tryd.f42.ntmps 5) fN [(.ae n o len),(.agg (bn (.ofNat 13) th tx I v x ab)),(.int .i64 T),(.int .i64 V),(.int .i64 S)] v':=by
 exact wC mc (C:=(fun fr s1 _=>True/\FC (mP n o len th tx I v x ab A 0) fr s1)) C2 2000 ((fun(q1:Pl)=>((fun(q2:Pl)=>((fun(q3:Pl)=>(gC 4 4 (.kn (.bool true) (gA 1 3 4 (.kn (.agg [(.ae (nE A.L) 0 A.L.length),(.int .i64 A.rv),(.int .i64 A.wv),(.ae (nI A.read) 0 A.read.length),(.ae (nI A.ao) 0 A.ao.length),(.ae (nI A.ax) 0 A.ax.length),(.int .i64 A.checked),(.ae (nI A.aC) 0 A.aC.length),(.int .u8 A.ab),(.int .u8 A.last)]) (gA 2 7 1 (.kn (.bool false) (gB 3 2 (.fk (.go 6 q3) (.go 3 (.fk (.go 2 q3) (.go 2 q3)))))))))))) (gB 1 2 (.fk (.go 6 q2) (.go 3 (.fk (.go 2 q2) (.go 2 q2))))))) (gB 1 3 (.kn (.int .i64 ow) (gA 1 1 1 (.fk (.go 4 (.fk (.go 2 q1) (.go 2 q1))) (.go 7 q1))))))) (gL 42 (iT (mP n o len th tx I v x ab A 0)))) (ai (jH 13 th tx I v x ab T V S J hq) (ai (cG) (ai kP (U (A.last=1) Gz (fun _=>U (A.last=3) Gz Gz)))))
theorem aaO(mc:Mc (sp gY) 6 B){o len:Nat}{I:Int}(eJ:0<=A.rv/\A.rv<=1099511627776)(dX:1<=S)(hq:aB 13 th tx I v x ab T V S)(cG:bj (aY (RE hU)) [.ae n o len,.int .i64 th,.int .i64 S]=some (.agg (cq A)))(cw:bj (aY (RE ia)) [.ae n o len,.int .i64 I]=some (.int .i64 ow))(cJ:bj (aY (RE iw)) [.ae n o len,.int .i64 I]=some (.int .i64 ve))(aU:¬aS A)(hb:A.read.length<=1000)(fo fv:Int->Int)(hO:∀s,bj (aY (RE ia)) [.ae n o len,.int .i64 s]=some (.int .i64 (fo s)))(hV:∀s,bj (aY (RE iw)) [.ae n o len,.int .i64 s]=some (.int .i64 (fv s)))(hT:(A.last=12/\∃s∈A.read,fo s<0/\A.rv<fv s)->v'= .bool true)(hF:¬(A.last=12/\∃s∈A.read,fo s<0/\A.rv<fv s)->v'= .bool false):bw B 42 (max Tryd.f42.ntmps 5) fN [(.ae n o len),(.agg (bn (.ofNat 13) th tx I v x ab)),(.int .i64 T),(.int .i64 V),(.int .i64 S)] v':=by
  refine aaN mc eJ dX hq cG cw cJ aU ?_
  by_cases AD:A.last=12
  · have key:∀m k:Nat,k+m=A.read.length->(∀s∈A.read.take k,¬(fo s<0/\A.rv<fv s))->FSQ B v' fN (mP n o len th tx I v x ab A (k:Int)):=by
      intro m
      induction m with
      | zero=>
        intro k hk hn
        rw[List.take_of_length_le J] at hn
        rw[hF (fun q=>by obtain⟨s,h1,h2⟩:=q.2;exact hn s h1 h2)]
        exact Pe mc J J
      | succ m ih=>
        intro k hk hn
        obtain⟨s,he⟩:∃s,A.read[k]? =some s:=⟨_,List.getElem?_eq_getElem J⟩
        have hm:=List.mem_of_getElem? he
        refine aaM (s:=s) (ow:=fo s) (ve:=fv s) mc J J hb AD (vr (by rw[Int.toNat_natCast];exact he)) (hO s) (hV s) (fun q=>hT ⟨AD,s,hm,q⟩) (fun q=>?_)
        have e2:((k:Int)+1)=((k+1:Nat):Int):=by omega
        rw[e2]
        refine ih (k+1) J fun r hr=>?_
        rw[List.take_add_one,he] at hr
        rcases List.mem_append.1 hr with hr|hr
        · exact hn r hr
        · simp only[Option.toList,List.mem_cons,List.not_mem_nil,or_false] at hr
          subst hr;exact q
    exact key A.read.length 0 J (fun s hs=>by simp at hs)
  · rw[hF (fun q=>AD q.1)]
    exact Pe mc J (fun q=>AD q.2)
noncomputable def iK(th tx I v x ab:Int)(A:bQ)(S i:Int)(W:List Int):Fm:=⟨42,[(4,(.int .i64 S)),(6,(.ptr (some (270,0)))),(11,(.ptr (some (271,0)))),(19,(.ae (nI W) 0 W.length)),(20,(.int .i64 i))],476,[.code (aO Tryd.prog 42 [1,1,1,1,1,1,1,1,1,0,1,0,1,1,1,1,1,1,1,1,1,1,1,1,1,1,1,0,1,0,1,0,0]),.inLoop (aO Tryd.prog 42 [1,1,1,1,1,1,1,1,1,0,1,0,1,1,1,1,1,1,1,1,1,1,1,1,1,1,1,0,1,0,1,0,0]),.inBlock 1,.code (aO Tryd.prog 42 [1,1,1,1,1,1,1,1,1,0,1,0,1,1,1,1,1,1,1,1,1,1,1,1,1,1,1,0,1,1]),.inBlock 0,.code (aO Tryd.prog 42 [1,1,1,1,1,1,1,1,1,1])],[(270,some (.cells 7 (Tr.fill (bn (.ofNat 9) th tx I v x ab) 0 .nil) [])),(271,some (.cells 10 (Tr.fill [(.ae (nE A.L) 0 A.L.length),(.int .i64 A.rv),(.int .i64 A.wv),(.ae (nI A.read) 0 A.read.length),(.ae (nI A.ao) 0 A.ao.length),(.ae (nI A.ax) 0 A.ax.length),(.int .i64 A.checked),(.ae (nI A.aC) 0 A.aC.length),(.int .u8 A.ab),(.int .u8 A.last)] 0 .nil) []))],272⟩
theorem DN(mc:Mc (sp gY) 6 B){I s:Int}(h0:0<=i)(hi:i<(A.aC.length:Int))(hb:A.aC.length<=1000)(dX:1<=S)(hW:W.length<=1000)(hs:bM FU (nI A.aC) (0+i.toNat*1) 1=some [.int .i64 s])(H:FSQ B v' fN (iK th tx I v x ab A S (i+1) (cP W (Int.tmod s S)))):FSQ B v' fN (iK th tx I v x ab A S i W):=by
 exact wC mc (C:=(fun fr s1 _=>True/\FC (iK th tx I v x ab A S (i+1) (cP W (Int.tmod s S))) fr s1)) C2 2000 (gC 2 4 (.fk (gB 4 4 (.bI (.bJ [(.int .i64 s)] (.go 1 (.rm (.kn (.ae (nI (cP W (Int.tmod s S))) 0 (cP W (Int.tmod s S)).length) (gA 1 1 1 (.vl (.int .i64 (i+1)) (gK 1 1 (iT (iK th tx I v x ab A S (i+1) (cP W (Int.tmod s S))))))))))))) .no)) (U (i<(A.aC.length:Int)) (fun _=>aV i (A.aC.length:Int) J J (ai (dB (A.aC.map aK).flatten) (ai (hs) (ai (show S≠0 from by omega) (ai (Nb W (Int.tmod s S) J) (ai cS (vp (iK th tx I v x ab A S (i+1) (cP W (Int.tmod s S))) True trivial))))))) aA)
theorem en9(mc:Mc (sp gY) 6 B){I:Int}(h0:0<=i)(hi:¬(i<(A.aC.length:Int)))(hb:A.ao.length<=1000)(xJ:A.ax.length<=1000)(vq:(A.last=8/\W.length=A.ao.length\/A.last=9)->A.ax.length<A.ao.length)(pz:A.ax.length<A.ao.length->bM FU (nI A.ao) (0+((A.ax.length:Int)).toNat*1) 1=some [.int .i64 lf])(hT:((A.last=8/\W.length=A.ao.length\/A.last=9)/\lf=I)->v'= .bool true)(hF:¬((A.last=8/\W.length=A.ao.length\/A.last=9)/\lf=I)->v'= .bool false):FSQ B v' fN (iK th tx I v x ab A S i W):=by
 exact wS mc 2000 ((fun(q1:Pl)=>(gC 2 4 (.fk .no (gB 3 2 (.fk (.go 6 (.fk (.go 14 q1) (.go 4 (.fk .no (gF 14 1))))) (.go 11 (.fk (.go 9 q1) (gF 14 1)))))))) (.bI (.bJ [(.int .i64 lf)] (.fk (gF 2 1) (gF 2 1))))) (U (i<(A.aC.length:Int)) aA (fun _=>U (A.last=8) (fun _=>U ((W.length:Int)=(A.ao.length:Int)) OS (fun _=>U (A.last=9) aA (fun _=>eT false (hF J)))) (fun _=>U (A.last=9) OS (fun _=>eT false (hF J)))))
theorem VP{I:Int}(r:Nat->Nat)(r2:∀k,top<=k->r k=k):∀p∈(iK th tx I v x ab A S i W).o,∀y,p.2=some y->y.plain=true/\c8 r y y:=by
 have q:∀{α:Type} (enc:α->List AV) (l:List α),aJ r (aL enc l) (aL enc l):=fun enc l=>aJ.ae (r2 _ (dB _)) r2
 intro p hp y hy
 simp only[iK,List.mem_cons,List.not_mem_nil,or_false] at hp
 rcases hp with rfl|rfl
 ·injection hy with hy;subst hy
  exact⟨rfl,c8.cells (l:=[.int .u8 9,.int .i64 th,.int .i64 tx,.int .i64 I,.int .i64 v,.int .i64 x,.int .u8 ab]) (m:=[.int .u8 9,.int .i64 th,.int .i64 tx,.int .i64 I,.int .i64 v,.int .i64 x,.int .u8 ab]) (by show 7<=top;unfold top;omega) ⟨aJ.int _ _,aJ.int _ _,aJ.int _ _,aJ.int _ _,aJ.int _ _,aJ.int _ _,aJ.int _ _,trivial⟩ rfl⟩
 ·injection hy with hy;subst hy
  exact⟨rfl,c8.cells (l:=cq A) (m:=cq A) (by show 10<=top;unfold top;omega) ⟨q _ _,aJ.int _ _,aJ.int _ _,q _ _,q _ _,q _ _,aJ.int _ _,q _ _,aJ.int _ _,aJ.int _ _,trivial⟩ rfl⟩
theorem IN(th tx I v x ab:Int)(A:bQ)(S:Int):(([(4,(.int .i64 S)),(6,(.ptr (some (270,0)))),(11,(.ptr (some (271,0)))),(19,(.slice none 0 (.known 0))),(20,(.int .i64 (.ofNat 0)))]:List (Nat×AV)).map (fun q=>some q.2)=([(4,(.int .i64 S)),(6,(.ptr (some (270,0)))),(11,(.ptr (some (271,0)))),(19,(.slice none 0 (.known 0))),(20,(.int .i64 (.ofNat 0)))]:List (Nat×AV)).map (fun q=>some q.2))/\((ay++(iK th tx I v x ab A S 0 ([])).o).map (fun q=>q.2)=(ay++(iK th tx I v x ab A S 0 ([])).o).map (fun q=>q.2))/\fC FU 270 272 ([(4,(.int .i64 S)),(6,(.ptr (some (270,0)))),(11,(.ptr (some (271,0)))),(19,(.slice none 0 (.known 0))),(20,(.int .i64 (.ofNat 0)))]:List (Nat×AV)) (ay++(iK th tx I v x ab A S 0 ([])).o) (iK th tx I v x ab A S 0 ([])).l (ay++(iK th tx I v x ab A S 0 ([])).o) 272/\(True/\(iK th tx I v x ab A S 0 ([])).r=(iK th tx I v x ab A S 0 ([])).r/\(iK th tx I v x ab A S 0 ([])).s=(iK th tx I v x ab A S 0 ([])).s):=by
 refine⟨rfl,rfl,Qk [] J J dW (fun r r1 r2 p hp=>?_) (fun r r1 r2 p hp=>⟨?_,fun y hy=>?_⟩) (fun p hp=>by cases hp),trivial,rfl,rfl⟩
 ·simp only[iK,List.mem_cons,List.not_mem_nil,or_false] at hp
  rcases hp with rfl|rfl|rfl|rfl|rfl
  ·exact⟨by show(4:Nat)<top;unfold top;omega,_,.head _,(aJ.int _ _).z⟩
  ·exact⟨by show(6:Nat)<top;unfold top;omega,_,.tail _ (.head _),(aJ.ptr (r1 _ J)).z⟩
  ·exact⟨by show(11:Nat)<top;unfold top;omega,_,.tail _ (.tail _ (.head _)),(aJ.ptr (r1 _ J)).z⟩
  ·exact⟨by show(19:Nat)<top;unfold top;omega,_,.tail _ (.tail _ (.tail _ (.head _))),l4⟩
  ·exact⟨by show(20:Nat)<top;unfold top;omega,_,.tail _ (.tail _ (.tail _ (.tail _ (.head _)))),(aJ.int _ _).z⟩
 ·simp only[iK,List.mem_cons,List.not_mem_nil,or_false] at hp
  rcases hp with rfl|rfl
  ·show(270:Nat)<272;omega
  ·show(271:Nat)<272;omega
 ·have e:=VP r r2 p hp y hy
  obtain⟨p1,p2⟩:=p
  subst hy
  exact⟨e.1,y,hp,fun h=>h,e.2.z⟩
theorem go9(mc:Mc (sp gY) 6 B){o len:Nat}{I:Int}(eJ:0<=A.rv/\A.rv<=1099511627776)(dX:1<=S)(hq:aB 9 th tx I v x ab T V S)(cG:bj (aY (RE hU)) [.ae n o len,.int .i64 th,.int .i64 S]=some (.agg (cq A)))(cw:bj (aY (RE ia)) [.ae n o len,.int .i64 I]=some (.int .i64 ow))(cJ:bj (aY (RE iw)) [.ae n o len,.int .i64 I]=some (.int .i64 ve))(aU:¬aS A)(H:FSQ B v' fN (iK th tx I v x ab A S 0 ([]))):bw B 42 (max Tryd.f42.ntmps 5) fN [(.ae n o len),(.agg (bn (.ofNat 9) th tx I v x ab)),(.int .i64 T),(.int .i64 V),(.int .i64 S)] v':=by
 exact wC mc (C:=(fun fr s1 _=>True/\FC (iK th tx I v x ab A S 0 ([])) fr s1)) C2 2000 ((fun(q1:Pl)=>((fun(q2:Pl)=>((fun(q3:Pl)=>(gC 4 4 (.kn (.bool true) (gA 1 3 4 (.kn (.agg [(.ae (nE A.L) 0 A.L.length),(.int .i64 A.rv),(.int .i64 A.wv),(.ae (nI A.read) 0 A.read.length),(.ae (nI A.ao) 0 A.ao.length),(.ae (nI A.ax) 0 A.ax.length),(.int .i64 A.checked),(.ae (nI A.aC) 0 A.aC.length),(.int .u8 A.ab),(.int .u8 A.last)]) (gA 2 7 1 (.kn (.bool false) (gB 3 2 (.fk (.go 6 q3) (.go 3 (.fk (.go 2 q3) (.go 2 q3)))))))))))) (gB 1 2 (.fk (.go 6 q2) (.go 3 (.fk (.go 2 q2) (.go 2 q2))))))) (gB 1 3 (.kn (.int .i64 ow) (gA 1 1 1 (.fk (.go 4 (.fk (.go 2 q1) (.go 2 q1))) (.go 7 q1))))))) (gL 35 (fO [(4,(.int .i64 S)),(6,(.ptr (some (270,0)))),(11,(.ptr (some (271,0)))),(19,(.slice none 0 (.known 0))),(20,(.int .i64 (.ofNat 0)))] ((iK th tx I v x ab A S 0 ([])).o) (iK th tx I v x ab A S 0 ([])) 272))) (ai (jH 9 th tx I v x ab T V S J hq) (ai (cG) (ai kP (U (A.last=1) Gy (fun _=>U (A.last=3) Gy Gy)))))
theorem S9(l:List Int)(S:Int):(gb l S).length<=l.length:=by
  have key:∀(l:List Int) (r:List Int),(l.foldl (fun r v=>cP r (Int.tmod v S)) r).length<=r.length+l.length:=by
    intro l
    induction l with
    |nil=>intro r;exact Nat.le_refl _
    | cons a l ih=>
      intro r
      rw[List.foldl_cons,List.length_cons]
      have:=ih (cP r (Int.tmod a S))
      have:=Lr r (Int.tmod a S)
      omega
  have:=key l []
  unfold gb
  rw[List.length_nil,Nat.zero_add] at this;exact this
theorem al9(mc:Mc (sp gY) 6 B){o len:Nat}{I:Int}(eJ:0<=A.rv/\A.rv<=1099511627776)(dX:1<=S)(hq:aB 9 th tx I v x ab T V S)(cG:bj (aY (RE hU)) [.ae n o len,.int .i64 th,.int .i64 S]=some (.agg (cq A)))(cw:bj (aY (RE ia)) [.ae n o len,.int .i64 I]=some (.int .i64 ow))(cJ:bj (aY (RE iw)) [.ae n o len,.int .i64 I]=some (.int .i64 ve))(aU:¬aS A)(hb:A.aC.length<=1000)(Qn:A.ao.length<=1000)(xJ:A.ax.length<=1000)(vq:(A.last=8/\(gb A.aC S).length=A.ao.length\/A.last=9)->A.ax.length<A.ao.length)(pz:A.ax.length<A.ao.length->bM FU (nI A.ao) (0+((A.ax.length:Int)).toNat*1) 1=some [.int .i64 lf])(hT:((A.last=8/\(gb A.aC S).length=A.ao.length\/A.last=9)/\lf=I)->v'= .bool true)(hF:¬((A.last=8/\(gb A.aC S).length=A.ao.length\/A.last=9)/\lf=I)->v'= .bool false):bw B 42 (max Tryd.f42.ntmps 5) fN [(.ae n o len),(.agg (bn (.ofNat 9) th tx I v x ab)),(.int .i64 T),(.int .i64 V),(.int .i64 S)] v':=by
  refine go9 mc eJ dX hq cG cw cJ aU ?_
  have key:∀m k:Nat,k+m=A.aC.length->FSQ B v' fN (iK th tx I v x ab A S (k:Int) (gb (A.aC.take k) S)):=by
    intro m
    induction m with
    | zero=>
      intro k hk
      rw[List.take_of_length_le J]
      exact en9 (lf:=lf) mc J J Qn xJ vq pz hT hF
    | succ m ih=>
      intro k hk
      obtain⟨s,he⟩:∃s,A.aC[k]? =some s:=⟨_,List.getElem?_eq_getElem J⟩
      have hw:=S9 (A.aC.take k) S
      rw[List.length_take] at hw
      refine DN (s:=s) mc J J hb dX J (vr (by rw[Int.toNat_natCast];exact he)) ?_
      have e2:((k:Int)+1)=((k+1:Nat):Int):=by omega
      have e3:cP (gb (A.aC.take k) S) (Int.tmod s S)=gb (A.aC.take (k+1)) S:=by
        rw[List.take_add_one,he]
        unfold gb
        rw[List.foldl_append];rfl
      rw[e2,e3]
      exact ih (k+1) J
  exact key A.aC.length 0 J
end pB
end
section
open Go Go.Rn Go.RowKit Go.Proofs
namespace oo
open cd cj cv cD mz cH cI cN fx rz gk eP pB
variable {a:bQ} {th S x ab v tx V T:Int} {h:List Ev} {l:List Int} {Q P:Prop}
theorem N9:∀{h:List Ev} {T V S:Int},Valid h T V S->∀th,0<=(aG h th S).rv/\(aG h th S).rv<=1099511627776
  |[],_,_,_,_,_=>⟨Int.le_refl 0,by show(0:Int)<=1099511627776;decide⟩
  | e ::h,T,V,S,hv,th=>by
    obtain⟨h1,h2,_⟩:=hv
    have hi:=N9 h1 th
    unfold aG
    split
    · exact hi
    · have hv:0<=e.v/\e.v<=1099511627776:=by unfold aB at h2;omega
      have hc:∀a:bQ,(fc e S a).rv=a.rv:=by
        intro a;unfold fc;simp only
        repeat' split
        all_goals rfl
      unfold bR
      rw[hc]
      split
      · exact hv
      · exact hi
theorem FR(h:0<l.length):bM FU (nI l) (0+((l.length:Int) - 1).toNat*1) 1=some [.int .i64 (gQ l)]:=by
 refine vr (k:=(l.length:Int) - 1) ?_
 have e:((l.length:Int) - 1).toNat=l.length - 1:=by omega
 rw[e]
 unfold gQ
 rw[List.getLast?_eq_getElem?,List.getElem?_eq_getElem J]
 rfl
theorem FT(l:List Int):l.length=0/\gQ l= -1\/0<l.length:=by
 cases l with
 |nil=>exact .inl ⟨rfl,rfl⟩
 |cons a l=>exact .inr (by rw[List.length_cons];omega)
theorem get_at{k:Nat}(h:k<l.length):l[k]? =some ((l[k]?).getD 0):=by rw[List.getElem?_eq_getElem h];rfl
theorem Mi(h:0<a.L.length):bM FU (nE a.L) (0+((a.L.length:Int) - 1).toNat*7) 7=some (aN (iP a)):=by
 have e:((a.L.length:Int) - 1).toNat=a.L.length - 1:=by omega
 rw[e,Nat.zero_add]
 have h2:a.L[a.L.length - 1]? =some (iP a):=by
  unfold iP
  rw[List.getLast?_eq_getElem?,List.getElem?_eq_getElem J]
  rfl
 have:=wM eE h2 0 7 J
 exact this
theorem wq(hc:0<=a.checked){z:Int}:(dE a).head?=some z↔0<(dE a).length/\(a.read[a.checked.toNat]?).getD 0=z:=by
 unfold dE
 split
 ·constructor
  ·intro h;cases h
  ·intro h;exact absurd h.1 (by rw[List.length_nil];omega)
 ·rw[List.head?_drop,List.length_drop]
  constructor
  ·intro h
   have:=(List.getElem?_eq_some_iff.1 h).1
   rw[h]
   exact⟨by omega,rfl⟩
  ·intro h
   rw[get_at (l:=a.read) (k:=a.checked.toNat) J,h.2]
theorem Ff(h:0<=a.checked/\a.checked<=(a.read.length:Int)):a.wv=a.rv+1/\(dE a).length=0\/a.wv≠a.rv+1/\((dE a).length:Int)=(a.read.length:Int) - a.checked:=by
 unfold dE
 split
 ·rename_i q;exact .inl ⟨q,rfl⟩
 ·rename_i q;refine .inr ⟨q,?_⟩;rw[List.length_drop];omega
theorem Bf{z:Int}(h:a.ax.length<a.ao.length):a.ao[a.ax.length]? =some z↔(a.ao[a.ax.length]?).getD 0=z:=by
 rw[List.getElem?_eq_getElem h]
 simp
theorem VQ(l:List Int)(s:Int):0<(cP l s).length:=by
  cases l with
  |nil=>simp[cP]
  | cons x l => unfold cP;repeat' split
                all_goals simp
theorem Ur(S:Int)(h:l≠[]):0<(gb l S).length:=by
  have key:∀(l:List Int) (r:List Int),r.length<=(l.foldl (fun r v=>cP r (Int.tmod v S)) r).length:=by
    intro l
    induction l with
    |nil=>intro r;exact Nat.le_refl _
    | cons a l ih=>
      intro r
      rw[List.foldl_cons]
      have:=ih (cP r (Int.tmod a S))
      have:=Mh r (Int.tmod a S)
      omega
  cases l with
  |nil=>exact absurd rfl h
  | cons a l=>
    unfold gb
    rw[List.foldl_cons]
    have:=key l (cP [] (Int.tmod a S))
    have:=VQ [] (Int.tmod a S)
    omega
theorem kr{v:AV}(hv:v=bP P)(h:Q->P):Q->v= .bool true:=fun q=>hv.trans (bT (h q)).symm
theorem ks{v:AV}(hv:v=bP P)(h:P->Q):¬Q->v= .bool false:=fun q=>hv.trans (bF (fun p=>q (h p))).symm
theorem kB{k I:Int}{A:bQ}(hA:aG h th S=A)(hq:aB k th tx I v x ab T V S)(hk:k≠1)(aU:¬aS A)(hi:In h A S k th tx I v x ab↔Q):cX h ⟨k,th,tx,I,v,x,ab⟩ T V S↔Q:=by
 subst hA
 unfold cX
 simp only
 exact⟨fun p=>hi.1 (p.2.2 hk).2,fun q=>⟨hq,fun z=>absurd z hk,fun _=>⟨aU,hi.2 q⟩⟩⟩
def Cq(args:List AV)(r:AV):Prop:=∃(n o len:Nat) (l:List Ev) (e:Ev) (T V S:Int),args=[.ae n o len,.agg (aN e),.int .i64 T,.int .i64 V,.int .i64 S]/\bt aN 7 (.ae n o len) l/\eR l/\len<=1000/\0<=e.kind/\Valid l.reverse T V S/\r=bP (cX l.reverse e T V S)
theorem Ta(args:List AV)(v v':AV)(h:Cq args v)(h':Cq args v'):v=v':=by
 obtain⟨n,o,len,l,e,T,V,S,rfl,h1,_,_,_,_,rfl⟩:=h
 obtain⟨n',o',eM,l',e',T',V',S',q,gX,_,_,_,_,rfl⟩:=h'
 injection q with q1 q2
 injection q1 with a1 a2 a3
 subst a1;subst a2;subst a3
 injection q2 with q3 q4
 injection q3 with q3
 have:=qy _ _ q3
 subst this
 simp only[List.cons.injEq,AV.int.injEq,true_and,_root_.and_true] at q4
 obtain⟨rfl,rfl,rfl⟩:=q4
 rw[h1.inj qy gX]
noncomputable def zR:FuncId×(List AV->Option AV):=(42,aY Cq)
theorem Xl(n o len:Nat)(l:List Ev)(e:Ev)(T V S:Int)(h:bt aN 7 (.ae n o len) l)(aT:eR l)(hlen:len<=1000)(hk:0<=e.kind)(hv:Valid l.reverse T V S):bj (aY Cq) [.ae n o len,.agg (aN e),.int .i64 T,.int .i64 V,.int .i64 S]=some (bP (cX l.reverse e T V S)):=
 l3 (mF Ta ⟨n,o,len,l,e,T,V,S,rfl,h,aT,hlen,hk,hv,rfl⟩) (by rw[List.all_cons,h.hi];rfl) rfl
theorem HG{I:Int}:In h a S 2 th tx I v x ab↔(Rd a/\bo h I<0/\cx h I<=v/\v<=a.rv):=⟨fun i=>i.1 rfl,fun q=>⟨fun _=>q,fun z=>absurd z ar,fun z=>absurd z ar,fun z=>absurd z ar,fun z=>absurd z ar,fun z=>absurd z ar,fun z=>absurd z ar,fun z=>absurd z ar,fun z=>absurd z ar,fun z=>absurd z ar,fun z=>absurd z ar,fun z=>absurd z ar⟩⟩
theorem HH{I:Int}:In h a S 3 th tx I v x ab↔(a.last=2/\(iP a).I=Int.tmod I S/\bo h (Int.tmod I S)<0/\cx h (Int.tmod I S)=(iP a).v):=⟨fun i=>i.2.1 rfl,fun q=>⟨fun z=>absurd z ar,fun _=>q,fun z=>absurd z ar,fun z=>absurd z ar,fun z=>absurd z ar,fun z=>absurd z ar,fun z=>absurd z ar,fun z=>absurd z ar,fun z=>absurd z ar,fun z=>absurd z ar,fun z=>absurd z ar,fun z=>absurd z ar⟩⟩
theorem HI{I:Int}:In h a S 4 th tx I v x ab↔((Rd a\/a.last=4)/\gQ a.ao<I/\bo h I<0):=⟨fun i=>i.2.2.1 rfl,fun q=>⟨fun z=>absurd z ar,fun z=>absurd z ar,fun _=>q,fun z=>absurd z ar,fun z=>absurd z ar,fun z=>absurd z ar,fun z=>absurd z ar,fun z=>absurd z ar,fun z=>absurd z ar,fun z=>absurd z ar,fun z=>absurd z ar,fun z=>absurd z ar⟩⟩
theorem HJ{I:Int}:In h a S 5 th tx I v x ab↔(a.last=4/\ml h<v):=⟨fun i=>i.2.2.2.1 rfl,fun q=>⟨fun z=>absurd z ar,fun z=>absurd z ar,fun z=>absurd z ar,fun _=>q,fun z=>absurd z ar,fun z=>absurd z ar,fun z=>absurd z ar,fun z=>absurd z ar,fun z=>absurd z ar,fun z=>absurd z ar,fun z=>absurd z ar,fun z=>absurd z ar⟩⟩
theorem HK{I:Int}:In h a S 6 th tx I v x ab↔(Ck a/\(dE a).head?=some I/\¬qk h th I/\cx h I<=a.rv):=⟨fun i=>i.2.2.2.2.1 rfl,fun q=>⟨fun z=>absurd z ar,fun z=>absurd z ar,fun z=>absurd z ar,fun z=>absurd z ar,fun _=>q,fun z=>absurd z ar,fun z=>absurd z ar,fun z=>absurd z ar,fun z=>absurd z ar,fun z=>absurd z ar,fun z=>absurd z ar,fun z=>absurd z ar⟩⟩
theorem HL{I:Int}:In h a S 7 th tx I v x ab↔((v=0->Rd a)/\(v≠0->Ck a/\dE a=[]/\v=a.wv)):=⟨fun i=>i.2.2.2.2.2.1 rfl,fun q=>⟨fun z=>absurd z ar,fun z=>absurd z ar,fun z=>absurd z ar,fun z=>absurd z ar,fun z=>absurd z ar,fun _=>q,fun z=>absurd z ar,fun z=>absurd z ar,fun z=>absurd z ar,fun z=>absurd z ar,fun z=>absurd z ar,fun z=>absurd z ar⟩⟩
theorem HM{I:Int}:In h a S 8 th tx I v x ab↔((a.last=7\/a.last=8)/\gQ a.aC<I/\bo h (Int.tmod I S)=th):=⟨fun i=>i.2.2.2.2.2.2.1 rfl,fun q=>⟨fun z=>absurd z ar,fun z=>absurd z ar,fun z=>absurd z ar,fun z=>absurd z ar,fun z=>absurd z ar,fun z=>absurd z ar,fun _=>q,fun z=>absurd z ar,fun z=>absurd z ar,fun z=>absurd z ar,fun z=>absurd z ar,fun z=>absurd z ar⟩⟩
theorem HN{I:Int}:In h a S 9 th tx I v x ab↔((a.last=8/\(gb a.aC S).length=a.ao.length\/a.last=9)/\a.ao[a.ax.length]? =some I):=⟨fun i=>i.2.2.2.2.2.2.2.1 rfl,fun q=>⟨fun z=>absurd z ar,fun z=>absurd z ar,fun z=>absurd z ar,fun z=>absurd z ar,fun z=>absurd z ar,fun z=>absurd z ar,fun z=>absurd z ar,fun _=>q,fun z=>absurd z ar,fun z=>absurd z ar,fun z=>absurd z ar,fun z=>absurd z ar⟩⟩
theorem GJ{I:Int}:In h a S 11 th tx I v x ab↔((a.last=10\/a.last=11)/\a.ao[a.ax.length]? =some I):=⟨fun i=>i.2.2.2.2.2.2.2.2.1 rfl,fun q=>⟨fun z=>absurd z ar,fun z=>absurd z ar,fun z=>absurd z ar,fun z=>absurd z ar,fun z=>absurd z ar,fun z=>absurd z ar,fun z=>absurd z ar,fun z=>absurd z ar,fun _=>q,fun z=>absurd z ar,fun z=>absurd z ar,fun z=>absurd z ar⟩⟩
theorem GK{I:Int}:In h a S 12 th tx I v x ab↔(Rd a):=⟨fun i=>i.2.2.2.2.2.2.2.2.2.1 rfl,fun q=>⟨fun z=>absurd z ar,fun z=>absurd z ar,fun z=>absurd z ar,fun z=>absurd z ar,fun z=>absurd z ar,fun z=>absurd z ar,fun z=>absurd z ar,fun z=>absurd z ar,fun z=>absurd z ar,fun _=>q,fun z=>absurd z ar,fun z=>absurd z ar⟩⟩
theorem GL{I:Int}:In h a S 13 th tx I v x ab↔(a.last=12/\∃s∈a.read,bo h s<0/\a.rv<cx h s):=⟨fun i=>i.2.2.2.2.2.2.2.2.2.2.1 rfl,fun q=>⟨fun z=>absurd z ar,fun z=>absurd z ar,fun z=>absurd z ar,fun z=>absurd z ar,fun z=>absurd z ar,fun z=>absurd z ar,fun z=>absurd z ar,fun z=>absurd z ar,fun z=>absurd z ar,fun z=>absurd z ar,fun _=>q,fun z=>absurd z ar⟩⟩
theorem kb{I:Int}:In h a S 10 th tx I v x ab↔(pA h a th I ab):=⟨fun i=>i.2.2.2.2.2.2.2.2.2.2.2 rfl,fun q=>⟨fun z=>absurd z ar,fun z=>absurd z ar,fun z=>absurd z ar,fun z=>absurd z ar,fun z=>absurd z ar,fun z=>absurd z ar,fun z=>absurd z ar,fun z=>absurd z ar,fun z=>absurd z ar,fun z=>absurd z ar,fun z=>absurd z ar,fun _=>q⟩⟩
theorem HP{I:Int}:pA h a th I 1↔(Rd a/\qk h th I):=⟨fun i=>i.1 rfl,fun q=>⟨fun _=>q,fun z=>absurd z ar,fun z=>absurd z ar,fun z=>absurd z ar,fun z=>absurd z ar,fun z=>absurd ar z⟩⟩
theorem HQ{I:Int}:pA h a th I 2↔(Rd a/\bo h I<0/\a.rv<cx h I):=⟨fun i=>i.2.1 rfl,fun q=>⟨fun z=>absurd z ar,fun _=>q,fun z=>absurd z ar,fun z=>absurd z ar,fun z=>absurd z ar,fun z=>absurd ar z⟩⟩
theorem HR{I:Int}:pA h a th I 3↔(a.last=2/\(iP a).I=I/\(0<=bo h I\/cx h I≠(iP a).v)):=⟨fun i=>i.2.2.1 rfl,fun q=>⟨fun z=>absurd z ar,fun z=>absurd z ar,fun _=>q,fun z=>absurd z ar,fun z=>absurd z ar,fun z=>absurd ar z⟩⟩
theorem HS{I:Int}:pA h a th I 4↔((Rd a\/a.last=4)/\gQ a.ao<I/\qk h th I):=⟨fun i=>i.2.2.2.1 rfl,fun q=>⟨fun z=>absurd z ar,fun z=>absurd z ar,fun z=>absurd z ar,fun _=>q,fun z=>absurd z ar,fun z=>absurd ar z⟩⟩
theorem HT{I:Int}:pA h a th I 5↔(Ck a/\(dE a).head?=some I/\(qk h th I\/a.rv<cx h I)):=⟨fun i=>i.2.2.2.2.1 rfl,fun q=>⟨fun z=>absurd z ar,fun z=>absurd z ar,fun z=>absurd z ar,fun z=>absurd z ar,fun _=>q,fun z=>absurd ar z⟩⟩
theorem HU{I:Int}:pA h a th I 6↔(a.last=4):=⟨fun i=>i.2.2.2.2.2 ar,fun q=>⟨fun z=>absurd z ar,fun z=>absurd z ar,fun z=>absurd z ar,fun z=>absurd z ar,fun z=>absurd z ar,fun _=>q⟩⟩
theorem c_6{I:Int}(gg:0<=a.checked):In h a S 6 th tx I v x ab↔(Ck a/\0<(dE a).length/\(a.read[a.checked.toNat]?).getD 0=I/\¬qk h th I/\cx h I<=a.rv):=
 HK.trans ⟨fun q=>⟨q.1,((wq gg).1 q.2.1).1,((wq gg).1 q.2.1).2,q.2.2⟩,fun q=>⟨q.1,(wq gg).2 ⟨q.2.1,q.2.2.1⟩,q.2.2.2⟩⟩
theorem c_7{I:Int}:In h a S 7 th tx I v x ab↔(v=0/\Rd a\/v≠0/\Ck a/\(dE a).length=0/\v=a.wv):=by
 refine HL.trans ⟨fun q=>?_,fun q=>?_⟩
 ·by_cases z:v=0
  ·exact .inl ⟨z,q.1 z⟩
  ·exact .inr ⟨z,(q.2 z).1,by rw[(q.2 z).2.1];rfl,(q.2 z).2.2⟩
 ·rcases q with q|q
  ·exact⟨fun _=>q.2,fun z=>absurd q.1 z⟩
  ·exact⟨fun z=>absurd z q.1,fun _=>⟨q.2.1,List.eq_nil_of_length_eq_zero q.2.2.1,q.2.2.2⟩⟩
theorem c_9{I:Int}(hF:(a.last=8/\(gb a.aC S).length=a.ao.length\/a.last=9)->a.ax.length<a.ao.length):In h a S 9 th tx I v x ab↔((a.last=8/\(gb a.aC S).length=a.ao.length\/a.last=9)/\(a.ao[a.ax.length]?).getD 0=I):=
 HN.trans ⟨fun q=>⟨q.1,(Bf (hF q.1)).1 q.2⟩,fun q=>⟨q.1,(Bf (hF q.1)).2 q.2⟩⟩
theorem aaP{I:Int}(hF:(a.last=10\/a.last=11)->a.ax.length<a.ao.length):In h a S 11 th tx I v x ab↔((a.last=10\/a.last=11)/\(a.ao[a.ax.length]?).getD 0=I):=
 GJ.trans ⟨fun q=>⟨q.1,(Bf (hF q.1)).1 q.2⟩,fun q=>⟨q.1,(Bf (hF q.1)).2 q.2⟩⟩
theorem d_5{I:Int}(gg:0<=a.checked):pA h a th I 5↔(Ck a/\0<(dE a).length/\(a.read[a.checked.toNat]?).getD 0=I/\(qk h th I\/a.rv<cx h I)):=
 HT.trans ⟨fun q=>⟨q.1,((wq gg).1 q.2.1).1,((wq gg).1 q.2.1).2,q.2.2⟩,fun q=>⟨q.1,(wq gg).2 ⟨q.2.1,q.2.2.1⟩,q.2.2.2⟩⟩
theorem Xm{B:aZ}(mc:Mc (sp gY) 6 B){n o len:Nat}{l:List Ev}{e:Ev}(h:bt aN 7 (.ae n o len) l)(aT:eR l)(hlen:len<=1000)(dO:0<=e.kind)(hv:Valid l.reverse T V S):bw B 42 (max Tryd.f42.ntmps 5) fN [.ae n o len,.agg (aN e),.int .i64 T,.int .i64 V,.int .i64 S] (bP (cX l.reverse e T V S)):=by
  obtain⟨k,th,tx,I,v,x,ab⟩:=e
  show bw B 42 (max Tryd.f42.ntmps 5) fN [.ae n o len,.agg [.int .u8 k,.int .i64 th,.int .i64 tx,.int .i64 I,.int .i64 v,.int .i64 x,.int .u8 ab],.int .i64 T,.int .i64 V,.int .i64 S] _
  simp only at dO
  by_cases hq:aB k th tx I v x ab T V S
  · have dX :1<=S:=by unfold aB at hq;omega
    have sM:1<=k/\k<=13:=by unfold aB at hq;omega
    have cG:=BG th S h aT hlen dX
    have cw:∀s,bj (aY (RE ia)) [.ae n o len,.int .i64 s]=some (.int .i64 (bo l.reverse s)):=fun s=>sC h aT hlen rfl rfl rfl
    have cJ:∀s,bj (aY (RE iw)) [.ae n o len,.int .i64 s]=some (.int .i64 (cx l.reverse s)):=fun s=>sC h aT hlen rfl rfl rfl
    have xp:bj (aY (RE zO)) [.ae n o len]=some (.int .i64 (ml l.reverse)):=sC h aT hlen rfl rfl rfl
    have mn:bj (aY (RE uK)) [.ae n o len,.int .i64 th,.int .i64 S]=some (.int .i64 (bZ l.reverse th S)):=sC h aT hlen (if_pos dX) rfl rfl
    have hg:=Fe hv th
    have eJ:=N9 hv th
    have km:=(BI l.reverse th S).up (m:=1000) (by rw[List.length_reverse];have:=h.len.1;omega)
    generalize hA:aG l.reverse th S=A at cG hg eJ km
    by_cases dP:k=1
    · subst dP
      have e:cX l.reverse ⟨1,th,tx,I,v,x,ab⟩ T V S↔(aS A/\A.ab≠6/\tx=bZ l.reverse th S/\ml l.reverse<=v):=by
        rw[←hA]
        exact⟨fun q=>q.2.1 rfl,fun q=>⟨hq,fun _=>q,fun z=>absurd rfl z⟩⟩
      exact VH mc eJ dX hq cG mn xp (kr rfl e.2) (ks rfl e.1)
    by_cases aU:aS A
    · rw[show bP (cX l.reverse ⟨k,th,tx,I,v,x,ab⟩ T V S)= .bool false from(bF (fun q=>by have:=(q.2.2 dP).1;rw[hA] at this;exact this aU)).symm]
      exact Uo mc dO dP hq cG aU
    · have u6:A.last≠0:=fun z=>aU (.inl z)
      have xR:0<A.L.length:=by
        obtain⟨e,he,_⟩:=hg.last u6
        cases hL:A.L with
        |nil=>rw[hL] at he;cases he
        |cons a b=>rw[List.length_cons];omega
      have gg:=hg.ig
      have vj:A.checked<(A.read.length:Int)->bM FU (nI A.read) ((0+A.checked.toNat*1)+(0:Int).toNat*1) 1=some [.int .i64 ((A.read[A.checked.toNat]?).getD 0)]:=fun z=>vr (get_at J)
      have DO:A.ax.length<A.ao.length->bM FU (nI A.ao) (0+((A.ax.length:Int)).toNat*1) 1=some [.int .i64 ((A.ao[A.ax.length]?).getD 0)]:=fun z=>vr (k:=(A.ax.length:Int)) (by rw[Int.toNat_natCast];exact get_at z)
      have cL:=hg.fre
      have Pf:(A.last=10\/A.last=11)->A.ax.length<A.ao.length:=by
        intro z
        unfold aS at aU
        rcases z with z|z
        · have:A.ax=[]:=by
            by_cases y:A.ax=[]
            · exact y
            · have:=hg.fr y;omega
          rw[this,List.length_nil];omega
        · omega
      have Qr:(A.last=8/\(gb A.aC S).length=A.ao.length\/A.last=9)->A.ax.length<A.ao.length:=by
        intro z
        unfold aS at aU
        rcases z with⟨z,y⟩|z
        · have:A.ax=[]:=by
            by_cases y:A.ax=[]
            · exact y
            · have:=hg.fr y;omega
          have h2:=Ur S (hg.nq z)
          rw[this,List.length_nil];omega
        · omega
      have rf:k=2\/k=3\/k=4\/k=5\/k=6\/k=7\/k=8\/k=9\/k=10\/k=11\/k=12\/k=13:=by omega
      rcases rf with rfl|rfl|rfl|rfl|rfl|rfl|rfl|rfl|rfl|rfl|rfl|rfl
      · have e:=kB hA hq dP aU HG
        exact VI mc eJ dX hq cG (cw _) (cJ _) aU (kr rfl e.2) (ks rfl e.1)
      · have e:=kB hA hq dP aU HH
        exact VJ mc eJ dX hq cG (cw _) (cJ _) aU km.1 xR Mi (cw _) (cJ _) (kr rfl e.2) (ks rfl e.1)
      · have e:=kB hA hq dP aU HI
        exact VK mc eJ dX hq cG (cw _) (cJ _) aU km.2.2.1 (FT _) FR (kr rfl e.2) (ks rfl e.1)
      · have e:=kB hA hq dP aU HJ
        exact VL mc eJ dX hq cG (cw _) (cJ _) aU xp (kr rfl e.2) (ks rfl e.1)
      · have e:=kB hA hq dP aU (c_6 gg.1)
        exact VM mc eJ dX hq cG (cw _) (cJ _) aU gg (Ff gg) vj (kr rfl e.2) (ks rfl e.1)
      · have e:=kB hA hq dP aU c_7
        exact VN mc eJ dX hq cG (cw _) (cJ _) aU gg (Ff gg) (kr rfl e.2) (ks rfl e.1)
      · have e:=kB hA hq dP aU HM
        exact VO mc eJ dX hq cG (cw _) (cJ _) aU km.2.2.2.2.1 (FT _) FR (cw _) (kr rfl e.2) (ks rfl e.1)
      · have e:=kB hA hq dP aU (c_9 Qr)
        exact al9 mc eJ dX hq cG (cw _) (cJ _) aU km.2.2.2.2.1 km.2.2.1 km.2.2.2.1 Qr DO (kr rfl e.2) (ks rfl e.1)
      · have hw:1<=ab/\ab<=6:=by unfold aB at hq;omega
        have I3:ab=1\/ab=2\/ab=3\/ab=4\/ab=5\/ab=6:=by omega
        rcases I3 with rfl|rfl|rfl|rfl|rfl|rfl
        · have e:=kB hA hq dP aU (kb.trans HP)
          exact Se mc eJ dX hq cG (cw _) (cJ _) aU (kr rfl e.2) (ks rfl e.1)
        · have e:=kB hA hq dP aU (kb.trans HQ)
          exact Sf mc eJ dX hq cG (cw _) (cJ _) aU (kr rfl e.2) (ks rfl e.1)
        · have e:=kB hA hq dP aU (kb.trans HR)
          exact Sg mc eJ dX hq cG (cw _) (cJ _) aU km.1 xR Mi (kr rfl e.2) (ks rfl e.1)
        · have e:=kB hA hq dP aU (kb.trans HS)
          exact Sh mc eJ dX hq cG (cw _) (cJ _) aU km.2.2.1 (FT _) FR (kr rfl e.2) (ks rfl e.1)
        · have e:=kB hA hq dP aU (kb.trans (d_5 gg.1))
          exact Si mc eJ dX hq cG (cw _) (cJ _) aU gg (Ff gg) vj (kr rfl e.2) (ks rfl e.1)
        · have e:=kB hA hq dP aU (kb.trans HU)
          exact Sj mc eJ dX hq cG (cw _) (cJ _) aU (kr rfl e.2) (ks rfl e.1)
      · have e:=kB hA hq dP aU (aaP Pf)
        exact Uq mc eJ dX hq cG (cw _) (cJ _) aU Pf DO (kr rfl e.2) (ks rfl e.1)
      · have e:=kB hA hq dP aU GK
        exact Up mc eJ dX hq cG (cw _) (cJ _) aU (kr rfl e.2) (ks rfl e.1)
      · have e:=kB hA hq dP aU GL
        exact aaO mc eJ dX hq cG (cw _) (cJ _) aU km.2.1 (bo l.reverse) (cx l.reverse) cw cJ (kr rfl e.2) (ks rfl e.1)
  · rw[show bP (cX l.reverse ⟨k,th,tx,I,v,x,ab⟩ T V S)= .bool false from(bF (fun q=>hq q.1)).symm]
    exact Un mc dO hq
theorem VS(hP:fa Tryd.prog){L:gn}(h:cC Tryd.prog FU (sp L)):cC Tryd.prog FU (sp (zR::L)):=by
 refine fJ.add hP h (S4 hP (fJ.Bv hP (fJ.Fc hP (fJ.Mb hP (fJ.Vv hP (fJ.Vt hP (fJ.Vw hP (fJ.Ma hP fJ.gr)))))))) Tryd.func42 (fQ Tryd.func42 bx) bx fun args v e=>?_
 obtain⟨n,o,len,l,e,T,V,S,rfl,a,b,c,d,f,rfl⟩:=je e
 exact⟨bH.1 bx,fun B hB hc hl=>Xm ⟨hB,hc,hl⟩ a b c d f⟩
end oo
end
section
open Go Go.Rn Go.RowKit Go.Proofs
namespace fy
open cd cj cv cD mz cH cI cN fx gk eP pB oo
variable {V T S i:Int} {n:Nat} {l h:List Ev} {B:aZ} {e:Ev} {v':AV}
noncomputable def pk(n o len:Nat)(T V S i:Int):Fm:=⟨21,[(1,(.ptr (some (270,0)))),(4,(.int .i64 i))],45,[.code (aO Tryd.prog 21 [1,1,1,0,1,0,0]),.inLoop (aO Tryd.prog 21 [1,1,1,0,1,0,0]),.inBlock 0,.code (aO Tryd.prog 21 [1,1,1,1])],[(270,some (.cells 4 (Tr.fill (bK T V S n o len) 0 .nil) []))],271⟩
theorem aaQ(mc:Mc (sp [zR,Az]) 6 B){o len:Nat}{m:List Ev}(hn:top<=n)(hlen:len<=1000)(h0:0<=i)(hi:i<(len:Int))(he:bM FU n (o+i.toNat*7) 7=some (aN e))(hm:bt aN 7 (.ae n o i.toNat) m)(qi:eR m)(hk:0<=e.kind)(hv:Valid m.reverse T V S)(hN:¬(cX m.reverse e T V S)->.tuple [.int .i64 i,.int .i64 4]=v')(H:(cX m.reverse e T V S)->FSQ B v' uC (pk n o len T V S (i+1))):FSQ B v' uC (pk n o len T V S i):=by
 exact wC mc (C:=(fun fr s1 _=>(cX m.reverse e T V S)/\FC (pk n o len T V S (i+1)) fr s1)) nV 2000 (gC 2 4 (.fk (gB 5 3 (.sf (0:Int) i (.go 3 (.bI (.bJ (aN e) (.go 6 (.kp (cX m.reverse e T V S) (Classical.propDecidable _) (.go 1 (.en (.st 3 (.rg (.go 1 (.vl (.int .i64 (i+1)) (.go 1 (.en (.st 1 (iT (pk n o len T V S (i+1)))))))))))) (.go 1 (.en (.rt 4 .no)))))))))) .no)) (U (i<(len:Int)) (fun _=>ai (show(0:Int)=(0:Int) from rfl) (ai (show i=i from rfl) (ai hn (ai (show(0:Int)<=(0:Int) from J) (ai (show(0:Int)<=i from J) (ai (show i<=(len:Int) from J) (aV i (len:Int) J J (ai hn (ai (c9 he 0 7 ar) (ai (Xl n o i.toNat m e T V S hm qi J hk hv) (U (cX m.reverse e T V S) (fun h2=>ai cS (vp (pk n o len T V S (i+1)) (cX m.reverse e T V S) h2)) (fun h2=>hN h2)))))))))))) aA)
theorem AE(v:AV):v=v:=rfl
theorem aaR(mc:Mc (sp [zR,Az]) 6 B){o len:Nat}(hi:¬(i<(len:Int))):FSQ B (.tuple [.int .i64 (len:Int),.int .i64 0]) uC (pk n o len T V S i):=by
 exact wS mc 2000 (gC 2 4 (.fk .no (gG 5))) (U (i<(len:Int)) aA (fun _=>AE (.tuple [(.int .i64 ((len:Int))),(.int .i64 (.ofNat 0))])))
theorem aaS(mc:Mc (sp [zR,Az]) 6 B){o len:Nat}(hn:top<=n)(hlen:len<=1000)(hN:¬iq T V S->.tuple [.int .i64 0,.int .i64 1]=v')(H:iq T V S->FSQ B v' uC (pk n o len T V S 0)):bw B 21 (max Tryd.f21.ntmps 1) uC [(.agg (bK T V S n o len))] v':=by
 exact wC mc (C:=(fun fr s1 _=>(iq T V S)/\FC (pk n o len T V S 0) fr s1)) nV 2000 (gC 4 6 (.kp (iq T V S) inferInstance (gA 1 4 3 (.fk .no (gL 7 (iT (pk n o len T V S 0))))) (gF 1 4))) (ai (Zg T V S) (U (iq T V S) (fun h1=>U ((len:Int)>1048576) aA (fun _=>vp (pk n o len T V S 0) (iq T V S) h1)) (fun h1=>hN h1)))
open Classical in
noncomputable def sD(T V S:Int):List Ev->List Ev->Int
 |_,[]=>0
 |h,e::l=>if cX h e T V S then 1+sD T V S (e::h) l else 0
open Classical in
noncomputable def nW(l:List Ev)(T V S:Int):AV:=if iq T V S then .tuple [.int .i64 (sD T V S [] l),.int .i64 (if Valid l.reverse T V S then 0 else 4)] else .tuple [.int .i64 0,.int .i64 1]
theorem VT(q:¬cX h e T V S):sD T V S h (e::l)=0:=if_neg q
theorem Us(q:cX h e T V S):sD T V S h (e::l)=1+sD T V S (e::h) l:=if_pos q
theorem K4(q:Valid (l++h) T V S):Valid h T V S:=by
 induction l with
 |nil=>exact q
 |cons a l ih=>exact ih q.1
theorem Ut(mc:Mc (sp [zR,Az]) 6 B){o len:Nat}(h:bt aN 7 (.ae n o len) l)(aT:eR l)(hlen:len<=1000):bw B 21 (max Tryd.f21.ntmps 1) uC [(.agg (bK T V S n o len))] (nW l T V S):=by
  obtain⟨dS,hn,cF⟩:=h.len
  refine aaS mc hn hlen (fun q=>by unfold nW;rw[if_neg q]) (fun hS=>?_)
  have key:∀m k:Nat,k+m=len->Valid (l.take k).reverse T V S->sD T V S [] l=(k:Int)+sD T V S (l.take k).reverse (l.drop k)->FSQ B (nW l T V S) uC (pk n o len T V S (k:Int)):=by
    intro m
    induction m with
    | zero=>
      intro k hk hv oq
      rw[List.take_of_length_le J] at hv oq
      rw[List.drop_of_length_le J] at oq
      have e:nW l T V S= .tuple [.int .i64 (len:Int),.int .i64 0]:=by
        unfold nW;rw[if_pos hS,if_pos hv,oq]
        unfold sD
        rw[show(k:Int)+0=(len:Int) by omega]
      rw[e]
      exact aaR mc J
    | succ m ih=>
      intro k hk hv oq
      obtain⟨e,he⟩:∃e,l[k]? =some e:=⟨_,List.getElem?_eq_getElem J⟩
      have e1:(l.take (k+1)).reverse=e::(l.take k).reverse:=by rw[List.take_add_one,he];simp
      have e2:((k:Int)+1)=((k+1:Nat):Int):=by omega
      have e3:l.drop k=e::l.drop (k+1):=by
        rw[List.drop_eq_getElem_cons J]
        rw[List.getElem?_eq_getElem J] at he
        injection he with he;rw[he]
      rw[e3] at oq
      have hke:=(aT e (List.mem_of_getElem? he)).1.1
      refine aaQ (e:=e) (m:=l.take k) mc hn hlen J J qa (by rw[Int.toNat_natCast];exact GH h J) (F9 aT k) hke hv (fun q=>?_) (fun q=>?_)
      · rw[VT q] at oq
        unfold nW
        rw[if_pos hS,oq,if_neg,Int.add_zero]
        intro z
        have z2:Valid ((l.drop (k+1)).reverse++(l.take (k+1)).reverse) T V S:=by rw[←List.reverse_append,List.take_append_drop];exact z
        have z3:=K4 z2
        rw[e1] at z3
        exact q z3.2
      · rw[e2]
        refine ih (k+1) J (by rw[e1];exact⟨hv,q⟩) ?_
        rw[oq,e1,Us q]
        omega
  exact key len 0 J (by rw[List.take_zero];exact trivial) cR
def zS(args:List AV)(r:AV):Prop:=∃(n o len:Nat) (l:List Ev) (T V S:Int),args=[.agg [.int .i64 T,.int .i64 V,.int .i64 S,.ae n o len]]/\bt aN 7 (.ae n o len) l/\eR l/\len<=1000/\r=nW l T V S
theorem Uu(args:List AV)(v v':AV)(h:zS args v)(h':zS args v'):v=v':=by
 obtain⟨n,o,len,l,T,V,S,rfl,h1,_,_,rfl⟩:=h
 obtain⟨n',o',eM,l',T',V',S',q,gX,_,_,rfl⟩:=h'
 simp only[List.cons.injEq,AV.agg.injEq,AV.int.injEq,AV.ae.injEq,true_and,_root_.and_true] at q
 obtain⟨rfl,rfl,rfl,rfl,rfl,rfl⟩:=q
 rw[h1.inj qy gX]
noncomputable def Pg:FuncId×(List AV->Option AV):=(21,aY zS)
theorem VU(l:List Ev)(T V S:Int):(nW l T V S).hi=true:=by unfold nW;split<;>rfl
theorem Xn{o len:Nat}(T V S:Int)(h:bt aN 7 (.ae n o len) l)(aT:eR l)(hlen:len<=1000):bj (aY zS) [.agg [.int .i64 T,.int .i64 V,.int .i64 S,.ae n o len]]=some (nW l T V S):=
 l3 (mF Uu ⟨n,o,len,l,T,V,S,rfl,h,aT,hlen,rfl⟩) (by have:=h.hi;simp[AV.hi,AV.gN] at this ⊢;exact⟨rfl,rfl,rfl,this⟩) (VU l T V S)
theorem VV(hP:fa Tryd.prog){L:gn}(h:cC Tryd.prog FU (sp L)):cC Tryd.prog FU (sp (Pg::L)):=by
 refine fJ.add hP h (VS hP (Xk hP fJ.gr)) Tryd.func21 (fQ Tryd.func21 bx) bx fun args v e=>?_
 obtain⟨n,o,len,l,T,V,S,rfl,a,b,c,rfl⟩:=je e
 exact⟨bH.1 bx,fun B hB hc hl=>Ut ⟨hB,hc,hl⟩ a b c⟩
end fy
end
section
open Go Go.Rn Go.RowKit Go.Proofs
namespace fA
open cd cj cv cD
variable {fz:iW} {jT os:List (Nat×Option aE)} {bp n:Nat} {l0 l:List (Nat×AV)}
def vC(r0:Nat->Nat)(nx bp k:Nat):Nat:=if k<270\/top<=k then k else if k<nx then r0 k else max k bp
theorem Qs{nx:Nat}(r0:Nat->Nat)(h1:270<=nx)(h2:nx<=bp)(h3:bp<top)(I4:∀k,270<=k->k<nx->270<=r0 k/\r0 k<bp)(nR:∀j k,270<=j->j<nx->270<=k->k<nx->r0 j=r0 k->j=k)(hl:∀r:Nat->Nat,(∀k,k<270->r k=k)->(∀k,270<=k->k<nx->r k=r0 k)->(∀k,top<=k->r k=k)->∀p∈l,p.1<top/\∃x,(p.1,x)∈l0/\jh fz r x p.2)(ho:∀r:Nat->Nat,(∀k,k<270->r k=k)->(∀k,270<=k->k<nx->r k=r0 k)->(∀k,top<=k->r k=k)->∀p∈os,270<=p.1/\p.1<nx/\∀y,p.2=some y->y.plain=true/\∃x,(r0 p.1,some x)∈jT/\(y.du=false->x.du=false)/\iH fz r x y)(rh:∀p∈fz,270<=p.1/\p.1<top/\(∀q∈os,r0 q.1≠p.1)/\FU p.2.1=some p.2.2/\∃N t z,(p.1,some (.cells N t z))∈jT/\∀i x,p.2.2[i]? =some x->i<N/\cellAt t z i=some x/\x.ct=true/\x.gN=true):
    fC FU 270 bp l0 (ay++jT) l (ay++os) nx:=by
  have r1:∀k,k<270->vC r0 nx bp k=k:=fun k hk=>if_pos (.inl hk)
  have r3:∀k,top<=k->vC r0 nx bp k=k:=fun k hk=>if_pos (.inr hk)
  have r2:∀k,270<=k->k<nx->vC r0 nx bp k=r0 k:=fun k a b=>by unfold vC;rw[if_neg J,if_pos b]
  have eF:∀p∈os,270<=p.1/\p.1<nx:=fun p hp=>⟨(ho _ r1 r2 r3 p hp).1,(ho _ r1 r2 r3 p hp).2.1⟩
  refine⟨fz,vC r0 nx bp,r1,fun k k1 k2=>?_,r3,by omega,hl _ r1 r2 r3,fun p hp=>?_,fun p hp q hq _ _ e=>?_,fun p hp=>?_,fun p hp q hq _ e=>?_⟩
  · unfold vC;rw[if_neg J,if_neg J];omega
  · rcases List.mem_append.1 hp with hp|hp
    · have rp:=(sa hp).1
      refine⟨by omega,fun y hy=>⟨by rw[r1 _ rp];omega,?_⟩⟩
      have he:=yu (nx:=270) (r:=vC r0 nx bp) r1 jl p hp y hy
      refine⟨(sa hp).2 y hy,y,?_,fun h=>h,he.z⟩
      rw[r1 _ rp, ←hy]
      exact List.mem_append_left _ hp
    · obtain⟨a0,a1⟩:=eF p hp
      have b:=I4 _ a0 a1
      refine⟨by omega,fun y hy=>⟨by rw[r2 _ a0 a1];omega,?_⟩⟩
      obtain⟨a,x,b,c,d⟩:=(ho _ r1 r2 r3 p hp).2.2 y hy
      exact⟨a,x,by rw[r2 _ a0 a1];exact List.mem_append_right _ b,c,d⟩
  · rcases List.mem_append.1 hp with hp|hp
    · have rp:=(sa hp).1
      rcases List.mem_append.1 hq with hq|hq
      · have AG:=(sa hq).1
        rw[r1 _ rp,r1 _ AG] at e;exact e
      · obtain⟨b0,b1⟩:=eF q hq
        have b:=I4 _ b0 b1
        rw[r1 _ rp,r2 _ b0 b1] at e;omega
    · obtain⟨a0,a1⟩:=eF p hp
      have a:=I4 _ a0 a1
      rcases List.mem_append.1 hq with hq|hq
      · have AG:=(sa hq).1
        rw[r1 _ AG,r2 _ a0 a1] at e;omega
      · obtain⟨b0,b1⟩:=eF q hq
        rw[r2 _ a0 a1,r2 _ b0 b1] at e
        exact nR _ _ a0 a1 b0 b1 e
  · obtain⟨_,a,_,b,N,t,z,c,d⟩:=rh p hp
    exact⟨a,b,N,t,z,List.mem_append_right _ c,d⟩
  · obtain⟨a,_,b,_⟩:=rh p hp
    rcases List.mem_append.1 hq with hq|hq
    · have AG:=(sa hq).1
      rw[r1 _ AG] at e;omega
    · obtain⟨b0,b1⟩:=eF q hq
      rw[r2 _ b0 b1] at e
      exact b q hq e
def wZ:List (Nat×Option aE)->Nat->Option aE
 |[],_=>none
 |p::m,n=>bif Nat.beq p.1 n then p.2 else wZ m n
theorem K5:∀{m:List (Nat×Option aE)} {n:Nat} {x:aE},wZ m n=some x->(n,some x)∈m
  | p::m,n,x,h=>by
    unfold wZ at h
    cases q:Nat.beq p.1 n with
    |true=>rw[q] at h;have h:p.2=some x:=h;rw[←h, ←Nat.eq_of_beq_eq_true q];exact List.mem_cons_self
    |false=>rw[q] at h;exact List.mem_cons_of_mem _ (K5 h)
def vD(fz:iW)(r0 r:Nat->Nat)(nx:Nat)(jT:List (Nat×Option aE)):List (Nat×Option aE)->Prop
 |[]=>True
 |p::m=>(and (Nat.ble 270 p.1) (Nat.blt p.1 nx))=true/\(∀y,p.2=some y->y.plain=true/\∃x,wZ jT (r0 p.1)=some x/\(y.du=false->x.du=false)/\iH fz r x y)/\vD fz r0 r nx jT m
theorem vD.I{r0 r:Nat->Nat}{nx:Nat}:∀{os:List (Nat×Option aE)},vD fz r0 r nx jT os->∀p∈os,270<=p.1/\p.1<nx/\∀y,p.2=some y->y.plain=true/\∃x,(r0 p.1,some x)∈jT/\(y.du=false->x.du=false)/\iH fz r x y
  | p ::m,h,q,hq=>by
    rcases List.mem_cons.1 hq with rfl|hq
    · obtain⟨a,b⟩:=and_true.1 (show(Nat.ble 270 q.1&&Nat.blt q.1 nx)=true from h.1)
      exact⟨bH.1 a,bH.1 b,fun y hy=>by obtain⟨c,x,d,e⟩:=h.2.1 y hy;exact⟨c,x,K5 d,e⟩⟩
    · exact vD.I h.2.2 q hq
theorem oS{r:Nat->Nat}{y x:aE}(E:iH fz r x y)(hp:y.plain=true)(hl:wZ jT n=some x)(hr:y.du=false->x.du=false):∀z,(some y:Option aE)=some z->z.plain=true/\∃x,wZ jT n=some x/\(z.du=false->x.du=false)/\iH fz r x z:=fun z e=>by
 injection e with e;subst e;exact⟨hp,x,hl,hr,E⟩
theorem Mj{r:Nat->Nat}:∀{l0 l:List (Nat×AV)},l0.map Prod.fst=l.map Prod.fst->kC fz r (l0.map Prod.snd) (l.map Prod.snd)->∀p∈l,∃x,(p.1,x)∈l0/\jh fz r x p.2
  |[],[],_,_,p,hp=>by cases hp
  |[],_::_,hk,_,_,_=>by simp at hk
  |_::_,[],hk,_,_,_=>by simp at hk
  | a ::l0,b::l,hk,h,p,hp=>by
    simp only[List.map_cons,List.cons.injEq] at hk
    rcases List.mem_cons.1 hp with rfl|hp
    · exact⟨a.2,by rw[←hk.1];exact List.mem_cons_self,h.1⟩
    · obtain⟨x,k1,k2⟩:=Mj hk.2 h.2 p hp
      exact⟨x,List.mem_cons_of_mem _ k1,k2⟩
def Ph(r0:Nat->Nat)(bp:Nat)(n:Nat):Bool:=(List.range n).all fun i=>and (and (Nat.ble 270 (r0 (270+i))) (Nat.blt (r0 (270+i)) bp)) ((List.range n).all fun j=>or (Nat.beq i j) (not (Nat.beq (r0 (270+i)) (r0 (270+j)))))
def Pj(l:List (Nat×AV)):Bool:=l.all fun p=>Nat.blt p.1 top
theorem I5{nx:Nat}(fz:iW)(r0:Nat->Nat)(hb:and (and (Nat.ble 270 nx) (and (Nat.ble nx bp) (Nat.blt bp top))) (and (Pj l) (Ph r0 bp (nx - 270)))=true)(hk:l0.map Prod.fst=l.map Prod.fst)(hl:∀r:Nat->Nat,(∀k,and (Nat.ble 270 k) (Nat.blt k nx)=true->r k=r0 k)->(∀k,top<=k->r k=k)->kC fz r (l0.map Prod.snd) (l.map Prod.snd))(ho:∀r:Nat->Nat,(∀k,and (Nat.ble 270 k) (Nat.blt k nx)=true->r k=r0 k)->(∀k,top<=k->r k=k)->vD fz r0 r nx jT os)(rh:∀p∈fz,270<=p.1/\p.1<top/\(∀q∈os,r0 q.1≠p.1)/\FU p.2.1=some p.2.2/\∃N t z,(p.1,some (.cells N t z))∈jT/\∀i x,p.2.2[i]? =some x->i<N/\cellAt t z i=some x/\x.ct=true/\x.gN=true):
  fC FU 270 bp l0 (ay++jT) l (ay++os) nx:=by
 obtain⟨a,b⟩:=and_true.1 hb
 obtain⟨a1,a2⟩:=and_true.1 a
 obtain⟨a2,a3⟩:=and_true.1 a2
 obtain⟨b1,b2⟩:=and_true.1 b
 have h1:=bH.1 a1
 have h2:=bH.1 a2
 have h3:=bH.1 a3
 have fZ:∀i,i<nx - 270->(270<=r0 (270+i)/\r0 (270+i)<bp)/\∀j,j<nx - 270->i=j\/r0 (270+i)≠r0 (270+j):=fun i hi=>by
  obtain⟨c,d⟩:=and_true.1 (List.all_eq_true.1 b2 i (List.mem_range.2 hi))
  obtain⟨c1,c2⟩:=and_true.1 c
  refine⟨⟨bH.1 c1,bH.1 c2⟩,fun j hj=>?_⟩
  have e:=List.all_eq_true.1 d j (List.mem_range.2 hj)
  by_cases q:i=j
  ·exact .inl q
  ·refine .inr fun z=>?_
   have f1:Nat.beq i j=false:=Bool.eq_false_iff.2 fun y=>q (Nat.eq_of_beq_eq_true y)
   rw[f1,z,Nat.beq_refl] at e
   cases e
 have hq:∀{r:Nat->Nat},(∀k,270<=k->k<nx->r k=r0 k)->∀k,and (Nat.ble 270 k) (Nat.blt k nx)=true->r k=r0 k:=fun h k hk=>by
  obtain⟨c,d⟩:=and_true.1 hk
  exact h k (bH.1 c) (bH.1 d)
 refine Qs r0 h1 h2 h3 (fun k k1 k2=>?_) (fun j k j1 j2 k1 k2 e=>?_) (fun r _ r2 r3 p hp=>?_) (fun r _ r2 r3 p hp=>vD.I (ho r (hq r2) r3) p hp) rh
 ·have:=(fZ (k - 270) J).1
  rw[show 270+(k - 270)=k by omega] at this
  exact this
 ·have:=(fZ (j - 270) J).2 (k - 270) J
  rw[show 270+(k - 270)=k by omega,show 270+(j - 270)=j by omega] at this
  rcases this with h|h
  ·omega
  ·exact absurd e h
 ·obtain⟨x,k1,k2⟩:=Mj hk (hl r (hq r2) r3) p hp
  exact⟨bH.1 (List.all_eq_true.1 b1 p hp),x,k1,k2⟩
theorem vI{r:Nat->Nat}{k:IntKind}{z:Int}:jh fz r (.int k z) (.int k z):=(aJ.int _ _).z
theorem vN{r:Nat->Nat}:jh fz r (.slice none 0 (.known 0)) (.slice none 0 (.known 0)):=aJ.lY.z
theorem oT{r:Nat->Nat}{T V S:Int}{o len:Nat}(hn:top<=n)(r3:∀k,top<=k->r k=k):iH fz r (.cells 4 (Tr.fill (bK T V S n o len) 0 .nil) []) (.cells 4 (Tr.fill (bK T V S n o len) 0 .nil) []):=
 iH.cells (l:=bK T V S n o len) (m:=bK T V S n o len) (by show 4<=top;unfold top;omega) ⟨vI,vI,vI,mK hn r3,trivial⟩ rfl
theorem oE{r:Nat->Nat}{e:Ev}:iH fz r (.cells 7 (Tr.fill (aN e) 0 .nil) []) (.cells 7 (Tr.fill (aN e) 0 .nil) []):=
 iH.cells (l:=aN e) (m:=aN e) (by show 7<=top;unfold top;omega) ⟨vI,vI,vI,vI,vI,vI,vI,trivial⟩ rfl
theorem iQ{nx:Nat}(r0:Nat->Nat)(hb:and (and (Nat.ble 270 nx) (and (Nat.ble nx bp) (Nat.blt bp top))) (and (Pj l) (Ph r0 bp (nx - 270)))=true)(hk:l0.map Prod.fst=l.map Prod.fst)(hl:∀r:Nat->Nat,(∀k,and (Nat.ble 270 k) (Nat.blt k nx)=true->r k=r0 k)->(∀k,top<=k->r k=k)->kC [] r (l0.map Prod.snd) (l.map Prod.snd))(ho:∀r:Nat->Nat,(∀k,and (Nat.ble 270 k) (Nat.blt k nx)=true->r k=r0 k)->(∀k,top<=k->r k=k)->vD [] r0 r nx jT os):fC FU 270 bp l0 (ay++jT) l (ay++os) nx:=
 I5 [] r0 hb hk hl ho fun p hp=>by cases hp
theorem Gb{α:Type}{enc:α->List AV}{j:Nat}(hj:j<top)(hs:bp<top):fC FU 270 bp [(j,.slice none 0 (.known 0))] [] [(j,aL enc [])] [] 270:=by
 refine⟨[],uJ bp,fun k hk=>if_pos (.inl hk),fun k h1 h2=>?_,fun k hk=>yv hk,by unfold top;decide,fun p hp=>?_,fun p hp=>(by cases hp),fun p hp=>(by cases hp),fun p hp=>(by cases hp),fun p _ q hq=>(by cases hq)⟩
 ·unfold uJ;rw[if_neg J];omega
 ·rw[List.mem_singleton] at hp;subst hp
  exact⟨hj,_,List.mem_singleton.2 rfl,l4⟩
end fA
end
section
open Go Go.Rn Go.RowKit Go.Proofs
namespace eW
open cd cj cv cD cH cI cN gw
structure Th where
 I:Int
 cc:Int
 rv:Int
 wv:Int
 bX:Int
 v:Int
 read:Int
 au:Int
 aC:Int
 check:Int
 ao:Int
 gx:Int
 full:Bool
deriving Inhabited
structure Sr where
 owner:Int
 version:Int
deriving Inhabited
noncomputable section
def dc(t:Th):List AV:=[.int .i64 t.I,.int .i64 t.cc,.int .i64 t.rv,.int .i64 t.wv,.int .i64 t.bX,.int .i64 t.v,.int .u32 t.read,.int .u32 t.au,.int .u32 t.aC,.int .u32 t.check,.int .i64 t.ao,.int .i64 t.gx,.bool t.full]
def nM(t:Sr):List AV:=[.int .i64 t.owner,.int .i64 t.version]
end
structure GM {α:Type} (K:Nat) (enc:α->List AV):Prop where
 len:∀x,(enc x).length=K
 flat:∀x,(enc x).all AV.flat=true
 one:∀x,(enc x).all AV.ct=true
theorem bc:GM 13 dc:=⟨fun _=>rfl,fun _=>rfl,fun _=>rfl⟩
theorem fh:GM 2 nM:=⟨fun _=>rfl,fun _=>rfl,fun _=>rfl⟩
def AH:List AV->Option AV
 |[.int .u32 x]=>if 0<=x/\x<4294967296 then some (.int .i64 (eB x)) else none
 |_=>none
noncomputable def I6:FuncId×(List AV->Option AV):=(65,AH)
theorem zj(x:Int)(h:0<=x/\x<4294967296):bj AH [.int .u32 x]=some (.int .i64 (eB x)):=l3 (if_pos h) rfl rfl
def Db(S:Nat)(t:Th):Prop:=0<=t.cc/\t.cc<=1000/\0<=t.bX/\t.bX<(S:Int)/\0<=t.read/\t.read<4294967296/\0<=t.au/\t.au<4294967296/\0<=t.aC/\t.aC<4294967296/\0<=t.check/\t.check<4294967296/\(t.I=3->0<=t.rv/\t.rv<=1099511627776)
theorem jU{S:Nat}{t:Th}(h:Db S t):0<=t.cc/\t.cc<=1000/\0<=t.bX/\t.bX<(S:Int)/\0<=t.read/\t.read<4294967296/\0<=t.au/\t.au<4294967296/\0<=t.aC/\t.aC<4294967296/\0<=t.check/\t.check<4294967296/\(t.I=3->0<=t.rv/\t.rv<=1099511627776):=h
theorem eh{k th tx I v x ab T V S:Int}(h:aB k th tx I v x ab T V S):(1<=T/\T<=6)/\(1<=V/\V<=32)/\(1<=S/\S<=V)/\1<=k/\k<=13/\(k≠10\/(1<=ab/\ab<=6))/\0<=th/\th<T/\0<=tx/\tx<=5/\0<=v/\v<=1099511627776/\(k≠5\/1<=v)/\0<=I/\(k=3\/k=8\/I<S)/\((k≠3/\k≠8)\/I<V)/\(k≠10\/ab≠6\/I<=0)/\(k=1\/tx=0)/\((k≠1/\k≠5/\k≠7/\k≠12/\k≠13)\/I=0)/\(k=1\/k=2\/k=5\/k=7\/v=0)/\(k=3\/k=8\/x=0)/\(k=10\/ab=0):=h
theorem aeo{op:BinOp}{a b:Int}(h:YW op=true):0<=aq op .u32 a b/\aq op .u32 a b<4294967296:=by
 have hw:∀n:Int,0<=IntKind.wrap .u32 n/\IntKind.wrap .u32 n<4294967296:=fun n=>by
  have e:IntKind.wrap .u32 n=n % 4294967296:=by simp[IntKind.wrap,IntKind.signed,IntKind.bits]
  rw[e];omega
 cases op<;>first|(cases h;done)|exact hw _
theorem oj(b:Bool){v:AV}(h:v= .bool b):AV.bool b=v:=h.symm
noncomputable abbrev LN:gn:=[GI,I6]
noncomputable def aP(n o len m p lo nT nS:Nat)(T V S:Int)(aj:List Th)(ah:List Sr)(ak an i:Int):Fm:=⟨9,[(1,(.ae m p lo)),(2,(.ptr (some (270,0)))),(5,(.ptr (some (274,0)))),(35,(.ae n o len)),(36,(.int .i64 ((len:Int)))),(37,(.int .i64 i))],133,[.code (aO Tryd.prog 9 [1,1,1,0,1,0,0]),.inLoop (aO Tryd.prog 9 [1,1,1,0,1,0,0]),.inBlock 0,.code (aO Tryd.prog 9 [1,1,1,1])],[(270,some (.cells 4 (Tr.fill (bK T V S n o len) 0 .nil) [])),(271,(some (aD dc aj))),(273,(some (aD nM ah))),(274,some (.cells 5 (Tr.fill [(.int .i64 V),(.int .i64 ak),(.int .i64 an),(.slice (some (271,0)) nT (.known nT)),(.slice (some (273,0)) nS (.known nS))] 0 .nil) []))],275⟩
theorem eK{n o len m p lo nT nS:Nat}{T V S:Int}{aj:List Th}{ah:List Sr}{ak an i:Int}(hn:top<=n)(hm:top<=m)(hT:aj.length*13<=top)(hS:ah.length*2<=top)(C:bz)(h:FH C (aP n o len m p lo nT nS T V S aj ah ak an i)):
    ((aP n o len m p lo nT nS T V S aj ah ak an i).l.map (fun q=>some q.2)=(aP n o len m p lo nT nS T V S aj ah ak an i).l.map (fun q=>some q.2))/\((ay++(aP n o len m p lo nT nS T V S aj ah ak an i).o).map (fun q=>q.2)=(ay++(aP n o len m p lo nT nS T V S aj ah ak an i).o).map (fun q=>q.2))/\mX 275 (aP n o len m p lo nT nS T V S aj ah ak an i).l (ay++(aP n o len m p lo nT nS T V S aj ah ak an i).o)/\FH C (aP n o len m p lo nT nS T V S aj ah ak an i):=by
  refine⟨rfl,rfl,fun r r1 r2=>⟨fun p ou=>?_,fun p ou x hx=>?_⟩,h⟩
  · simp only[aP,List.mem_cons,List.not_mem_nil,or_false] at ou
    rcases ou with rfl|rfl|rfl|rfl|rfl|rfl
    · exact aJ.ae (r2 m hm) r2
    · exact aJ.ptr (r1 _ ar)
    · exact aJ.ptr (r1 _ ar)
    · exact aJ.ae (r2 n hn) r2
    · exact aJ.int _ _
    · exact aJ.int _ _
  · rcases List.mem_append.1 ou with ou|ou
    · exact yu (nx:=275) r1 jl p ou x hx
    · simp only[aP,List.mem_cons,List.not_mem_nil,or_false] at ou
      rcases ou with rfl|rfl|rfl|rfl
      · injection hx with hx;subst hx
        exact c8.cells (l:=[.int .i64 T,.int .i64 V,.int .i64 S,.ae n o len]) (m:=[.int .i64 T,.int .i64 V,.int .i64 S,.ae n o len]) (by unfold top;simp) ⟨aJ.int _ _,aJ.int _ _,aJ.int _ _,aJ.ae (r2 n hn) r2,trivial⟩ rfl
      · injection hx with hx;subst hx
        exact c8.aD (fun x=>⟨bc.flat x,bc.one x⟩) (by rw[pI bc.len];exact hT)
      · injection hx with hx;subst hx
        exact c8.aD (fun x=>⟨fh.flat x,fh.one x⟩) (by rw[pI fh.len];exact hS)
      · injection hx with hx;subst hx
        exact c8.cells (l:=[.int .i64 V,.int .i64 ak,.int .i64 an,.slice (some (271,0)) nT (.known nT),.slice (some (273,0)) nS (.known nS)]) (m:=[.int .i64 V,.int .i64 ak,.int .i64 an,.slice (some (271,0)) nT (.known nT),.slice (some (273,0)) nS (.known nS)]) (by unfold top;simp) ⟨aJ.int _ _,aJ.int _ _,aJ.int _ _,aJ.slice (r1 _ ar),aJ.slice (r1 _ ar),trivial⟩ rfl
structure jV (n o len m nT nS:Nat) (V:Int) (aj:List Th) (ah:List Sr) (c:Th) (an i k th tx I v x ab:Int):Prop where
 ho:dF (⟨k,th,tx,I,v,x,ab⟩:Ev)
 hn:top<=n
 bu:top<=m
 hlen:len<=1000
 h0:0<=i
 hi:i<(len:Int)
 bB:bM FU n (o+i.toNat*7) 7=some (bn k th tx I v x ab)
 hV:1<=V/\V<=32
 bE:nT<=6
 de:nS<=32
 aH:aj.length*13<=top
 bA:ah.length*2<=top
 cZ:0<=an
 c7:an<=1000
 aT:Db nS c
 hC:0<=th/\th<(nT:Int)->aj[th.toNat]? =some c
end eW
end
section
open Go Go.Rn Go.RowKit Go.Proofs
namespace sE
open cd cj cv cD
variable {l m:List Int} {x a b S y:Int}
def u32(x:Int):Prop:=0<=x/\x<4294967296
theorem tv(h:u32 a):(BitVec.ofInt 32 a).toNat=a.toNat:=by
 obtain⟨m,rfl⟩:=Int.eq_ofNat_of_zero_le h.1
 have:=h.2
 rw[BitVec.ofInt_natCast,BitVec.toNat_ofNat,Int.toNat_natCast,Nat.mod_eq_of_lt J]
theorem wrap32{n:Nat}(h:n<4294967296):IntKind.wrap .u32 (n:Int)=(n:Int):=by
 have e:IntKind.wrap .u32 (n:Int)=(n:Int) % 4294967296:=by simp[IntKind.wrap,IntKind.signed,IntKind.bits]
 rw[e];omega
theorem pW(x:BitVec 32):x.toNat<4294967296:=x.isLt
theorem B1(a b:Int):u32 (aq .or .u32 a b):=by
 show u32 (IntKind.wrap .u32 (BitVec.ofInt 32 a|||BitVec.ofInt 32 b).toNat)
 rw[wrap32 (pW _)];have:=pW (BitVec.ofInt 32 a|||BitVec.ofInt 32 b);exact⟨by omega,by omega⟩
theorem aep(a b:Int):u32 (aq .and .u32 a b):=by
 show u32 (IntKind.wrap .u32 (BitVec.ofInt 32 a&&& BitVec.ofInt 32 b).toNat)
 rw[wrap32 (pW _)];have:=pW (BitVec.ofInt 32 a&&& BitVec.ofInt 32 b);exact⟨by omega,by omega⟩
theorem tw(a b:Int):u32 (aq .andNot .u32 a b):=by
 show u32 (IntKind.wrap .u32 (BitVec.ofInt 32 a&&& ~~~BitVec.ofInt 32 b).toNat)
 rw[wrap32 (pW _)];have:=pW (BitVec.ofInt 32 a&&& ~~~BitVec.ofInt 32 b);exact⟨by omega,by omega⟩
theorem Xo(ha:u32 a)(hb:u32 b)(j:Nat):(aq .or .u32 a b).toNat.testBit j=(a.toNat.testBit j||b.toNat.testBit j):=by
 show(IntKind.wrap .u32 (BitVec.ofInt 32 a|||BitVec.ofInt 32 b).toNat).toNat.testBit j=_
 rw[wrap32 (pW _),Int.toNat_natCast,BitVec.toNat_or,Nat.testBit_or,tv ha,tv hb]
theorem aeq(ha:u32 a)(hb:u32 b)(j:Nat):(aq .and .u32 a b).toNat.testBit j=(a.toNat.testBit j&&b.toNat.testBit j):=by
 show(IntKind.wrap .u32 (BitVec.ofInt 32 a&&& BitVec.ofInt 32 b).toNat).toNat.testBit j=_
 rw[wrap32 (pW _),Int.toNat_natCast,BitVec.toNat_and,Nat.testBit_and,tv ha,tv hb]
theorem Uv(ha:u32 a)(hb:u32 b){j:Nat}(hj:j<32):(aq .andNot .u32 a b).toNat.testBit j=(a.toNat.testBit j&& !b.toNat.testBit j):=by
 show(IntKind.wrap .u32 (BitVec.ofInt 32 a&&& ~~~BitVec.ofInt 32 b).toNat).toNat.testBit j=_
 rw[wrap32 (pW _),Int.toNat_natCast,BitVec.testBit_toNat,BitVec.getLsbD_and,BitVec.getLsbD_not, ←BitVec.testBit_toNat, ←BitVec.testBit_toNat,tv ha,tv hb,decide_eq_true hj,Bool.true_and]
theorem Pk{s:Int}(h:0<=s/\s<32):aq .shl .u32 1 s=((2 ^ s.toNat:Nat):Int):=by
 show IntKind.wrap .u32 (1*2 ^ min s.toNat 32)=_
 rw[Int.one_mul,Nat.min_eq_left J]
 have:(2:Int) ^ s.toNat=((2 ^ s.toNat:Nat):Int):=by simp
 rw[this,wrap32]
 exact Nat.lt_of_lt_of_le (Nat.pow_lt_pow_right ar (by omega:s.toNat<32)) ar
theorem Mk{s:Int}(h:0<=s/\s<32):u32 (aq .shl .u32 1 s):=by
 rw[Pk h]
 have:2 ^ s.toNat<2 ^ 32:=Nat.pow_lt_pow_right ar (by omega:s.toNat<32)
 generalize 2 ^ s.toNat=z at this
 exact⟨Int.natCast_nonneg _,by omega⟩
theorem Ml{s:Int}(h:0<=s/\s<32)(j:Nat):(aq .shl .u32 1 s).toNat.testBit j=decide ((j:Int)=s):=by
 rw[Pk h,Int.toNat_natCast,Nat.testBit_two_pow]
 by_cases q:s.toNat=j
 ·rw[decide_eq_true q,decide_eq_true J]
 ·rw[decide_eq_false q,decide_eq_false J]
theorem Ni{s:Int}(ha:u32 a)(h:0<=s/\s<32):aq .shr .u32 a s=((a.toNat>>>s.toNat:Nat):Int):=by
 obtain⟨m,rfl⟩:=Int.eq_ofNat_of_zero_le ha.1
 show Int.fdiv (m:Int) (2 ^ min s.toNat 32)=_
 rw[Nat.min_eq_left J,Int.toNat_natCast,Nat.shiftRight_eq_div_pow]
 have:(2:Int) ^ s.toNat=((2 ^ s.toNat:Nat):Int):=by simp
 rw[this,Int.fdiv_eq_ediv_of_nonneg _ (Int.natCast_nonneg _)]
 exact(Int.natCast_ediv _ _).symm
theorem Xp{s:Int}(ha:u32 a)(h:0<=s/\s<32):aq .and .u32 (aq .shr .u32 a s) 1=if a.toNat.testBit s.toNat then 1 else 0:=by
 have hs:u32 (aq .shr .u32 a s):=by
  rw[Ni ha h]
  have:a.toNat>>>s.toNat<=a.toNat:=by rw[Nat.shiftRight_eq_div_pow];exact Nat.div_le_self _ _
  have:=ha.2;have:=ha.1
  generalize a.toNat>>>s.toNat=z at*
  exact⟨Int.natCast_nonneg _,by omega⟩
 have e:=tv hs
 show IntKind.wrap .u32 (BitVec.ofInt 32 (aq .shr .u32 a s)&&& BitVec.ofInt 32 1).toNat=_
 rw[wrap32 (pW _),BitVec.toNat_and,e,Ni ha h,Int.toNat_natCast,show(BitVec.ofInt 32 1).toNat=1 from rfl,Nat.and_one_is_mod,Nat.testBit_eq_decide_div_mod_eq,Nat.shiftRight_eq_div_pow]
 by_cases q:a.toNat / 2 ^ s.toNat % 2=1
 ·rw[q,decide_eq_true rfl,if_pos rfl];rfl
 ·have:a.toNat / 2 ^ s.toNat % 2=0:=by omega
  rw[this];rfl
def jC(l:List Int):Prop:=l.Pairwise (· < ·)
def jP(S:Int)(l:List Int):Prop:=∀s∈l,0<=s/\s<S
structure dI (x:Int) (l:List Int):Prop where
 u:u32 x
 b:∀j:Nat,j<32->(x.toNat.testBit j=true↔(j:Int)∈l)
theorem dI.nil:dI 0 []:=⟨⟨by decide,by decide⟩,fun j _=>by simp⟩
theorem dI.at(h:dI x l){s:Int}(hs:0<=s/\s<32):x.toNat.testBit s.toNat=true↔s∈l:=by
 have:=h.b s.toNat J
 rwa[show(s.toNat:Int)=s by omega] at this
theorem dI.add(h:dI x l){s:Int}(hs:0<=s/\s<32)(hm:∀y,y∈m↔y∈l\/y=s):dI (aq .or .u32 x (aq .shl .u32 1 s)) m:=
 ⟨B1 _ _,fun j hj=>by
  rw[Xo h.u (Mk hs),Ml hs,Bool.or_eq_true,h.b j hj,decide_eq_true_iff,hm]⟩
theorem dI.del(h:dI x l){s:Int}(hs:0<=s/\s<32)(hm:∀y,y∈m↔y∈l/\y≠s):dI (aq .andNot .u32 x (aq .shl .u32 1 s)) m:=
 ⟨tw _ _,fun j hj=>by
  rw[Uv h.u (Mk hs) hj,Ml hs,Bool.and_eq_true,h.b j hj,hm,Bool.not_eq_true',decide_eq_false_iff_not]⟩
theorem dI.has(h:dI x l){s:Int}(hs:0<=s/\s<32):aq .and .u32 (aq .shr .u32 x s) 1=if s∈l then 1 else 0:=by
 rw[Xp h.u hs]
 by_cases q:s∈l
 ·rw[if_pos ((h.at hs).2 q),if_pos q]
 ·rw[if_neg (fun z=>q ((h.at hs).1 z)),if_neg q]
theorem dI.Pm(h:dI x l){s:Int}(hs:0<=s/\s<32):aq .and .u32 (aq .shr .u32 x s) 1=0↔s ∉ l:=by
 rw[h.has hs];split<;>simp_all
theorem dI.Pn(h:dI x l){s:Int}(hs:0<=s/\s<32):aq .and .u32 (aq .shr .u32 x s) 1=1↔s∈l:=by
 rw[h.has hs];split<;>simp_all
theorem dI.ext(h:dI x l)(k:dI y m)(hm:∀s:Int,0<=s->s<32->(s∈l↔s∈m)):x=y:=by
 have e:x.toNat=y.toNat:=by
  apply Nat.eq_of_testBit_eq
  intro j
  by_cases hj:j<32
  ·have a:=h.b j hj
   have b:=k.b j hj
   have c:=hm j J J
   rw[Bool.eq_iff_iff,a,b,c]
  ·have hx:x.toNat<2 ^ j:=Nat.lt_of_lt_of_le (by have:=h.u.2;have:=h.u.1;omega:x.toNat<2 ^ 32) (Nat.pow_le_pow_right ar J)
   have hy:y.toNat<2 ^ j:=Nat.lt_of_lt_of_le (by have:=k.u.2;have:=k.u.1;omega:y.toNat<2 ^ 32) (Nat.pow_le_pow_right ar J)
   rw[Nat.testBit_lt_two_pow hx,Nat.testBit_lt_two_pow hy]
 have:=h.u.1;have:=k.u.1
 omega
theorem dI.zero(h:dI x l)(hl:jP 32 l):x=0↔l=[]:=by
  constructor
  · rintro rfl
    cases l with
    |nil=>rfl
    | cons a l=>
      have:=(h.at (hl a (.head _))).2 (.head _)
      simp at this
  · rintro rfl
    exact h.ext dI.nil fun _ _ _=>Iff.rfl
theorem dI.tz(h:dI x l)(hl:jP 32 l)(hr:jC l):eB x=l.headD 32:=by
  cases l with
  | nil=>
    have:=(h.zero hl).2 rfl
    subst this;rfl
  | cons a l=>
    have ha:=hl a (.head _)
    have hx0:x≠0:=fun q=>by have:=(h.zero hl).1 q;cases this
    have hu:=h.u
    have xf:0<x.toNat:=by have:=hu.1;omega
    obtain⟨m,hm,hk⟩:=Go.Lib.ctzFrom_spec 32 x.toNat xf (by have:=hu.2;have:=hu.1;omega)
    have e:Go.Lib.ctz 32 x.toNat=Go.Lib.ctzFrom 32 x.toNat:=by unfold Go.Lib.ctz;rw[if_neg J]
    show((Go.Lib.ctz 32 x.toNat:Nat):Int)=a
    rw[e]
    generalize Go.Lib.ctzFrom 32 x.toNat=k at hm hk
    have t1:x.toNat.testBit k=true:=by
      rw[hm,Nat.testBit_eq_decide_div_mod_eq,Nat.mul_div_cancel_left _ (Nat.two_pow_pos k)]
      exact decide_eq_true J
    have t2:∀j,j<k->x.toNat.testBit j=false:=by
      intro j hj
      rw[hm,Nat.testBit_eq_decide_div_mod_eq]
      obtain⟨d,rfl⟩:∃d,k=j+1+d:=⟨k - (j+1),by omega⟩
      rw[show 2 ^ (j+1+d)*(2*m+1)=2 ^ j*(2*(2 ^ d*(2*m+1))) by rw[Nat.pow_add,Nat.pow_succ,Nat.mul_assoc,Nat.mul_assoc],Nat.mul_div_cancel_left _ (Nat.two_pow_pos j)]
      exact decide_eq_false J
    have lB:=(h.b k hk).1 t1
    have hak:(a.toNat:Nat)=k\/k<a.toNat\/a.toNat<k:=by omega
    rcases hak with q|q|q
    · omega
    · rcases List.mem_cons.1 lB with z|z
      · omega
      · have:=(List.pairwise_cons.1 hr).1 _ z
        omega
    · have t3:=t2 _ q
      have:=(h.at ha).2 (.head _)
      rw[t3] at this;cases this
theorem yG{s:Int}:y∈cP l s↔y∈l\/y=s:=by
  induction l with
  |nil=>simp[cP]
  | cons x l ih=>
    unfold cP
    split
    · rw[List.mem_cons,ih,List.mem_cons,or_assoc]
    · split
      · rename_i q;subst q
        rw[List.mem_cons]
        constructor
        · exact .inl
        · rintro (z|z)
          · exact z
          · exact .inl z
      · rw[List.mem_cons,or_comm]
theorem Mm{s:Int}(h:jC l):jC (cP l s):=by
  induction l with
  |nil=>exact List.pairwise_singleton _ _
  | cons x l ih=>
    obtain⟨h1,h2⟩:=List.pairwise_cons.1 h
    unfold cP
    split
    · rename_i q
      refine List.pairwise_cons.2 ⟨fun y hy=>?_,ih h2⟩
      rcases yG.1 hy with z|z
      · exact h1 y z
      · omega
    · split
      · exact h
      · refine List.pairwise_cons.2 ⟨fun y hy=>?_,h⟩
        rcases List.mem_cons.1 hy with z|z
        · omega
        · have:=h1 y z;omega
theorem Xq{s:Int}(h:jP S l)(hs:0<=s/\s<S):jP S (cP l s):=fun y hy=>by
 rcases yG.1 hy with z|z
 ·exact h y z
 ·subst z;exact hs
theorem jP.mono{S':Int}(h:jP S l)(hS:S<=S'):jP S' l:=fun s hs=>by have:=h s hs;omega
theorem jC.nodup(h:jC l):l.Nodup:=List.Pairwise.imp (fun q=>by omega) h
theorem jC.drop(h:jC l)(k:Nat):jC (l.drop k):=List.Pairwise.sublist (List.drop_sublist k l) h
theorem jP.drop(h:jP S l)(k:Nat):jP S (l.drop k):=fun s hs=>h s (List.mem_of_mem_drop hs)
theorem BK:∀{l m:List Int},l.Nodup->(∀x∈l,x∈m)->l.length<=m.length
  |[],_,_,_=>Nat.zero_le _
  | a::l,m,hl,hs=>by
    obtain⟨h1,h2⟩:=List.nodup_cons.1 hl
    have ha:=hs a (.head _)
    have:=BK (m:=m.erase a) h2 fun x hx=>(List.mem_erase_of_ne (fun q=>h1 (by rw[←q];exact hx))).2 (hs x (.tail _ hx))
    rw[List.length_erase_of_mem ha] at this
    have:0<m.length:=List.length_pos_of_mem ha
    rw[List.length_cons];omega
theorem sub_eq(hl:jC l)(hm:jC m)(hs:∀x∈l,x∈m):(∀x,x∈l↔x∈m)↔l.length=m.length:=by
  constructor
  · intro h
    exact Nat.le_antisymm (BK hl.nodup hs) (BK hm.nodup fun x hx=>(h x).2 hx)
  · intro h x
    refine⟨hs x,fun hx=>?_⟩
    by_cases q:x∈l
    · exact q
    · have:=BK (l:=x::l) (m:=m) (List.nodup_cons.2 ⟨q,hl.nodup⟩) fun y hy=>by
        rcases List.mem_cons.1 hy with z|z
        · rw[z];exact hx
        · exact hs y z
      rw[List.length_cons] at this;omega
end sE
end
section
open Go Go.Rn Go.RowKit Go.Proofs
namespace uN
open cd cj cv cD cH cI cN fx rz sE eW
variable {a:bQ} {S x ab th v tx bm:Int} {h:List Ev} {l:List Int}
def dC(a:bQ):List Int:=a.ao.drop a.ax.length
def jo(a:bQ):Int:=if aS a then(if a.ab=6 then 9 else 0) else if a.last=1\/a.last=3 then 1 else if a.last=2 then 2 else if a.last=4 then 3 else if a.last=5\/a.last=6 then 4 else if a.last=7\/a.last=8 then 5 else if a.last=9 then 6 else if a.last=12 then 8 else 7
structure cf (a:bQ) (bm S:Int):Prop where
 la:0<=a.last/\a.last<=13
 no:a.last=0->a=gU
 rv:0<=a.rv/\a.rv<=1099511627776
 rd:jC a.read
 gM:jP S a.read
 lk:jC a.ao
 gZ:jP S a.ao
 lo:(a.last=1\/a.last=2\/a.last=3\/a.last=12\/a.last=13)->a.ao=[]
 hi:(a.last=4\/a.last=5\/a.last=6\/a.last=8\/a.last=9\/a.last=11)->a.ao≠[]
 fr:a.ax≠[]->a.last=9\/a.last=11
 fl:a.ax.length<=a.ao.length
 ck:(a.last=1\/a.last=2\/a.last=3\/a.last=4\/a.last=12)->a.checked=0
 kY:0<=a.checked
 st:a.aC≠[]->a.last=8\/a.last=9
 so:∀y∈a.aC,Int.tmod y S∈a.ao
 wv:(a.last=5\/a.last=6\/a.last=8\/a.last=9\/a.last=7/\a.ao≠[])->a.wv=bm
 ab:a.ab≠0->a.last=10\/a.last=11
 zT:a.ab=6->a.ao≠[]
theorem nd{p q:Prop} [Decidable p](h:decide p=false)(x:p):q:=absurd x (of_decide_eq_false h)
theorem Uw:cf gU bm S:=by
 refine⟨⟨by decide,by decide⟩,fun _=>rfl,⟨by decide,by decide⟩,List.Pairwise.nil,(fun s h=>by cases h),List.Pairwise.nil,(fun s h=>by cases h),fun _=>rfl,fun q=>?_,fun q=>absurd rfl q,Nat.le_refl 0,fun _=>rfl,Int.le_refl 0,fun q=>absurd rfl q,(fun s h=>by cases h),fun q=>?_,fun q=>absurd rfl q,fun q=>absurd (show(0:Int)=6 from q) ar⟩
 ·have q:((0:Int)=4\/(0:Int)=5\/(0:Int)=6\/(0:Int)=8\/(0:Int)=9\/(0:Int)=11):=q
  omega
 ·have q:((0:Int)=5\/(0:Int)=6\/(0:Int)=8\/(0:Int)=9\/(0:Int)=7/\gU.ao≠[]):=q
  omega
theorem Ux(h:l≠[]):gQ l∈l:=by
 unfold gQ
 rw[List.getLast?_eq_some_getLast h];exact List.getLast_mem h
theorem Xr(h:jC l):∀x∈l,x<=gQ l:=by
  induction l with
  |nil=>intro x hx;cases hx
  | cons a l ih=>
    intro x hx
    obtain⟨h1,h2⟩:=List.pairwise_cons.1 h
    by_cases q:l=[]
    · subst q
      rcases List.mem_cons.1 hx with z|z
      · rw[z];exact Int.le_refl _
      · cases z
    · have e:gQ (a::l)=gQ l:=by unfold gQ;rw[List.getLast?_cons];cases hl:l.getLast? with
        |none=>exact absurd (List.getLast?_eq_none_iff.1 hl) q
        |some y=>rfl
      rw[e]
      rcases List.mem_cons.1 hx with z|z
      · have:=h1 _ (Ux q);omega
      · exact ih h2 x z
theorem K6:gQ (l++[x])=x:=by unfold gQ;rw[List.getLast?_append];rfl
theorem Uy(h:jC l)(hx:gQ l<x):jC (l++[x]):=
 List.pairwise_append.2 ⟨h,List.pairwise_singleton _ _,fun a ha b hb=>by
  have:=Xr h a ha
  rw[List.mem_singleton] at hb;subst hb;omega⟩
theorem Fg{s:Int}(h:s∈dC a):s∈a.ao:=List.mem_of_mem_drop h
theorem cf.free(d:cf a bm S)(h:a.last≠9/\a.last≠11):a.ax=[]:=by
 by_cases q:a.ax=[]
 ·exact q
 ·have:=d.fr q;omega
theorem cf.nq(d:cf a bm S)(h:a.last≠8/\a.last≠9):a.aC=[]:=by
 by_cases q:a.aC=[]
 ·exact q
 ·have:=d.st q;omega
theorem cf.held(d:cf a bm S)(h:a.last≠9/\a.last≠11):dC a=a.ao:=by unfold dC;rw[d.free h];rfl
theorem cf.wh(d:cf a bm S)(h:a.last≠10/\a.last≠11):a.ab=0:=by
 by_cases q:a.ab=0
 ·exact q
 ·have:=d.ab q;omega
theorem Tb(d:cf a bm S)(h:aS a):dC a=[]:=by
 unfold dC
 have hl:=d.lo
 rcases h with h|h|h|h|h
 ·rw[d.no h];rfl
 ·rw[hl J];simp
 ·rw[List.eq_nil_of_length_eq_zero h.2];simp
 ·rw[h.2];simp
 ·rw[List.eq_nil_of_length_eq_zero h.2];simp
theorem Mn{k:Nat}(h:l[k]? =some x):l.drop k=x::l.drop (k+1):=by
 have hk:=(List.getElem?_eq_some_iff.1 h).1
 rw[List.drop_eq_getElem_cons hk]
 rw[List.getElem?_eq_getElem hk] at h
 injection h with h;rw[h]
theorem HV{I:Int}:bR (⟨1,th,tx,I,v,x,ab⟩:Ev) S a=⟨[(⟨1,th,tx,I,v,x,ab⟩:Ev)],v,0,[],[],[],0,[],0,1⟩:=by simp[bR,fc,gU]
theorem HW{I:Int}:bR (⟨2,th,tx,I,v,x,ab⟩:Ev) S a={a with L:=a.L++[(⟨2,th,tx,I,v,x,ab⟩:Ev)],last:=2}:=by simp[bR,fc]
theorem HX{I:Int}:bR (⟨3,th,tx,I,v,x,ab⟩:Ev) S a={a with L:=a.L++[(⟨3,th,tx,I,v,x,ab⟩:Ev)],last:=3,read:=cP a.read (Int.tmod I S)}:=by simp[bR,fc]
theorem HY{I:Int}:bR (⟨4,th,tx,I,v,x,ab⟩:Ev) S a={a with L:=a.L++[(⟨4,th,tx,I,v,x,ab⟩:Ev)],last:=4,ao:=a.ao++[I]}:=by simp[bR,fc]
theorem Dc{I:Int}:bR (⟨5,th,tx,I,v,x,ab⟩:Ev) S a={a with L:=a.L++[(⟨5,th,tx,I,v,x,ab⟩:Ev)],last:=5,wv:=v}:=by simp[bR,fc]
theorem HZ{I:Int}:bR (⟨6,th,tx,I,v,x,ab⟩:Ev) S a={a with L:=a.L++[(⟨6,th,tx,I,v,x,ab⟩:Ev)],last:=6,checked:=a.checked+1}:=by simp[bR,fc]
theorem xx{I:Int}:bR (⟨7,th,tx,I,v,x,ab⟩:Ev) S a={a with L:=a.L++[(⟨7,th,tx,I,v,x,ab⟩:Ev)],last:=7}:=by simp[bR,fc]
theorem H3{I:Int}:bR (⟨8,th,tx,I,v,x,ab⟩:Ev) S a={a with L:=a.L++[(⟨8,th,tx,I,v,x,ab⟩:Ev)],last:=8,aC:=a.aC++[I]}:=by simp[bR,fc]
theorem xy{I:Int}:bR (⟨9,th,tx,I,v,x,ab⟩:Ev) S a={a with L:=a.L++[(⟨9,th,tx,I,v,x,ab⟩:Ev)],last:=9,ax:=a.ax++[I]}:=by simp[bR,fc]
theorem mg{I:Int}:bR (⟨10,th,tx,I,v,x,ab⟩:Ev) S a={a with L:=a.L++[(⟨10,th,tx,I,v,x,ab⟩:Ev)],last:=10,ab:=ab}:=by simp[bR,fc]
theorem w7{I:Int}:bR (⟨11,th,tx,I,v,x,ab⟩:Ev) S a={a with L:=a.L++[(⟨11,th,tx,I,v,x,ab⟩:Ev)],last:=11,ax:=a.ax++[I]}:=by simp[bR,fc]
theorem GN{I:Int}:bR (⟨12,th,tx,I,v,x,ab⟩:Ev) S a={a with L:=a.L++[(⟨12,th,tx,I,v,x,ab⟩:Ev)],last:=12}:=by simp[bR,fc]
theorem GO{I:Int}:bR (⟨13,th,tx,I,v,x,ab⟩:Ev) S a={a with L:=a.L++[(⟨13,th,tx,I,v,x,ab⟩:Ev)],last:=13}:=by simp[bR,fc]
theorem Zh{I:Int}(d:cf a bm S)(hS:0<S)(aW:0<=I/\I<S)(hs:∀s,bo h s=th->s∈dC a)(hi:(a.last=1\/a.last=3)/\bo h I<0/\cx h I<=v/\v<=a.rv):cf {a with L:=a.L++[(⟨2,th,tx,I,v,x,ab⟩:Ev)],last:=2} bm S:=by
 exact⟨(⟨(by show(0:Int)<=2;decide),(by show(2:Int)<=13;decide)⟩),(nd rfl),d.rv,d.rd,d.gM,d.lk,d.gZ,(fun _=>d.lo J),(nd rfl),(fun q=>absurd (d.free J) q),d.fl,(fun _=>d.ck J),d.kY,(fun q=>absurd (d.nq J) q),d.so,(nd rfl),(fun q=>absurd (d.wh J) q),(fun q=>absurd (show a.ab=6 from q) qb)⟩
theorem Zi{I:Int}(d:cf a bm S)(hS:0<S)(aW:0<=I/\I<=99)(hs:∀s,bo h s=th->s∈dC a)(hi:a.last=2/\(iP a).I=Int.tmod I S/\bo h (Int.tmod I S)<0/\cx h (Int.tmod I S)=(iP a).v):cf {a with L:=a.L++[(⟨3,th,tx,I,v,x,ab⟩:Ev)],last:=3,read:=cP a.read (Int.tmod I S)} bm S:=by
 have CH:0<=Int.tmod I S/\Int.tmod I S<S:=⟨Int.tmod_nonneg _ aW.1,Int.tmod_lt_of_pos _ hS⟩
 exact⟨(⟨(by show(0:Int)<=3;decide),(by show(3:Int)<=13;decide)⟩),(nd rfl),d.rv,(Mm d.rd),(Xq d.gM CH),d.lk,d.gZ,(fun _=>d.lo J),(nd rfl),(fun q=>absurd (d.free J) q),d.fl,(fun _=>d.ck J),d.kY,(fun q=>absurd (d.nq J) q),d.so,(nd rfl),(fun q=>absurd (d.wh J) q),(fun q=>absurd (show a.ab=6 from q) qb)⟩
theorem Zj{I:Int}(d:cf a bm S)(hS:0<S)(aW:0<=I/\I<S)(hs:∀s,bo h s=th->s∈dC a)(hi:((a.last=1\/a.last=3)\/a.last=4)/\gQ a.ao<I/\bo h I<0):cf {a with L:=a.L++[(⟨4,th,tx,I,v,x,ab⟩:Ev)],last:=4,ao:=a.ao++[I]} bm S:=by
 exact{
  la:=(⟨(by show(0:Int)<=4;decide),(by show(4:Int)<=13;decide)⟩),
  no:=(nd rfl),
  rv:=(d.rv),
  rd:=(d.rd),
  gM:=(d.gM),
  lk:=(Uy d.lk hi.2.1),
  gZ:=(fun s hs=>by
   rcases List.mem_append.1 hs with z|z
   ·exact d.gZ s z
   ·rw[List.mem_singleton] at z;subst z;omega),
  lo:=(nd rfl),
  hi:=(fun _=>by simp),
  fr:=(fun q=>absurd (d.free J) q),
  fl:=(by show a.ax.length<=(a.ao++[I]).length;rw[List.length_append];have:=d.fl;omega),
  ck:=(fun _=>d.ck J),
  kY:=(d.kY),
  st:=(fun q=>absurd (d.nq J) q),
  so:=(fun y hy=>List.mem_append.2 (.inl (d.so y hy))),
  wv:=(fun q=>by have q:((4:Int)=5\/(4:Int)=6\/(4:Int)=8\/(4:Int)=9\/(4:Int)=7/\a.ao++[I]≠[]):=q;omega),
  ab:=(fun q=>absurd (d.wh J) q),
  zT:=(fun q=>absurd (show a.ab=6 from q) qb)}
theorem Zk{I:Int}(d:cf a bm S)(hS:0<S)(aW:0<=I/\I<S)(hs:∀s,bo h s=th->s∈dC a)(hi:a.last=4/\ml h<v):cf {a with L:=a.L++[(⟨5,th,tx,I,v,x,ab⟩:Ev)],last:=5,wv:=v} v S:=by
 exact⟨(⟨(by show(0:Int)<=5;decide),(by show(5:Int)<=13;decide)⟩),(nd rfl),d.rv,d.rd,d.gM,d.lk,d.gZ,(nd rfl),(fun _=>d.hi J),(fun q=>absurd (d.free J) q),d.fl,(nd rfl),d.kY,(fun q=>absurd (d.nq J) q),d.so,(fun _=>rfl),(fun q=>absurd (d.wh J) q),(fun q=>absurd (show a.ab=6 from q) qb)⟩
theorem Zl{I:Int}(d:cf a bm S)(hS:0<S)(aW:0<=I/\I<S)(hs:∀s,bo h s=th->s∈dC a)(hi:(a.last=5\/a.last=6)/\(dE a).head?=some I/\¬(0<=bo h I/\bo h I≠th)/\cx h I<=a.rv):cf {a with L:=a.L++[(⟨6,th,tx,I,v,x,ab⟩:Ev)],last:=6,checked:=a.checked+1} bm S:=by
 exact⟨(⟨(by show(0:Int)<=6;decide),(by show(6:Int)<=13;decide)⟩),(nd rfl),d.rv,d.rd,d.gM,d.lk,d.gZ,(nd rfl),(fun _=>d.hi J),(fun q=>absurd (d.free J) q),d.fl,(nd rfl),(by show 0<=a.checked+1;have:=d.kY;omega),(fun q=>absurd (d.nq J) q),d.so,(fun _=>d.wv J),(fun q=>absurd (d.wh J) q),(fun q=>absurd (show a.ab=6 from q) qb)⟩
theorem Zm{I:Int}(d:cf a bm S)(hS:0<S)(aW:0<=I/\I<S)(hs:∀s,bo h s=th->s∈dC a)(hi:(v=0->a.last=1\/a.last=3)/\(v≠0->(a.last=5\/a.last=6)/\dE a=[]/\v=a.wv)):cf {a with L:=a.L++[(⟨7,th,tx,I,v,x,ab⟩:Ev)],last:=7} bm S:=by
  exact {
    la:=(⟨(by show(0:Int)<=7;decide),(by show(7:Int)<=13;decide)⟩),
    no:=(nd rfl),
    rv:=(d.rv),
    rd:=(d.rd),
    gM:=(d.gM),
    lk:=(d.lk),
    gZ:=(d.gZ),
    lo:=(nd rfl),
    hi:=(nd rfl),
    fr:=(fun q=>absurd (d.free J) q),
    fl:=(d.fl),
    ck:=(nd rfl),
    kY:=(d.kY),
    st:=(fun q=>absurd (d.nq J) q),
    so:=(d.so),
    wv:=(fun q=>by
      have q:((7:Int)=5\/(7:Int)=6\/(7:Int)=8\/(7:Int)=9\/(7:Int)=7/\a.ao≠[]):=q
      by_cases z:v=0
      · rcases q with q|q|q|q|q
        · omega
        · omega
        · omega
        · omega
        · exact absurd (d.lo (by have:=hi.1 z;omega)) q.2
      · exact d.wv (by have:=(hi.2 z).1;omega)),
    ab:=(fun q=>absurd (d.wh J) q),
    zT:=(fun q=>absurd (show a.ab=6 from q) qb)}
theorem Zn{I:Int}(d:cf a bm S)(hS:0<S)(aW:0<=I/\I<=99)(hs:∀s,bo h s=th->s∈dC a)(hi:(a.last=7\/a.last=8)/\gQ a.aC<I/\bo h (Int.tmod I S)=th):cf {a with L:=a.L++[(⟨8,th,tx,I,v,x,ab⟩:Ev)],last:=8,aC:=a.aC++[I]} bm S:=by
 exact{
  la:=(⟨(by show(0:Int)<=8;decide),(by show(8:Int)<=13;decide)⟩),
  no:=(nd rfl),
  rv:=(d.rv),
  rd:=(d.rd),
  gM:=(d.gM),
  lk:=(d.lk),
  gZ:=(d.gZ),
  lo:=(nd rfl),
  hi:=(fun _ q=>by have:=Fg (hs _ hi.2.2);rw[show a.ao=[] from q] at this;cases this),
  fr:=(fun q=>absurd (d.free J) q),
  fl:=(d.fl),
  ck:=(nd rfl),
  kY:=(d.kY),
  st:=(fun _=>by show(8:Int)=8\/(8:Int)=9;decide),
  so:=(fun y hy=>by
   rcases List.mem_append.1 hy with z|z
   ·exact d.so y z
   ·rw[List.mem_singleton] at z;subst z;exact Fg (hs _ hi.2.2)),
  wv:=(fun _=>d.wv (by
   have h7:a.ao≠[]:=fun q=>by have:=Fg (hs _ hi.2.2);rw[q] at this;cases this
   rcases hi.1 with z|z
   ·exact .inr (.inr (.inr (.inr ⟨z,h7⟩)))
   ·omega)),
  ab:=(fun q=>absurd (d.wh J) q),
  zT:=(fun q=>absurd (show a.ab=6 from q) qb)}
theorem Zo{I:Int}(d:cf a bm S)(hS:0<S)(aW:0<=I/\I<S)(hs:∀s,bo h s=th->s∈dC a)(hi:(a.last=8/\(gb a.aC S).length=a.ao.length\/a.last=9)/\a.ao[a.ax.length]? =some I):cf {a with L:=a.L++[(⟨9,th,tx,I,v,x,ab⟩:Ev)],last:=9,ax:=a.ax++[I]} bm S:=by
 have nh:(a.ax++[I]).length<=a.ao.length:=by have:=(List.getElem?_eq_some_iff.1 hi.2).1;rw[List.length_append];exact this
 exact⟨(⟨(by show(0:Int)<=9;decide),(by show(9:Int)<=13;decide)⟩),(nd rfl),d.rv,d.rd,d.gM,d.lk,d.gZ,(nd rfl),(fun _=>d.hi J),(fun _=>by show(9:Int)=9\/(9:Int)=11;decide),nh,(nd rfl),d.kY,(fun _=>by show(9:Int)=8\/(9:Int)=9;decide),d.so,(fun _=>d.wv J),(fun q=>absurd (d.wh J) q),(fun q=>absurd (show a.ab=6 from q) qb)⟩
theorem Uz{I:Int}(hw:1<=ab/\ab<=6)(hi:pA h a th I ab):a.last=1\/a.last=3\/a.last=2\/a.last=4\/a.last=5\/a.last=6:=by
 obtain⟨b1,b2,b3,b4,b5,b6⟩:=hi
 have I3:ab=1\/ab=2\/ab=3\/ab=4\/ab=5\/ab=6:=by omega
 rcases I3 with rfl|rfl|rfl|rfl|rfl|rfl
 ·have:=(b1 rfl).1;unfold Rd at this;omega
 ·have:=(b2 rfl).1;unfold Rd at this;omega
 ·have:=(b3 rfl).1;omega
 ·have:=(b4 rfl).1;unfold Rd at this;omega
 ·have:=(b5 rfl).1;unfold Ck at this;omega
 ·have:=b6 J;omega
theorem Xs{I:Int}(d:cf a bm S)(hS:0<S)(aW:0<=I/\I<S)(hw:1<=ab/\ab<=6)(hs:∀s,bo h s=th->s∈dC a)(hi:pA h a th I ab):cf {a with L:=a.L++[(⟨10,th,tx,I,v,x,ab⟩:Ev)],last:=10,ab:=ab} bm S:=by
 have hl:a.last=1\/a.last=3\/a.last=2\/a.last=4\/a.last=5\/a.last=6:=Uz hw hi
 exact⟨(⟨(by show(0:Int)<=10;decide),(by show(10:Int)<=13;decide)⟩),(nd rfl),d.rv,d.rd,d.gM,d.lk,d.gZ,(nd rfl),(nd rfl),(fun q=>absurd (d.free J) q),d.fl,(nd rfl),d.kY,(fun q=>absurd (d.nq J) q),d.so,(nd rfl),(fun _=>by show(10:Int)=10\/(10:Int)=11;decide),(fun q=>d.hi (by have:=hi.2.2.2.2.2 (fun z=>by have q:ab=6:=q;omega);omega))⟩
theorem Xt{I:Int}(d:cf a bm S)(hS:0<S)(aW:0<=I/\I<S)(hs:∀s,bo h s=th->s∈dC a)(hi:(a.last=10\/a.last=11)/\a.ao[a.ax.length]? =some I):cf {a with L:=a.L++[(⟨11,th,tx,I,v,x,ab⟩:Ev)],last:=11,ax:=a.ax++[I]} bm S:=by
 have nh:(a.ax++[I]).length<=a.ao.length:=by have:=(List.getElem?_eq_some_iff.1 hi.2).1;rw[List.length_append];exact this
 exact{
  la:=(⟨(by show(0:Int)<=11;decide),(by show(11:Int)<=13;decide)⟩),
  no:=(nd rfl),
  rv:=(d.rv),
  rd:=(d.rd),
  gM:=(d.gM),
  lk:=(d.lk),
  gZ:=(d.gZ),
  lo:=(nd rfl),
  hi:=(fun _ q=>by
   have h0:a.ax.length+1<=a.ao.length:=by have:=nh;rw[List.length_append] at this;exact this
   rw[show a.ao=[] from q] at h0;simp at h0),
  fr:=(fun _=>by show(11:Int)=9\/(11:Int)=11;decide),
  fl:=(nh),
  ck:=(nd rfl),
  kY:=(d.kY),
  st:=(fun q=>absurd (d.nq J) q),
  so:=(d.so),
  wv:=(nd rfl),
  ab:=(fun _=>by show(11:Int)=10\/(11:Int)=11;decide),
  zT:=(d.zT)}
theorem Xu{I:Int}(d:cf a bm S)(hS:0<S)(aW:0<=I/\I<S)(hs:∀s,bo h s=th->s∈dC a)(hi:a.last=1\/a.last=3):cf {a with L:=a.L++[(⟨12,th,tx,I,v,x,ab⟩:Ev)],last:=12} bm S:=by
 exact⟨(⟨(by show(0:Int)<=12;decide),(by show(12:Int)<=13;decide)⟩),(nd rfl),d.rv,d.rd,d.gM,d.lk,d.gZ,(fun _=>d.lo J),(nd rfl),(fun q=>absurd (d.free J) q),d.fl,(fun _=>d.ck J),d.kY,(fun q=>absurd (d.nq J) q),d.so,(nd rfl),(fun q=>absurd (d.wh J) q),(fun q=>absurd (show a.ab=6 from q) qb)⟩
theorem Xv{I:Int}(d:cf a bm S)(hS:0<S)(aW:0<=I/\I<S)(hs:∀s,bo h s=th->s∈dC a)(hi:a.last=12/\∃s∈a.read,bo h s<0/\a.rv<cx h s):cf {a with L:=a.L++[(⟨13,th,tx,I,v,x,ab⟩:Ev)],last:=13} bm S:=by
 have hi0:=hi.1
 exact⟨(⟨(by show(0:Int)<=13;decide),(by show(13:Int)<=13;decide)⟩),(nd rfl),d.rv,d.rd,d.gM,d.lk,d.gZ,(fun _=>d.lo J),(nd rfl),(fun q=>absurd (d.free J) q),d.fl,(nd rfl),d.kY,(fun q=>absurd (d.nq J) q),d.so,(nd rfl),(fun q=>absurd (d.wh J) q),(fun q=>absurd (show a.ab=6 from q) qb)⟩
theorem Zp{I:Int}(hv:0<=v/\v<=1099511627776):cf ⟨[(⟨1,th,tx,I,v,x,ab⟩:Ev)],v,0,[],[],[],0,[],0,1⟩ bm S:=by
 refine⟨⟨(by show(0:Int)<=1;decide),(by show(1:Int)<=13;decide)⟩,fun q=>absurd (show(1:Int)=0 from q) ar,hv,List.Pairwise.nil,(fun s h=>by cases h),List.Pairwise.nil,(fun s h=>by cases h),fun _=>rfl,fun q=>?_,fun q=>absurd rfl q,Nat.le_refl 0,fun _=>rfl,Int.le_refl 0,fun q=>absurd rfl q,(fun s h=>by cases h),fun q=>?_,fun q=>absurd rfl q,fun q=>absurd (show(0:Int)=6 from q) ar⟩
 ·have q:((1:Int)=4\/(1:Int)=5\/(1:Int)=6\/(1:Int)=8\/(1:Int)=9\/(1:Int)=11):=q
  omega
 ·have q:((1:Int)=5\/(1:Int)=6\/(1:Int)=8\/(1:Int)=9\/(1:Int)=7/\([]:List Int)≠[]):=q
  omega
end uN
end
section
open Go Go.Rn Go.RowKit Go.Proofs
namespace xz
open cd cj cv cD cH cI cN fx rz sE eW uN
variable {e:Ev} {S th V T:Int} {h:List Ev}
structure zk (h:List Ev) (S:Int):Prop where
 doc:∀th,cf (aG h th S) (kN h th) S
 own:∀s th,0<=th->(bo h s=th↔s∈dC (aG h th S))
 low:∀s, -1<=bo h s
theorem Bx{s r:Int}(h:e.kind≠4/\e.kind≠9/\e.kind≠11):iu e s r=r:=by
 unfold iu
 split
 ·rfl
 ·rw[if_neg h.1,if_neg J]
theorem GP{s r:Int}(h:e.kind=4):iu e s r=if e.I=s then e.az else r:=by
 unfold iu
 by_cases q:e.I=s
 ·rw[if_neg (by simpa using q),if_pos h,if_pos q]
 ·rw[if_pos q,if_neg q]
theorem Cc{s r:Int}(h:e.kind=9\/e.kind=11):iu e s r=if e.I=s then -1 else r:=by
 unfold iu
 by_cases q:e.I=s
 ·rw[if_neg (by simpa using q),if_neg J,if_pos h,if_pos q]
 ·rw[if_pos q,if_neg q]
theorem mB{r:Int}(h:¬(e.kind=5/\e.az=th)):mQ e th r=r:=if_neg h
theorem wt(q:e.az≠th):aG (e::h) th S=aG h th S:=if_pos q
theorem rP:aG (e::h) e.az S=bR e S (aG h e.az S):=if_neg cR
theorem kinds{k:Int}(h:1<=k/\k<=13):k=1\/k=2\/k=3\/k=4\/k=5\/k=6\/k=7\/k=8\/k=9\/k=10\/k=11\/k=12\/k=13:=by omega
theorem UA(H:zk h S)(hm:cX h e T V S):cf (bR e S (aG h e.az S)) (mQ e e.az (kN h e.az)) S:=by
 have d:=H.doc e.az
 have ho:=H.own
 obtain⟨hq,h1,h2⟩:=hm
 obtain⟨k,th,tx,I,v,x,ab⟩:=e
 simp only at d hq h1 h2 ⊢
 have gy:1<=S/\S<=32/\1<=k/\k<=13/\0<=th/\0<=I/\0<=v/\v<=1099511627776/\(k≠3/\k≠8->I<S)/\I<=99/\(k=10->1<=ab/\ab<=6):=by unfold aB at hq;omega
 obtain⟨b1,b2,b3,b4,b5,b6,b7,b8,b9,IY,b11⟩:=gy
 have ox:0<S:=by omega
 have hs:∀s,bo h s=th->s∈dC (aG h th S):=fun s=>(ho s th b5).1
 generalize aG h th S=a at*
 rcases kinds (k:=k) ⟨b3,b4⟩ with rfl|rfl|rfl|rfl|rfl|rfl|rfl|rfl|rfl|rfl|rfl|rfl|rfl
 ·rw[HV,mB cR];exact Zp ⟨b7,b8⟩
 all_goals obtain⟨i2,i3,i4,i5,i6,i7,i8,i9,xQ,DJ,DK,DL⟩:=(h2 ar).2
 ·rw[HW,mB cR];exact Zh d ox ⟨b6,b9 ⟨by decide,by decide⟩⟩ hs (i2 rfl)
 ·rw[HX,mB cR];exact Zi d ox ⟨b6,IY⟩ hs (i3 rfl)
 ·rw[HY,mB cR];exact Zj d ox ⟨b6,b9 ⟨by decide,by decide⟩⟩ hs (i4 rfl)
 ·rw[Dc,show mQ ⟨5,th,tx,I,v,x,ab⟩ th (kN h th)=v from if_pos ⟨rfl,rfl⟩];exact Zk d ox ⟨b6,b9 ⟨by decide,by decide⟩⟩ hs (i5 rfl)
 ·rw[HZ,mB cR];exact Zl d ox ⟨b6,b9 ⟨by decide,by decide⟩⟩ hs (i6 rfl)
 ·rw[xx,mB cR];exact Zm (h:=h) d ox ⟨b6,b9 ⟨by decide,by decide⟩⟩ hs (i7 rfl)
 ·rw[H3,mB cR];exact Zn d ox ⟨b6,IY⟩ hs (i8 rfl)
 ·rw[xy,mB cR];exact Zo (h:=h) d ox ⟨b6,b9 ⟨by decide,by decide⟩⟩ hs (i9 rfl)
 ·rw[mg,mB cR];exact Xs d ox ⟨b6,b9 ⟨by decide,by decide⟩⟩ (b11 rfl) hs (DL rfl)
 ·rw[w7,mB cR];exact Xt (h:=h) d ox ⟨b6,b9 ⟨by decide,by decide⟩⟩ hs (xQ rfl)
 ·rw[GN,mB cR];exact Xu (h:=h) d ox ⟨b6,b9 ⟨by decide,by decide⟩⟩ hs (DJ rfl)
 ·rw[GO,mB cR];exact Xv d ox ⟨b6,b9 ⟨by decide,by decide⟩⟩ hs (DK rfl)
theorem vS{a:bQ}{bm:Int}(d:cf a bm S){x:Int}(h:a.ao[a.ax.length]? =some x):dC a=x::a.ao.drop (a.ax.length+1)/\x ∉ a.ao.drop (a.ax.length+1):=by
 have e:=Mn h
 refine⟨e,fun q=>?_⟩
 have:=(d.lk.drop a.ax.length).nodup
 rw[e] at this
 exact(List.nodup_cons.1 this).1 q
theorem UB(H:zk h S)(hm:cX h e T V S):(∀s th,0<=th->(bo (e::h) s=th↔s∈dC (aG (e::h) th S)))/\∀s, -1<=bo (e::h) s:=by
  have d:=H.doc e.az
  have ho:=H.own
  have hl:=H.low
  obtain⟨hq,h1,h2⟩:=hm
  have gy:1<=e.kind/\e.kind<=13/\0<=e.az:=by unfold aB at hq;omega
  by_cases h4:e.kind=4
  · have hi:((aG h e.az S).last=1\/(aG h e.az S).last=3\/(aG h e.az S).last=4)/\bo h e.I<0:=by
      obtain⟨_,_,i4,_⟩:=(h2 J).2
      have:=i4 h4;unfold Rd at this;omega
    have cL:=d.free J
    have zm:dC (bR e S (aG h e.az S))=dC (aG h e.az S)++[e.I]:=by
      obtain⟨k,th,tx,I,v,x,ab⟩:=e
      simp only at h4 cL;subst h4
      rw[HY];unfold dC;simp only;rw[cL];rfl
    refine⟨fun s th fF=>?_,fun s=>?_⟩
    · show iu e s (bo h s)=th↔_
      rw[GP h4]
      by_cases q:e.az=th
      · subst q
        rw[rP,zm,List.mem_append,List.mem_singleton, ←ho s e.az fF]
        by_cases z:e.I=s
        · rw[if_pos z];exact⟨fun _=>.inr z.symm,fun _=>rfl⟩
        · rw[if_neg z];exact⟨.inl,fun y=>y.resolve_right fun w=>z w.symm⟩
      · rw[wt q, ←ho s th fF]
        by_cases z:e.I=s
        · rw[if_pos z];subst z;constructor
          · exact fun y=>absurd y q
          · intro y;omega
        · rw[if_neg z]
    · show -1<=iu e s (bo h s)
      rw[GP h4];split
      · omega
      · exact hl s
  · by_cases h9:e.kind=9\/e.kind=11
    · have hi:(aG h e.az S).ao[(aG h e.az S).ax.length]? =some e.I:=by
        obtain⟨_,_,_,_,_,_,_,i9,xQ,_⟩:=(h2 J).2
        rcases h9 with q|q
        · exact(i9 q).2
        · exact(xQ q).2
      obtain⟨e1,e2⟩:=vS d hi
      have zm:dC (bR e S (aG h e.az S))=(aG h e.az S).ao.drop ((aG h e.az S).ax.length+1):=by
        obtain⟨k,th,tx,I,v,x,ab⟩:=e
        simp only at h9
        rcases h9 with rfl|rfl
        · rw[xy];unfold dC;simp only;rw[List.length_append];rfl
        · rw[w7];unfold dC;simp only;rw[List.length_append];rfl
      have aaT:bo h e.I=e.az:=(ho _ _ gy.2.2).2 (by rw[e1];exact .head _)
      refine⟨fun s th fF=>?_,fun s=>?_⟩
      · show iu e s (bo h s)=th↔_
        rw[Cc h9]
        by_cases q:e.az=th
        · subst q
          rw[rP,zm]
          have h3:=ho s e.az fF
          rw[e1,List.mem_cons] at h3
          by_cases z:e.I=s
          · rw[if_pos z];subst z;exact⟨fun y=>by omega,fun y=>absurd y e2⟩
          · rw[if_neg z,h3];exact⟨fun y=>y.resolve_left fun w=>z w.symm,.inr⟩
        · rw[wt q, ←ho s th fF]
          by_cases z:e.I=s
          · rw[if_pos z];subst z;constructor
            · intro y;omega
            · intro y;rw[aaT] at y;exact absurd y q
          · rw[if_neg z]
      · show -1<=iu e s (bo h s)
        rw[Cc h9];split
        · omega
        · exact hl s
    · have hn :e.kind≠4/\e.kind≠9/\e.kind≠11:=by omega
      refine⟨fun s th fF=>?_,fun s=>?_⟩
      · show iu e s (bo h s)=th↔_
        rw[Bx hn,ho s th fF]
        by_cases q:e.az=th
        · subst q
          have zm:dC (bR e S (aG h e.az S))=dC (aG h e.az S):=by
            by_cases h0:e.kind=1
            · rw[Tb d (h1 h0).1]
              obtain⟨k,th,tx,I,v,x,ab⟩:=e
              simp only at h0;subst h0
              rw[HV];rfl
            · obtain⟨k,th,tx,I,v,x,ab⟩:=e
              simp only at h0 hn gy ⊢
              have hk:k=2\/k=3\/k=5\/k=6\/k=7\/k=8\/k=10\/k=12\/k=13:=by omega
              rcases hk with rfl|rfl|rfl|rfl|rfl|rfl|rfl|rfl|rfl
              · rw[HW];rfl
              · rw[HX];rfl
              · rw[Dc];rfl
              · rw[HZ];rfl
              · rw[xx];rfl
              · rw[H3];rfl
              · rw[mg];rfl
              · rw[GN];rfl
              · rw[GO];rfl
          rw[rP,zm]
        · rw[wt q]
      · show -1<=iu e s (bo h s)
        rw[Bx hn];exact hl s
theorem Fh:∀{h:List Ev} {T V S:Int},Valid h T V S->zk h S
  |[],_,_,_,_=>⟨fun _=>Uw,fun s th fF=>⟨fun q=>absurd (show(-1:Int)=th from q) J,fun q=>by cases q⟩,fun _=>Int.le_refl (-1)⟩
  | e::h,T,V,S,hv=>by
    have H:=Fh hv.1
    obtain⟨o1,o2⟩:=UB H hv.2
    refine⟨fun th=>?_,o1,o2⟩
    show cf _ (mQ e th (kN h th)) S
    by_cases q:e.az=th
    · subst q;rw[rP];exact UA H hv.2
    · rw[wt q,mB (fun z=>q z.2)];exact H.doc th
end xz
end
