import Derived.Test.YtgnieaajkdangaaDoorAtGN
import Derived.Test.YtgnieaajkdangaaDoorAtGH
import Derived.Shelf.Spec.TrailingZeros
import Derived.Test.YtgnieaajkdangaaDoorProg
import Derived.Test.YtgnieaajkdangaaDoorAtGJ
import Derived.Test.YtgnieaajkdangaaDoorRnGF
import Derived.Test.YtgnieaajkdangaaDoorAtGM
import Derived.Test.YtgnieaajkdangaaDoorRnGG
set_option maxRecDepth 100000
set_option maxHeartbeats 8000000
set_option linter.unusedSimpArgs false
section
open Go Go.Rn Go.RowKit Go.Proofs
namespace PQ
open cd cj cv cD cH cI cN fy fm fA Ic sG
open kz (cO rB)
variable {B:aZ} {V S T:Int} {v':AV} {W:List (List Int)}
theorem Ym(mc:Mc (sp []) 6 B){nm o len:Nat}(dT:top<=nm)(H:Sm B eN v' (jE (dK 0 (.ae nm o len) len 0)) (aM (dt (List.replicate 0 [])) 277)):bw B 11 (max Tryd.f11.ntmps 1) eN [(.agg [(.int .i64 (.ofNat 0)),(.int .i64 V),(.int .i64 S),(.ae nm o len)])] v':=by
 exact wC mc (C:=CA 0 (.ae nm o len) len 0 (List.replicate 0 [])) m7 900 (.st 9 (.rn [(3,(.slice (some (271,0)) (0) (.known 0))),(13,(.ae nm o len)),(14,(.int .i64 ((len:Int)))),(15,(.int .i64 (.ofNat 0)))] [(271,(some (.cells 0 .nil [(.slice none 0 (.known 0))])))] (dK 0 (.ae nm o len) len 0) (dt (List.replicate 0 [])) 272 277 .no)) (rC 0 (.ae nm o len) (List.replicate 0 []) 0 len 272 uq)
theorem Yn(mc:Mc (sp []) 6 B){nm o len:Nat}(dT:top<=nm)(H:Sm B eN v' (jE (dK 1 (.ae nm o len) len 0)) (aM (dt (List.replicate 1 [])) 277)):bw B 11 (max Tryd.f11.ntmps 1) eN [(.agg [(.int .i64 (.ofNat 1)),(.int .i64 V),(.int .i64 S),(.ae nm o len)])] v':=by
 exact wC mc (C:=CA 1 (.ae nm o len) len 0 (List.replicate 1 [])) m7 900 (.st 9 (.rn [(3,(.slice (some (271,0)) (1) (.known 1))),(13,(.ae nm o len)),(14,(.int .i64 ((len:Int)))),(15,(.int .i64 (.ofNat 0)))] [(271,(some (.cells 1 .nil [(.slice none 0 (.known 0))])))] (dK 1 (.ae nm o len) len 0) (dt (List.replicate 1 [])) 272 277 .no)) (rC 1 (.ae nm o len) (List.replicate 1 []) 0 len 272 uq)
theorem Yo(mc:Mc (sp []) 6 B){nm o len:Nat}(dT:top<=nm)(H:Sm B eN v' (jE (dK 2 (.ae nm o len) len 0)) (aM (dt (List.replicate 2 [])) 277)):bw B 11 (max Tryd.f11.ntmps 1) eN [(.agg [(.int .i64 (.ofNat 2)),(.int .i64 V),(.int .i64 S),(.ae nm o len)])] v':=by
 exact wC mc (C:=CA 2 (.ae nm o len) len 0 (List.replicate 2 [])) m7 900 (.st 9 (.rn [(3,(.slice (some (271,0)) (2) (.known 2))),(13,(.ae nm o len)),(14,(.int .i64 ((len:Int)))),(15,(.int .i64 (.ofNat 0)))] [(271,(some (.cells 2 .nil [(.slice none 0 (.known 0))])))] (dK 2 (.ae nm o len) len 0) (dt (List.replicate 2 [])) 272 277 .no)) (rC 2 (.ae nm o len) (List.replicate 2 []) 0 len 272 uq)
theorem Yp(mc:Mc (sp []) 6 B){nm o len:Nat}(dT:top<=nm)(H:Sm B eN v' (jE (dK 3 (.ae nm o len) len 0)) (aM (dt (List.replicate 3 [])) 277)):bw B 11 (max Tryd.f11.ntmps 1) eN [(.agg [(.int .i64 (.ofNat 3)),(.int .i64 V),(.int .i64 S),(.ae nm o len)])] v':=by
 exact wC mc (C:=CA 3 (.ae nm o len) len 0 (List.replicate 3 [])) m7 900 (.st 9 (.rn [(3,(.slice (some (271,0)) (3) (.known 3))),(13,(.ae nm o len)),(14,(.int .i64 ((len:Int)))),(15,(.int .i64 (.ofNat 0)))] [(271,(some (.cells 3 .nil [(.slice none 0 (.known 0))])))] (dK 3 (.ae nm o len) len 0) (dt (List.replicate 3 [])) 272 277 .no)) (rC 3 (.ae nm o len) (List.replicate 3 []) 0 len 272 uq)
theorem Yq(mc:Mc (sp []) 6 B){nm o len:Nat}(dT:top<=nm)(H:Sm B eN v' (jE (dK 4 (.ae nm o len) len 0)) (aM (dt (List.replicate 4 [])) 277)):bw B 11 (max Tryd.f11.ntmps 1) eN [(.agg [(.int .i64 (.ofNat 4)),(.int .i64 V),(.int .i64 S),(.ae nm o len)])] v':=by
 exact wC mc (C:=CA 4 (.ae nm o len) len 0 (List.replicate 4 [])) m7 900 (.st 9 (.rn [(3,(.slice (some (271,0)) (4) (.known 4))),(13,(.ae nm o len)),(14,(.int .i64 ((len:Int)))),(15,(.int .i64 (.ofNat 0)))] [(271,(some (.cells 4 .nil [(.slice none 0 (.known 0))])))] (dK 4 (.ae nm o len) len 0) (dt (List.replicate 4 [])) 272 277 .no)) (rC 4 (.ae nm o len) (List.replicate 4 []) 0 len 272 uq)
theorem Yr(mc:Mc (sp []) 6 B){nm o len:Nat}(dT:top<=nm)(H:Sm B eN v' (jE (dK 5 (.ae nm o len) len 0)) (aM (dt (List.replicate 5 [])) 277)):bw B 11 (max Tryd.f11.ntmps 1) eN [(.agg [(.int .i64 (.ofNat 5)),(.int .i64 V),(.int .i64 S),(.ae nm o len)])] v':=by
 exact wC mc (C:=CA 5 (.ae nm o len) len 0 (List.replicate 5 [])) m7 900 (.st 9 (.rn [(3,(.slice (some (271,0)) (5) (.known 5))),(13,(.ae nm o len)),(14,(.int .i64 ((len:Int)))),(15,(.int .i64 (.ofNat 0)))] [(271,(some (.cells 5 .nil [(.slice none 0 (.known 0))])))] (dK 5 (.ae nm o len) len 0) (dt (List.replicate 5 [])) 272 277 .no)) (rC 5 (.ae nm o len) (List.replicate 5 []) 0 len 272 uq)
theorem Ys(mc:Mc (sp []) 6 B){nm o len:Nat}(dT:top<=nm)(H:Sm B eN v' (jE (dK 6 (.ae nm o len) len 0)) (aM (dt (List.replicate 6 [])) 277)):bw B 11 (max Tryd.f11.ntmps 1) eN [(.agg [(.int .i64 (.ofNat 6)),(.int .i64 V),(.int .i64 S),(.ae nm o len)])] v':=by
 exact wC mc (C:=CA 6 (.ae nm o len) len 0 (List.replicate 6 [])) m7 900 (.st 9 (.rn [(3,(.slice (some (271,0)) (6) (.known 6))),(13,(.ae nm o len)),(14,(.int .i64 ((len:Int)))),(15,(.int .i64 (.ofNat 0)))] [(271,(some (.cells 6 .nil [(.slice none 0 (.known 0))])))] (dK 6 (.ae nm o len) len 0) (dt (List.replicate 6 [])) 272 277 .no)) (rC 6 (.ae nm o len) (List.replicate 6 []) 0 len 272 uq)
theorem Yt(mc:Mc (sp []) 6 B){nm o len:Nat}(dT:top<=nm)(hT:T<0)(H:Sm B eN v' (jE (dK 0 (.ae nm o len) len 0)) (aM (dt (List.replicate 0 [])) 277)):bw B 11 (max Tryd.f11.ntmps 1) eN [(.agg (bK T V S nm o len))] v':=by
 exact wC mc (C:=CA 0 (.ae nm o len) len 0 (List.replicate 0 [])) m7 900 (gC 3 2 (.vl (.int .i64 (.ofNat 0)) (gK 3 5 (.rn [(3,(.slice (some (271,0)) (0) (.known 0))),(13,(.ae nm o len)),(14,(.int .i64 ((len:Int)))),(15,(.int .i64 (.ofNat 0)))] [(271,(some (.cells 0 .nil [(.slice none 0 (.known 0))])))] (dK 0 (.ae nm o len) len 0) (dt (List.replicate 0 [])) 272 277 .no)))) (ai (congrArg (AV.int .i64) (show(match decide ((0:Int)>T) with|true=>(0:Int)|false=>T)=0 from by rw[decide_eq_true (show(0:Int)>T by omega)]))
(rC 0 (.ae nm o len) (List.replicate 0 []) 0 len 272 (IQ (fun r h=>aJ.ae (h nm dT) h) J ar (low 272) rfl)))
theorem Yu(mc:Mc (sp []) 6 B){nm o len:Nat}(dT:top<=nm)(hT:6<T)(H:Sm B eN v' (jE (dK 6 (.ae nm o len) len 0)) (aM (dt (List.replicate 6 [])) 277)):bw B 11 (max Tryd.f11.ntmps 1) eN [(.agg (bK T V S nm o len))] v':=by
 exact wC mc (C:=CA 6 (.ae nm o len) len 0 (List.replicate 6 [])) m7 900 (gC 3 2 (.vl (.int .i64 T) (.vl (.int .i64 (.ofNat 6)) (gK 2 5 (.rn [(3,(.slice (some (271,0)) (6) (.known 6))),(13,(.ae nm o len)),(14,(.int .i64 ((len:Int)))),(15,(.int .i64 (.ofNat 0)))] [(271,(some (.cells 6 .nil [(.slice none 0 (.known 0))])))] (dK 6 (.ae nm o len) len 0) (dt (List.replicate 6 [])) 272 277 .no))))) (ai (congrArg (AV.int .i64) (show(match decide ((0:Int)>T) with|true=>(0:Int)|false=>T)=T from by rw[decide_eq_false (show ¬((0:Int)>T) by omega)]))
(ai (congrArg (AV.int .i64) (show(match decide ((6:Int)<T) with|true=>(6:Int)|false=>T)=6 from by rw[decide_eq_true (show(6:Int)<T by omega)]))
(rC 6 (.ae nm o len) (List.replicate 6 []) 0 len 272 (IQ (fun r h=>aJ.ae (h nm dT) h) J ar (low 272) rfl))))
noncomputable def Aa(nT:Nat):AF:=⟨11,eS [(2,.slice (some (270,0)) nT (.known nT))],71,[.code (aO Tryd.prog 11 [1,1,1,1])],[],none⟩
noncomputable def Ab(W:List (List Int)):AF:=⟨11,eS [(2,aL cO W)],71,[.code (aO Tryd.prog 11 [1,1,1,1])],[],none⟩
def AQ(b:Nat):List (List Int)->iW
 |[]=>[]
 |[]::A=>AQ (b+1) A
 |(x::l)::A=>(b,nm ((x::l).map aK).flatten,((x::l).map aK).flatten)::AQ (b+1) A
theorem BP:∀{A:List (List Int)} {b:Nat} {p:Nat×Nat×List AV},p∈AQ b A->∃k x l,A[k]? =some (x::l)/\p=(b+k,nm ((x::l).map aK).flatten,((x::l).map aK).flatten)
  |[],_,_,h=>(by cases h)
  | []::A,b,p,h=>by
    obtain⟨k,x,l,h1,h2⟩:=BP (A:=A) (b:=b+1) h
    exact⟨k+1,x,l,h1,by rw[h2,show b+1+k=b+(k+1) by omega]⟩
  | (y::m)::A,b,p,h=>by
    rcases List.mem_cons.1 h with q|q
    · exact⟨0,y,m,rfl,q⟩
    · obtain⟨k,x,l,h1,h2⟩:=BP (A:=A) (b:=b+1) q
      exact⟨k+1,x,l,h1,by rw[h2,show b+1+k=b+(k+1) by omega]⟩
theorem Fu{fz:iW}{r:Nat->Nat}(hr:∀k,top<=k->r k=k):∀{A:List (List Int)} {b:Nat},(∀p∈AQ b A,p∈fz)->kC fz r (fp b A) (A.map fun l=>aL aK l)
 |[],_,_=>trivial
 |[]::A,b,h=>⟨l4,Fu hr (A:=A) (b:=b+1) h⟩
 |(x::l)::A,b,h=>⟨jI (h _ (.head _)) hr rfl,Fu hr (A:=A) (b:=b+1) fun p hp=>h p (.tail _ hp)⟩
theorem UW(A:List (List Int)):(A.map cO).flatten=A.map fun l=>aL aK l:=by
 induction A with
 |nil=>rfl
 |cons a A ih=>rw[List.map_cons,List.flatten_cons,ih];rfl
theorem MN:∀A:List (List Int),(A.map fun l=>aL aK l).all AV.ct=true
 |[]=>rfl
 |a::A=>by rw[List.map_cons,List.all_cons,MN A];rfl
theorem Z4(A:List (List Int))(nT:Nat)(hA:A.length<=6)(h6:∀l∈A,l.length<=6):fC FU 270 277 [(2,.slice (some (270,0)) nT (.known nT))] (dt A) [(2,.slice (some (270,0)) nT (.known nT))] [(270,some (aD cO A))] 271:=by
 refine⟨AQ 271 A,jd 271 277,fun k hk=>l5 J,fun k h1 h2=>wx h1 h2 (low 277),fun k hk=>nF hk,by unfold top;decide,fun p hp=>?_,fun p hp=>?_,fun p hp q hq _ _ _=>?_,fun p hp=>?_,fun p hp q hq _=>?_⟩
 ·rw[List.mem_singleton] at hp;subst hp
  exact⟨low 2,_,List.mem_singleton.2 rfl,(aJ.slice (l5 ar)).z⟩
 ·rw[List.mem_singleton] at hp;subst hp
  refine⟨low 270,fun y hy=>?_⟩
  injection hy with hy;subst hy
  have e6:jd 271 277 270=270:=l5 ar
  refine⟨by show jd 271 277 270<top;rw[e6];exact low 270,rfl,aD ki (fp 271 A),by show(jd 271 277 270,_)∈_;rw[e6];exact .head _,fun h=>h,?_⟩
  unfold aD
  rw[Cx,UW]
  exact iH.cells C5 (Fu (fun k hk=>nF hk) fun p hp=>hp) (MN A)
 ·rw[List.mem_singleton] at hp hq;rw[hp,hq]
 ·obtain⟨k,x,l,h1,rfl⟩:=BP hp
  have hk:k<6:=by have:=(List.getElem?_eq_some_iff.1 h1).1;omega
  have hl:=h6 _ (List.mem_of_getElem? h1)
  refine rO eI (l:=x::l) dW (271+k) dW ?_
  have:=Ge (A:=A) hk
  rw[show A.getD k []=x::l by rw[List.getD_eq_getElem?_getD,h1];rfl] at this
  exact this
 ·obtain⟨k,x,l,h1,rfl⟩:=BP hp
  rw[List.mem_singleton] at hq;subst hq
  show jd 271 277 270≠271+k
  rw[l5 ar];omega
theorem rnF(A:List (List Int))(nT:Nat)(hA:A.length<=6)(h6:∀l∈A,l.length<=6)(C:bz)(h:C (Aa nT) (aM [(270,some (aD cO A))] 271) .no):([(2,AV.slice (some (270,0)) nT (.known nT))].map (fun q=>some q.2)=[(2,AV.slice (some (270,0)) nT (.known nT))].map (fun q=>some q.2))/\((dt A).map (fun q=>q.2)=(dt A).map (fun q=>q.2))/\fC FU 270 277 [(2,.slice (some (270,0)) nT (.known nT))] (dt A) [(2,.slice (some (270,0)) nT (.known nT))] [(270,some (aD cO A))] 271/\C (Aa nT) (aM [(270,some (aD cO A))] 271) .no:=⟨rfl,rfl,Z4 A nT hA h6,h⟩
theorem rnG(W:List (List Int))(hW:W.length<=6)(C:bz)(h:C (Ab W) (aM [] 270) .no):([(2,AV.slice (some (270,0)) W.length (.known W.length))].map (fun q=>some q.2)=[(2,AV.slice (some (270,0)) W.length (.known W.length))].map (fun q=>some q.2))/\([(270,some (aD cO W))].map (fun q=>q.2)=[(270,some (aD cO W))].map (fun q=>q.2))/\fC FU 270 271 [(2,.slice (some (270,0)) W.length (.known W.length))] [(270,some (aD cO W))] [(2,aL cO W)] [] 270/\C (Ab W) (aM [] 270) .no:=by
 refine⟨rfl,rfl,⟨[(270,nm (W.map cO).flatten,(W.map cO).flatten)],uJ 271,fun k hk=>if_pos (.inl hk),fun k h1 h2=>?_,fun k hk=>yv hk,by unfold top;decide,fun p hp=>?_,fun p hp=>(by cases hp),fun p hp=>(by cases hp),fun p hp=>?_,fun p hp q hq=>(by cases hq)⟩,h⟩
 ·unfold uJ;rw[if_neg J];unfold top at*;omega
 ·rw[List.mem_singleton] at hp;subst hp
  exact⟨low 2,_,List.mem_singleton.2 rfl,jI (List.mem_singleton.2 rfl) (fun k hk=>yv hk) (bH.2 (Nat.le_refl _))⟩
 ·rw[List.mem_singleton] at hp;subst hp
  exact rO rB dW 270 (low 270) (List.mem_singleton.2 rfl)
theorem abt(mc:Mc (sp []) 6 B):Sm B eN (aL cO W) (Ab W) (aM [] 270):=by
 exact wS mc 2000 (.rt 1 .no) (AE (aL cO W))
theorem abu(mc:Mc (sp []) 6 B)(hW:W.length<=6):Sm B eN (aL cO W) (Aa W.length) (aM [(270,some (aD cO W))] 271):=by
 exact wC mc (C:=(fun fr s1 _=>fr=Ab W/\s1=aM [] 270)) (fun fr s1 p hC=>by obtain⟨rfl,rfl⟩:=hC;exact abt mc) 2000 (.rn [(2,.slice (some (270,0)) W.length (.known W.length))] [(270,some (aD cO W))] [(2,aL cO W)] [] 271 270 .no) (rnG W hW (fun fr s1 _=>fr=Ab W/\s1=aM [] 270) ⟨rfl,rfl⟩)
theorem abv(mc:Mc (sp []) 6 B)(nm o len nT:Nat)(i:Int)(A:List (List Int))(hA:A.length<=6)(hAn:A.length=nT)(h6:∀l∈A,l.length<=6)(hi:¬(i<(len:Int))):Sm B eN (aL cO A) (jE (dK nT (.ae nm o len) len i)) (aM (dt A) 277):=by
 exact wC mc (C:=(fun fr s1 _=>fr=Aa nT/\s1=aM [(270,some (aD cO A))] 271)) (fun fr s1 p hC=>by obtain⟨rfl,rfl⟩:=hC;rw[←hAn];exact abu mc hA) 2000 (gJ 1 (.fk .no (gL 5 (.rn [(2,(.slice (some (270,0)) nT (.known nT)))] (dt A) [(2,.slice (some (270,0)) nT (.known nT))] [(270,some (aD cO A))] 277 271 .no)))) (U (i<(len:Int)) aA (fun _=>rnF A nT hA h6 (fun fr s1 _=>fr=Aa nT/\s1=aM [(270,some (aD cO A))] 271) ⟨rfl,rfl⟩))
theorem Wj(n:Int):∀l:List Ev,pQ n l=kz.dz l.reverse n:=by
  have key:∀h:List Ev,pQ n h.reverse=kz.dz h n:=by
    intro h
    induction h with
    |nil=>rfl
    | cons e h ih=>
      rw[List.reverse_cons,El,ih]
      show j8 n (kz.dz h n) e=kz.DQ e n (kz.dz h n)
      unfold j8 kz.DQ
      by_cases q:e.kind=1/\e.az=n/\0<=e.tx/\e.tx<6
      · rw[if_pos q,if_pos ⟨q.1,q.2.1,q.2.2.1,by omega⟩];rfl
      · rw[if_neg q,if_neg (fun z=>q ⟨z.1,z.2.1,z.2.2.1,by omega⟩)]
  intro l
  have:=key l.reverse
  rwa[List.reverse_reverse] at this
theorem So(l:List Ev)(T:Int):sG.cE (min T.toNat 6) l=kz.cE l T:=by
 unfold sG.cE kz.cE
 exact List.map_congr_left fun n _=>Wj _ _
theorem Yv(mc:Mc (sp []) 6 B){n o len:Nat}{l:List Ev}(h:bt aN 7 (.ae n o len) l)(hlen:len<=999):bw B 11 (max Tryd.f11.ntmps 1) eN [.agg [.int .i64 T,.int .i64 V,.int .i64 S,.ae n o len]] (aL cO (kz.cE l T)):=by
 obtain⟨dS,hn,cF⟩:=h.len
 rw[←So]
 have go:∀nT:Nat,nT<=6->Sm B eN (aL cO (sG.cE nT l)) (jE (dK nT (.ae n o len) len 0)) (aM (dt (List.replicate nT [])) 277):=by
  intro nT hT
  have hb:∀x∈sG.cE nT l,x.length<=6:=fun x hx=>(Kv hx).1
  have hA:(sG.cE nT l).length=nT:=yf
  have ex:=abv mc n o len nT (len:Int) (sG.cE nT l) J hA hb J
  have:=rounds mc (nm:=n) (o:=o) (nT:=nT) dS J hn hT ex cF len 0 J
  rw[List.take_zero,Sk] at this
  exact this
 by_cases q1:T<0
 ·rw[show min T.toNat 6=0 by omega]
  exact Yt mc hn q1 (go 0 J)
 ·by_cases q2:6<T
  ·rw[show min T.toNat 6=6 by omega]
   exact Yu mc hn q2 (go 6 J)
  ·have hT:T=0\/T=1\/T=2\/T=3\/T=4\/T=5\/T=6:=by omega
   rcases hT with rfl|rfl|rfl|rfl|rfl|rfl|rfl
   ·exact Ym mc hn (go 0 J)
   ·exact Yn mc hn (go 1 J)
   ·exact Yo mc hn (go 2 J)
   ·exact Yp mc hn (go 3 J)
   ·exact Yq mc hn (go 4 J)
   ·exact Yr mc hn (go 5 J)
   ·exact Ys mc hn (go 6 J)
theorem FZ(hP:fa Tryd.prog){L:gn}(h:cC Tryd.prog FU (sp L)):cC Tryd.prog FU (sp (zZ.Ib::L)):=by
 refine fJ.add hP h fJ.gr Tryd.func11 (fQ Tryd.func11 bx) bx fun args v e=>?_
 obtain⟨n,o,len,l,T,V,S,rfl,a,b,c,rfl⟩:=je e
 exact⟨bH.1 bx,fun B hB hc hl=>Yv ⟨hB,hc,hl⟩ a c⟩
end PQ
end
section
namespace Go.Proofs
open Go.Shelf
def Tryd.Sq:Go.Shelf.Ren:=⟨fun|28=>65|n=>n,fun|0=>0|3=>3|4=>4|5=>5|25=>85|27=>75|53=>113|n=>n,fun|0=>1|n=>n⟩
theorem Tryd.Yw:Go.Proofs.Lays7.n28 Tryd.prog Tryd.Sq:={
 mixed:=by kernel_rfl
 f28:=Tryd.func65.trans (congrArg some (by kernel_rfl))
 t0:=Tryd.underlying0
 a0:=Tryd.isAgg0
 z0:=Tryd.sizeOf0
 v0:=Tryd.zeroValue0
 i0:=by kernel_rfl
 t3:=Tryd.underlying3
 a3:=Tryd.isAgg3
 z3:=Tryd.sizeOf3
 v3:=Tryd.zeroValue3
 i3:=by kernel_rfl
 t4:=Tryd.underlying4
 a4:=Tryd.isAgg4
 z4:=Tryd.sizeOf4
 v4:=Tryd.zeroValue4
 i4:=by kernel_rfl
 t5:=Tryd.underlying5
 a5:=Tryd.isAgg5
 z5:=Tryd.sizeOf5
 v5:=Tryd.zeroValue5
 i5:=by kernel_rfl
 t25:=Tryd.underlying85
 a25:=Tryd.isAgg85
 z25:=Tryd.sizeOf85
 v25:=Tryd.zeroValue85
 i25:=by kernel_rfl
 t27:=Tryd.underlying75
 a27:=Tryd.isAgg75
 z27:=Tryd.sizeOf75
 v27:=Tryd.zeroValue75
 i27:=by kernel_rfl
 t53:=Tryd.underlying113
 a53:=Tryd.isAgg113
 z53:=Tryd.sizeOf113
 v53:=Tryd.zeroValue113
 i53:=by kernel_rfl
 g0:=by kernel_rfl}
end Go.Proofs
end
section
open Go Go.Rn Go.RowKit Go.Proofs
namespace PR
open cd cj eW
theorem Wk{P:Program}{B:aZ}{f aI g:Nat}{ns:List Nat}{h0:Tr aE}{fn:Func}{body:Code}{ρ:Rn.Ren}{w:World}{s s1:AS}{Jg:Go.Shelf.Ren}(L:Go.Proofs.Lays7.n28 P Jg)(DO:Jg.f 28=f)(hLg:Jg.g 0=g)(ga:P.funcs[f]? =some fn)(gP:fn.body=some body)(ir:(fn.name == "runtime.NumGoroutine")=false)(QB:g<fb)(h0g:h0.get g=some (.ro 32 Rn.O7))(hgn:g∈ns){call:bf}{args:List AV}{x:AV}{vs:Array Value}(r:Rel B ρ s.h w)(hg:iJ ρ)(h:l7 aI ns h0 AH call args s= .ok x s1)(hv:aQ ρ args vs.toList):kL P ((callFunc f vs).run P w) (lN B ρ s s1 w x):=by
  unfold l7 at h
  obtain⟨DD,h1⟩:=dY h
  obtain⟨u,s2,h2,h3⟩:=M.bG h1
  obtain⟨v,h4,h5⟩:=ch h3
  obtain⟨h6,h7⟩:=dY h5
  obtain⟨rfl,rfl⟩:=bW h7
  obtain⟨a1,a2,a3⟩:=Ea h2
  unfold AH at h4
  split at h4
  · rename_i z
    by_cases hz:0<=z/\z<4294967296
    · rw [if_pos hz] at h4
      injection h4 with h4
      subst h4
      obtain⟨vs⟩:=vs
      have hvs:vs=[.int .u32 z]:=by
        match vs,hv with
        | [v],hv=>
          simp only[aQ,VR] at hv
          obtain⟨v',l',e1,e2,e3⟩:=hv
          simp_all
        |[],hv=>simp[aQ,VR] at hv
        | _::_::_,hv=>
          simp only[aQ,VR] at hv
          obtain⟨v',l',e1,e2,e3⟩:=hv
          simp_all
      subst hvs
      rw[JE ga gP ir]
      obtain⟨hs,o,p,c2,c3,c4⟩:=a3 g hgn
      rw[h0g] at c3;cases c3
      obtain⟨b,N,o',i1,i2,i3,_⟩:=r.is g o (Nat.lt_trans QB (by unfold fb top;decide)) c2
      obtain⟨N',hN⟩:=hg g QB
      rw[hN] at i1
      injection i1 with i1
      injection i1 with i1 i1'
      subst i1
      obtain⟨_,c,e,fr,rfl,lR,hle,cF⟩:=Ke c4 i3
      have hT:Go.Proofs.TabAt g Go.Lib.deBruijn32tab w:=by
        intro j hj
        obtain⟨y,v,g1,_,g3,g4⟩:=cF j hj
        unfold Rn.O7 at g1
        rw[vY _ (by rw[List.length_map];exact Nat.le_trans (show 32<=top by unfold top;decide) (Nat.le_refl _)) j (by rw[List.length_map];exact hj),List.getElem?_map] at g1
        have QC:Go.Lib.deBruijn32tab[j]? =some (Go.Lib.deBruijn32tab[j]'hj):=List.getElem?_eq_getElem hj
        rw[QC] at g1
        injection g1 with g1
        subst g1
        have g5:v= .int .u8 ((Go.Lib.deBruijn32tab[j]'hj:Nat):Int):=by simpa only[VR] using g4
        unfold World.cell?
        simp only[i2]
        rw[List.getD_eq_getElem?_getD,QC]
        simp only[Option.isSome_none,Option.getD_some]
        rw[g3,g5]
        rfl
      have hx:(z.toNat:Int)=z:=Int.toNat_of_nonneg hz.1
      have dL:=Go.Proofs.Any7.bits_TrailingZeros32 L z.toNat J w (fun _=>by rw[hLg];exact hT)
      rw[DO,hx] at dL
      refine Calls.mono dL fun e w'=>?_
      rintro ⟨rfl,rfl⟩
      exact⟨_,rfl,ρ,by rw[a2];exact Ext.refl _ _ _,by simp only[VR];rfl,by rw[a1];exact r,cU.refl _ _⟩
    · rw[if_neg hz] at h4;cases h4
  · cases h4
theorem Nx{L:gn}(h:cC Tryd.prog FU (sp L)):cC Tryd.prog FU (sp (I6::L)):=
 (show cC Tryd.prog FU (qX (sp L) 65 (l7 270 eg eD AH)) from h.sK (fun call _ args=>Local.l7 _ _ _ _ call args) fun B hB call hc hl args x s s1 ρ w vs fi r hg hf hm hv=>
  Wk Tryd.Yw rfl rfl Tryd.func65 (fQ Tryd.func65 bx) bx (show 1<fb by unfold fb;decide) bx (by unfold eg;decide) r hg hm hv)
end PR
end
section
open Go Go.Rn Go.RowKit Go.Proofs
namespace Jh
open cd cj cv cD mz cH cI cN fx gk eP pB oo fy fm fA pC kz xX xD
variable {p n m lb la:Nat} {B:aZ}
theorem Ji(b:Bool){v:AV}(h:v= .bool b):AV.bool b=v:=h.symm
theorem wkB(mc:Mc (sp [HF]) 6 B){o:Nat}{eq:Int}{v':AV}(hn:top<=n)(hm:top<=m)(kW:la<=lb->bj (aY (R2 bO 3 jc)) [.ae n o la,.ae m p la]=some (.bool (decide (eq=1))))(hT:la<=lb/\eq=1->v'= .bool true)(hF:¬(la<=lb/\eq=1)->v'= .bool false):bw B 7 (max Tryd.f7.ntmps 2) Qj [(.ae n o la),(.ae m p lb)] v':=by
 exact wS mc 900 (gC 3 4 (.fk (.go 5 (.sf (0:Int) (la:Int) (.kp (eq=1) inferInstance (.go 2 (.en (.rt 1 .no))) (.go 2 (.en (.rt 1 .no)))))) (gF 9 1))) (U ((la:Int)<=(lb:Int)) (fun _=>ai (show(0:Int)=(0:Int) from rfl) (ai (show(la:Int)=(la:Int) from rfl) (ai hm (ai (show(0:Int)<=(0:Int) from J) (ai (show(0:Int)<=(la:Int) from J) (ai (show(la:Int)<=(lb:Int) from J) (ai (kW J) (U (eq=1) (fun _=>Ji true (hT J)) (fun _=>Ji false (hF J)))))))))) (fun _=>Ji false (hF J)))
theorem Wl(mc:Mc (sp [HF]) 6 B){o:Nat}{a b:List Cm}(h1:bt bO 3 (.ae n o la) a)(h2:bt bO 3 (.ae m p lb) b)(h3:la<=1000):bw B 7 (max Tryd.f7.ntmps 2) Qj [.ae n o la,.ae m p lb] (xw a b):=by
 obtain⟨ha,hn,_⟩:=h1.len
 obtain⟨hb,hm,_⟩:=h2.len
 have e:∀{P Q:Prop} [Decidable P] [Decidable Q],(P↔Q)->AV.bool (decide P)=AV.bool (decide Q):=rZ
 have hp:a<+:b↔la<=lb/\a=b.take la:=by
  rw[List.prefix_iff_eq_take,ha]
  constructor
  ·intro q
   refine⟨?_,q⟩
   have:=congrArg List.length q
   rw[List.length_take] at this;omega
  ·exact fun q=>q.2
 refine wkB (eq:=if a=b.take la then 1 else 0) mc hn hm (fun q=>?_) (fun q=>?_) (fun q=>?_)
 ·have h4:=h2.part (Nat.zero_le la) q
  rw[Nat.zero_mul,Nat.add_zero,Nat.sub_zero,List.drop_zero] at h4
  refine(uM jc Bw h1 h4 h3 rfl).trans ?_
  show some (AV.bool (decide (a=b.take la)))=_
  congr 1
  exact e (by split<;>simp_all)
 ·have:a<+:b:=hp.2 ⟨q.1,by have:=q.2;split at this;assumption;omega⟩
  show AV.bool (decide (a<+:b))=_;rw[decide_eq_true this]
 ·have:¬a<+:b:=fun z=>q ⟨(hp.1 z).1,if_pos (hp.1 z).2⟩
  show AV.bool (decide (a<+:b))=_;rw[decide_eq_false this]
noncomputable def Ol:FuncId×(List AV->Option AV):=(7,aY (R2 bO 3 xw))
theorem UX(hP:fa Tryd.prog){L:gn}(h:cC Tryd.prog FU (sp L)):cC Tryd.prog FU (sp (Ol::L)):=by
 refine fJ.add hP h (VD hP fJ.gr) Tryd.func7 (fQ Tryd.func7 bx) bx fun args v e=>?_
 obtain⟨n,o,la,m,p,lb,a,b,rfl,h1,h2,h3,rfl⟩:=je e
 exact⟨bH.1 bx,fun B hB hc hl=>Wl ⟨hB,hc,hl⟩ h1 h2 h3⟩
end Jh
end
section
open Go Go.Rn Go.RowKit Go.Proofs
namespace QD
open cd cj cv cD mz cH cI cN fx gk eP pB oo fy fm fA pC kz xX xD Jh
variable {B:aZ} {n:Nat} {V T S i:Int} {v':AV} {mm:List (Int×Int)} {e:Ev} {W:List Cm}
noncomputable def kS(n o len:Nat)(T V S i:Int)(mm:List (Int×Int)):Fm:=⟨4,[(3,(.slice none 0 (.known 0))),(4,(.map (some 271))),(9,(.ae n o len)),(10,(.int .i64 ((len:Int)))),(11,(.int .i64 i))],40,[.code (aO Tryd.prog 4 [1,1,1,0,1,0,0]),.inLoop (aO Tryd.prog 4 [1,1,1,0,1,0,0]),.inBlock 0,.code (aO Tryd.prog 4 [1,1,1,1])],[(270,some (.cells 4 (Tr.fill (bK T V S n o len) 0 .nil) [])),(271,(some (eL mm)))],272⟩
noncomputable def iR(n o len:Nat)(T V S i:Int)(mm:List (Int×Int))(W:List Cm):Fm:=⟨4,[(3,(.slice (some (272,0)) W.length (.aX W.length 3))),(4,(.map (some 271))),(9,(.ae n o len)),(10,(.int .i64 ((len:Int)))),(11,(.int .i64 i))],40,[.code (aO Tryd.prog 4 [1,1,1,0,1,0,0]),.inLoop (aO Tryd.prog 4 [1,1,1,0,1,0,0]),.inBlock 0,.code (aO Tryd.prog 4 [1,1,1,1])],[(270,some (.cells 4 (Tr.fill (bK T V S n o len) 0 .nil) [])),(271,(some (eL mm))),(272,(some (aD bO W)))],273⟩
theorem Yx(n o len:Nat)(T V S i:Int)(mm:List (Int×Int))(e:Ev)(hn:top<=n)(C:bz)(h:FH C (kS n o len T V S (i+1) (fW mm e.az e.tx))):FW 273 [(3,(.slice none 0 (.known 0))),(4,(.map (some 271))),(9,(.ae n o len)),(10,(.int .i64 ((len:Int)))),(11,(.int .i64 ((i+1))))] [(270,some (.cells 4 (Tr.fill (bK T V S n o len) 0 .nil) [])),(271,(some (eL (fW mm e.az e.tx))))] (kS n o len T V S (i+1) (fW mm e.az e.tx)) C:=by
 refine⟨rfl,rfl,iQ (fun k=>k) bx rfl (fun r q r3=>⟨vN,(aJ.map (q 271 rfl)).z,(mK hn r3),vI,vI,trivial⟩) (fun r q r3=>⟨rfl,oS (oT hn r3) rfl rfl (fun h=>h),rfl,oS (c8.eL _).z rfl rfl (fun h=>h),trivial⟩),h⟩
theorem Yy(n o len:Nat)(T V S i:Int)(mm:List (Int×Int))(e:Ev)(hn:top<=n)(C:bz)(h:FH C (iR n o len T V S (i+1) mm ([(⟨e.az,(getM mm e.az),e.v⟩:Cm)]))):FW 275 [(3,(.slice (some (274,0)) (1) (.aX 1 3))),(4,(.map (some 271))),(9,(.ae n o len)),(10,(.int .i64 ((len:Int)))),(11,(.int .i64 ((i+1))))] [(270,some (.cells 4 (Tr.fill (bK T V S n o len) 0 .nil) [])),(271,(some (eL mm))),(274,some (.cells 3 (Tr.fill [(.int .i64 e.az),(.int .i64 ((getM mm e.az))),(.int .i64 e.v)] 0 .nil) []))] (iR n o len T V S (i+1) mm ([(⟨e.az,(getM mm e.az),e.v⟩:Cm)])) C:=by
 refine⟨rfl,rfl,iQ (fun k=>if k=272 then 274 else k) bx rfl (fun r q r3=>⟨(aJ.slice (q 272 rfl)).z,(aJ.map (q 271 rfl)).z,(mK hn r3),vI,vI,trivial⟩) (fun r q r3=>⟨rfl,oS (oT hn r3) rfl rfl (fun h=>h),rfl,oS (c8.eL _).z rfl rfl (fun h=>h),rfl,oS (c8.aD (enc:=bO) (l:=[(⟨e.az,(getM mm e.az),e.v⟩:Cm)]) (fun x=>⟨rfl,rfl⟩) vt).z rfl rfl (fun h=>h),trivial⟩),h⟩
theorem Yz(n o len:Nat)(T V S i:Int)(mm:List (Int×Int))(hn:top<=n)(C:bz)(h:FH C (kS n o len T V S (i+1) mm)):FW 273 [(3,(.slice none 0 (.known 0))),(4,(.map (some 271))),(9,(.ae n o len)),(10,(.int .i64 ((len:Int)))),(11,(.int .i64 ((i+1))))] [(270,some (.cells 4 (Tr.fill (bK T V S n o len) 0 .nil) [])),(271,(some (eL mm)))] (kS n o len T V S (i+1) mm) C:=by
 refine⟨rfl,rfl,iQ (fun k=>k) bx rfl (fun r q r3=>⟨vN,(aJ.map (q 271 rfl)).z,(mK hn r3),vI,vI,trivial⟩) (fun r q r3=>⟨rfl,oS (oT hn r3) rfl rfl (fun h=>h),rfl,oS (c8.eL _).z rfl rfl (fun h=>h),trivial⟩),h⟩
abbrev Cy(n o len:Nat)(T V S i:Int)(mm:List (Int×Int))(e:Ev):bz:=fun fr s1 _=>((e.kind=1)/\FC (kS n o len T V S (i+1) (fW mm e.az e.tx)) fr s1)\/((e.kind=7)/\FC (iR n o len T V S (i+1) mm ([(⟨e.az,(getM mm e.az),e.v⟩:Cm)])) fr s1)\/((e.kind≠1/\e.kind≠7)/\FC (kS n o len T V S (i+1) mm) fr s1)
theorem abw(mc:Mc (sp []) 6 B){o len:Nat}(hn:top<=n)(hlen:len<=1000)(h0:0<=i)(hi:i<(len:Int))(he:bM FU n (o+i.toNat*7) 7=some (aN e))(H0:(e.kind=1)->FSQ B v' lA (kS n o len T V S (i+1) (fW mm e.az e.tx)))(H1:(e.kind=7)->FSQ B v' lA (iR n o len T V S (i+1) mm ([(⟨e.az,(getM mm e.az),e.v⟩:Cm)])))(H2:(e.kind≠1/\e.kind≠7)->FSQ B v' lA (kS n o len T V S (i+1) mm)):FSQ B v' lA (kS n o len T V S i mm):=by
 exact wC mc (C:=(Cy n o len T V S i mm e)) (zN H0 H1 H2) 2000 (gJ 1 (.fk (gE 6 (.bI (.bJ (aN e) (gD 2 4 (.fk (gA 1 1 5 (.mu mm (gE 2 (.vl (.int .i64 (i+1)) (gK 1 1 (fO [(3,(.slice none 0 (.known 0))),(4,(.map (some 271))),(9,(.ae n o len)),(10,(.int .i64 ((len:Int)))),(11,(.int .i64 ((i+1))))] [(270,some (.cells 4 (Tr.fill (bK T V S n o len) 0 .nil) [])),(271,(some (eL (fW mm e.az e.tx))))] (kS n o len T V S (i+1) (fW mm e.az e.tx)) 273)))))) (gD 1 2 (.fk (gA 1 1 6 (.lk mm (gD 6 2 (.vl (.int .i64 (i+1)) (gK 1 1 (fO [(3,(.slice (some (274,0)) (1) (.aX 1 3))),(4,(.map (some 271))),(9,(.ae n o len)),(10,(.int .i64 ((len:Int)))),(11,(.int .i64 ((i+1))))] [(270,some (.cells 4 (Tr.fill (bK T V S n o len) 0 .nil) [])),(271,(some (eL mm))),(274,some (.cells 3 (Tr.fill [(.int .i64 e.az),(.int .i64 ((getM mm e.az))),(.int .i64 e.v)] 0 .nil) []))] (iR n o len T V S (i+1) mm ([(⟨e.az,(getM mm e.az),e.v⟩:Cm)])) 275)))))) (gD 1 4 (.vl (.int .i64 (i+1)) (gK 1 1 (fO [(3,(.slice none 0 (.known 0))),(4,(.map (some 271))),(9,(.ae n o len)),(10,(.int .i64 ((len:Int)))),(11,(.int .i64 ((i+1))))] [(270,some (.cells 4 (Tr.fill (bK T V S n o len) 0 .nil) [])),(271,(some (eL mm)))] (kS n o len T V S (i+1) mm) 273))))))))))) .no)) (U (i<(len:Int)) (fun _=>aV i (len:Int) J J (ai hn (ai (c9 he 0 7 ar) (U (e.kind=1) (fun _=>ai (show some (eL mm)=some (eL mm) from rfl) (ai cS (Yx n o len T V S i mm e hn (Cy n o len T V S i mm e) ((.inl ⟨J,rfl,rfl⟩))))) (fun _=>U (e.kind=7) (fun _=>ai (show some (eL mm)=some (eL mm) from rfl) (ai cS (Yy n o len T V S i mm e hn (Cy n o len T V S i mm e) (.inr ((.inl ⟨J,rfl,rfl⟩)))))) (fun _=>ai cS (Yz n o len T V S i mm hn (Cy n o len T V S i mm e) (.inr (.inr (⟨J,rfl,rfl⟩)))))))))) aA)
theorem YA(n o len:Nat)(T V S i:Int)(mm:List (Int×Int))(e:Ev)(W:List Cm)(hW:W.length<=1000)(hn:top<=n)(C:bz)(h:FH C (iR n o len T V S (i+1) (fW mm e.az e.tx) W)):FW 274 [(3,(.slice (some (272,0)) W.length (.aX W.length 3))),(4,(.map (some 271))),(9,(.ae n o len)),(10,(.int .i64 ((len:Int)))),(11,(.int .i64 ((i+1))))] [(270,some (.cells 4 (Tr.fill (bK T V S n o len) 0 .nil) [])),(271,(some (eL (fW mm e.az e.tx)))),(272,(some (aD bO W)))] (iR n o len T V S (i+1) (fW mm e.az e.tx) W) C:=by
 refine⟨rfl,rfl,iQ (fun k=>k) bx rfl (fun r q r3=>⟨(aJ.slice (q 272 rfl)).z,(aJ.map (q 271 rfl)).z,(mK hn r3),vI,vI,trivial⟩) (fun r q r3=>⟨rfl,oS (oT hn r3) rfl rfl (fun h=>h),rfl,oS (c8.eL _).z rfl rfl (fun h=>h),rfl,oS (c8.aD (enc:=bO) (l:=W) (fun x=>⟨rfl,rfl⟩) vt).z rfl rfl (fun h=>h),trivial⟩),h⟩
theorem YB(n o len:Nat)(T V S i:Int)(mm:List (Int×Int))(e:Ev)(W:List Cm)(hW:W.length<=1000)(hn:top<=n)(C:bz)(h:FH C (iR n o len T V S (i+1) mm (W++[(⟨e.az,(getM mm e.az),e.v⟩:Cm)]))):FW 276 [(3,(.slice (some (275,0)) ((W++[(⟨e.az,(getM mm e.az),e.v⟩:Cm)]).length) (.aX (W++[(⟨e.az,(getM mm e.az),e.v⟩:Cm)]).length 3))),(4,(.map (some 271))),(9,(.ae n o len)),(10,(.int .i64 ((len:Int)))),(11,(.int .i64 ((i+1))))] [(270,some (.cells 4 (Tr.fill (bK T V S n o len) 0 .nil) [])),(271,(some (eL mm))),(275,(some (aD bO (W++[(⟨e.az,(getM mm e.az),e.v⟩:Cm)]))))] (iR n o len T V S (i+1) mm (W++[(⟨e.az,(getM mm e.az),e.v⟩:Cm)])) C:=by
 refine⟨rfl,rfl,iQ (fun k=>if k=272 then 275 else k) bx rfl (fun r q r3=>⟨(aJ.slice (q 272 rfl)).z,(aJ.map (q 271 rfl)).z,(mK hn r3),vI,vI,trivial⟩) (fun r q r3=>⟨rfl,oS (oT hn r3) rfl rfl (fun h=>h),rfl,oS (c8.eL _).z rfl rfl (fun h=>h),rfl,oS (c8.aD (enc:=bO) (l:=(W++[(⟨e.az,(getM mm e.az),e.v⟩:Cm)])) (fun x=>⟨rfl,rfl⟩) vt).z rfl rfl (fun h=>h),trivial⟩),h⟩
theorem YC(n o len:Nat)(T V S i:Int)(mm:List (Int×Int))(W:List Cm)(hW:W.length<=1000)(hn:top<=n)(C:bz)(h:FH C (iR n o len T V S (i+1) mm W)):FW 274 [(3,(.slice (some (272,0)) W.length (.aX W.length 3))),(4,(.map (some 271))),(9,(.ae n o len)),(10,(.int .i64 ((len:Int)))),(11,(.int .i64 ((i+1))))] [(270,some (.cells 4 (Tr.fill (bK T V S n o len) 0 .nil) [])),(271,(some (eL mm))),(272,(some (aD bO W)))] (iR n o len T V S (i+1) mm W) C:=by
 refine⟨rfl,rfl,iQ (fun k=>k) bx rfl (fun r q r3=>⟨(aJ.slice (q 272 rfl)).z,(aJ.map (q 271 rfl)).z,(mK hn r3),vI,vI,trivial⟩) (fun r q r3=>⟨rfl,oS (oT hn r3) rfl rfl (fun h=>h),rfl,oS (c8.eL _).z rfl rfl (fun h=>h),rfl,oS (c8.aD (enc:=bO) (l:=W) (fun x=>⟨rfl,rfl⟩) vt).z rfl rfl (fun h=>h),trivial⟩),h⟩
abbrev Cz(n o len:Nat)(T V S i:Int)(mm:List (Int×Int))(e:Ev)(W:List Cm):bz:=fun fr s1 _=>((e.kind=1)/\FC (iR n o len T V S (i+1) (fW mm e.az e.tx) W) fr s1)\/((e.kind=7)/\FC (iR n o len T V S (i+1) mm (W++[(⟨e.az,(getM mm e.az),e.v⟩:Cm)])) fr s1)\/((e.kind≠1/\e.kind≠7)/\FC (iR n o len T V S (i+1) mm W) fr s1)
theorem abx(mc:Mc (sp []) 6 B){o len:Nat}(hn:top<=n)(hlen:len<=1000)(h0:0<=i)(hi:i<(len:Int))(he:bM FU n (o+i.toNat*7) 7=some (aN e))(hW:W.length<=1000)(H0:(e.kind=1)->FSQ B v' lA (iR n o len T V S (i+1) (fW mm e.az e.tx) W))(H1:(e.kind=7)->FSQ B v' lA (iR n o len T V S (i+1) mm (W++[(⟨e.az,(getM mm e.az),e.v⟩:Cm)])))(H2:(e.kind≠1/\e.kind≠7)->FSQ B v' lA (iR n o len T V S (i+1) mm W)):FSQ B v' lA (iR n o len T V S i mm W):=by
 exact wC mc (C:=(Cz n o len T V S i mm e W)) (zN H0 H1 H2) 2000 (gJ 1 (.fk (gE 6 (.bI (.bJ (aN e) (gD 2 4 (.fk (gA 1 1 5 (.mu mm (gE 2 (.vl (.int .i64 (i+1)) (gK 1 1 (fO [(3,(.slice (some (272,0)) W.length (.aX W.length 3))),(4,(.map (some 271))),(9,(.ae n o len)),(10,(.int .i64 ((len:Int)))),(11,(.int .i64 ((i+1))))] [(270,some (.cells 4 (Tr.fill (bK T V S n o len) 0 .nil) [])),(271,(some (eL (fW mm e.az e.tx)))),(272,(some (aD bO W)))] (iR n o len T V S (i+1) (fW mm e.az e.tx) W) 274)))))) (gD 1 2 (.fk (gA 1 1 6 (.lk mm (.go 4 (.ap Cm bO W (⟨e.az,(getM mm e.az),e.v⟩:Cm) (gD 1 2 (.vl (.int .i64 (i+1)) (gK 1 1 (fO [(3,(.slice (some (275,0)) ((W++[(⟨e.az,(getM mm e.az),e.v⟩:Cm)]).length) (.aX (W++[(⟨e.az,(getM mm e.az),e.v⟩:Cm)]).length 3))),(4,(.map (some 271))),(9,(.ae n o len)),(10,(.int .i64 ((len:Int)))),(11,(.int .i64 ((i+1))))] [(270,some (.cells 4 (Tr.fill (bK T V S n o len) 0 .nil) [])),(271,(some (eL mm))),(275,(some (aD bO (W++[(⟨e.az,(getM mm e.az),e.v⟩:Cm)]))))] (iR n o len T V S (i+1) mm (W++[(⟨e.az,(getM mm e.az),e.v⟩:Cm)])) 276)))))))) (gD 1 4 (.vl (.int .i64 (i+1)) (gK 1 1 (fO [(3,(.slice (some (272,0)) W.length (.aX W.length 3))),(4,(.map (some 271))),(9,(.ae n o len)),(10,(.int .i64 ((len:Int)))),(11,(.int .i64 ((i+1))))] [(270,some (.cells 4 (Tr.fill (bK T V S n o len) 0 .nil) [])),(271,(some (eL mm))),(272,(some (aD bO W)))] (iR n o len T V S (i+1) mm W) 274))))))))))) .no)) (U (i<(len:Int)) (fun _=>aV i (len:Int) J J (ai hn (ai (c9 he 0 7 ar) (U (e.kind=1) (fun _=>ai (show some (eL mm)=some (eL mm) from rfl) (ai cS (YA n o len T V S i mm e W hW hn (Cz n o len T V S i mm e W) ((.inl ⟨J,rfl,rfl⟩))))) (fun _=>U (e.kind=7) (fun _=>ai (show some (eL mm)=some (eL mm) from rfl) (nj bO W (⟨e.az,(getM mm e.az),e.v⟩:Cm) (K:=3) (gO:=24) (fun x=>⟨rfl,rfl⟩) CW CY (ai cS (YB n o len T V S i mm e W hW hn (Cz n o len T V S i mm e W) (.inr ((.inl ⟨J,rfl,rfl⟩))))))) (fun _=>ai cS (YC n o len T V S i mm W hW hn (Cz n o len T V S i mm e W) (.inr (.inr (⟨J,rfl,rfl⟩)))))))))) aA)
noncomputable def uR(W:List Cm):AF:=⟨4,eS [(2,aL bO W)],40,[.code (aO Tryd.prog 4 [1,1,1,1,1])],[],none⟩
theorem aby(bp:Nat)(hs:bp<300):([(2,AV.slice none 0 (.known 0))].map (fun q=>some q.2)=[(2,AV.slice none 0 (.known 0))].map (fun q=>some q.2))/\(([]:List (Nat×Option aE)).map (fun q=>q.2)=([]:List (Nat×Option aE)).map (fun q=>q.2))/\fC FU 270 bp [(2,.slice none 0 (.known 0))] [] [(2,aL bO [])] [] 270/\(uR []=uR []/\aM [] 270=aM [] 270):=
 ⟨rfl,rfl,Gb dW dW,rfl,rfl⟩
theorem abz(N bp:Nat)(W:List Cm)(hN:N<300)(hs:bp<300)(hW:W.length<=1000):([(2,AV.slice (some (N,0)) W.length (.aX W.length 3))].map (fun q=>some q.2)=[(2,AV.slice (some (N,0)) W.length (.aX W.length 3))].map (fun q=>some q.2))/\([(N,some (aD bO W))].map (fun q=>q.2)=[(N,some (aD bO W))].map (fun q=>q.2))/\fC FU 270 bp [(2,.slice (some (N,0)) W.length (.aX W.length 3))] [(N,some (aD bO W))] [(2,aL bO W)] [] 270/\(uR W=uR W/\aM [] 270=aM [] 270):=
 ⟨rfl,rfl,BY eC W dW dW dW dW,rfl,rfl⟩
theorem PS(mc:Mc (sp []) 6 B):Sm B lA (aL bO W) (uR W) (aM [] 270):=by
 exact wS mc 2000 (.rt 1 .no) (AE (aL bO W))
theorem abA(mc:Mc (sp []) 6 B)(n o len:Nat)(T V S i:Int)(mm:List (Int×Int))(hi:¬(i<(len:Int))):FSQ B (aL bO []) lA (kS n o len T V S i mm):=by
 exact wC mc (C:=(fun fr s1 _=>fr=uR []/\s1=aM [] 270)) (fun fr s1 p hC=>by obtain⟨rfl,rfl⟩:=hC;exact PS mc) 2000 (gJ 1 (.fk .no (gL 5 (.rn [(2,(.slice none 0 (.known 0)))] [] [(2,aL bO [])] [] 272 270 .no)))) (U (i<(len:Int)) aA (fun _=>aby 272 J))
theorem abB(mc:Mc (sp []) 6 B)(n o len:Nat)(T V S i:Int)(mm:List (Int×Int))(W:List Cm)(hi:¬(i<(len:Int)))(hW:W.length<=1000):FSQ B (aL bO W) lA (iR n o len T V S i mm W):=by
 exact wC mc (C:=(fun fr s1 _=>fr=uR W/\s1=aM [] 270)) (fun fr s1 p hC=>by obtain⟨rfl,rfl⟩:=hC;exact PS mc) 2000 (gJ 1 (.fk .no (gL 5 (.rn [(2,(.slice (some (272,0)) W.length (.aX W.length 3)))] [(272,some (aD bO W))] [(2,aL bO W)] [] 273 270 .no)))) (U (i<(len:Int)) aA (fun _=>abz 272 273 W J J J))
abbrev PT(n o len:Nat)(T V S:Int):bz:=fun fr s1 _=>(True/\FC (kS n o len T V S 0 ([])) fr s1)
theorem goA(mc:Mc (sp []) 6 B){o len:Nat}(hn:top<=n)(H0:True->FSQ B v' lA (kS n o len T V S 0 ([]))):bw B 4 (max Tryd.f4.ntmps 1) lA [(.agg (bK T V S n o len))] v':=by
 exact wC mc (C:=(PT n o len T V S)) (gj H0) 2000 (.st 11 (iT (kS n o len T V S 0 ([])))) (jB (kS n o len T V S 0 ([])) (PT n o len T V S) (⟨trivial,rfl,rfl⟩))
theorem Wm(m:List (Int×Int))(k v th:Int):getM (fW m k v) th=if k=th then v else getM m th:=by
  induction m with
  | nil=>
    by_cases q:k=th
    · simp[fW,getM,q]
    · simp[fW,getM,q]
  | cons p m ih=>
    unfold fW
    by_cases h:p.1=k
    · rw[if_pos h]
      by_cases q:k=th
      · simp[getM,q]
      · rw[if_neg q]
        have h2:p.1≠th:=by rw[h];exact q
        simp[getM,q,h2]
    · rw[if_neg h]
      by_cases q:k=th
      · subst q
        rw[if_pos rfl] at ih ⊢
        simp[getM,h,ih]
      · rw[if_neg q] at ih ⊢
        by_cases h2:p.1=th
        · simp[getM,h2]
        · simp[getM,h2,ih]
theorem Wn(mc:Mc (sp []) 6 B){o len:Nat}{l:List Ev}(h:bt aN 7 (.ae n o len) l)(hlen:len<=999):bw B 4 (max Tryd.f4.ntmps 1) lA [(.agg (bK T V S n o len))] (aL bO (dZ l.reverse)):=by
  obtain⟨dS,hn,cF⟩:=h.len
  have hlen:len<=1000:=by omega
  have xW:∀k,(dZ (l.take k).reverse).length<=999:=fun k=>by have:=yM (l.take k).reverse;rw[List.length_reverse,List.length_take] at this;omega
  have up:∀{h:List Ev} {mm:List (Int×Int)} {e:Ev},(∀th,getM mm th=jq h th)->e.kind=1->∀th,getM (fW mm e.az e.tx) th=jq (e::h) th:=by
    intro h mm e hm q th
    rw[Wm,hm]
    show _=pD e th (jq h th)
    unfold pD
    by_cases z:e.az=th
    · rw[if_pos z,if_pos ⟨q,z⟩]
    · rw[if_neg z,if_neg (fun y=>z y.2)]
  have same:∀{h:List Ev} {mm:List (Int×Int)} {e:Ev},(∀th,getM mm th=jq h th)->e.kind≠1->∀th,getM mm th=jq (e::h) th:=by
    intro h mm e hm q th
    rw[hm]
    show _=pD e th (jq h th)
    unfold pD
    rw[if_neg (fun y=>q y.1)]
  have H8:∀m k:Nat,∀mm,k+m=len->(∀th,getM mm th=jq (l.take k).reverse th)->FSQ B (aL bO (dZ l.reverse)) lA (iR n o len T V S (k:Int) mm (dZ (l.take k).reverse)):=by
    intro m
    induction m with
    | zero=>
      intro k mm hk hm
      have:=abB mc n o len T V S k mm (dZ (l.take k).reverse) J (by have:=xW k;omega)
      rw[show dZ l.reverse=dZ (l.take k).reverse by rw[List.take_of_length_le J]]
      exact this
    | succ m ih=>
      intro k mm hk hm
      obtain⟨e,he⟩:∃e,l[k]? =some e:=⟨_,List.getElem?_eq_getElem J⟩
      have e1:(l.take (k+1)).reverse=e::(l.take k).reverse:=by rw[List.take_add_one,he];simp
      have e2:((k:Int)+1)=((k+1:Nat):Int):=by omega
      refine abx (e:=e) mc hn hlen J J qa (by have:=xW k;omega) (fun q=>?_) (fun q=>?_) (fun q=>?_)
      · have H:=ih (k+1) _ J (by rw[e1];exact up hm q)
        rw[e1,wQ J] at H;rw[e2];exact H
      · have H:=ih (k+1) mm J (by rw[e1];exact same hm J)
        rw[e1,BL q, ←hm] at H;rw[e2];exact H
      · have H:=ih (k+1) mm J (by rw[e1];exact same hm q.1)
        rw[e1,wQ q.2] at H;rw[e2];exact H
  have H9:∀m k:Nat,∀mm,k+m=len->(∀th,getM mm th=jq (l.take k).reverse th)->dZ (l.take k).reverse=[]->FSQ B (aL bO (dZ l.reverse)) lA (kS n o len T V S (k:Int) mm):=by
    intro m
    induction m with
    | zero=>
      intro k mm hk hm hw
      have:=abA mc n o len T V S k mm J
      rw[List.take_of_length_le J] at hw
      rw[hw]
      exact this
    | succ m ih=>
      intro k mm hk hm hw
      obtain⟨e,he⟩:∃e,l[k]? =some e:=⟨_,List.getElem?_eq_getElem J⟩
      have e1:(l.take (k+1)).reverse=e::(l.take k).reverse:=by rw[List.take_add_one,he];simp
      have e2:((k:Int)+1)=((k+1:Nat):Int):=by omega
      refine abw (e:=e) mc hn hlen J J qa (fun q=>?_) (fun q=>?_) (fun q=>?_)
      · have H:=ih (k+1) _ J (by rw[e1];exact up hm q) (by rw[e1,wQ J];exact hw)
        rw[e2];exact H
      · have H:=H8 m (k+1) mm J (by rw[e1];exact same hm J)
        rw[e1,BL q,hw, ←hm] at H;rw[e2];exact H
      · have H:=ih (k+1) mm J (by rw[e1];exact same hm q.1) (by rw[e1,wQ q.2];exact hw)
        rw[e2];exact H
  exact goA mc hn (fun _=>H9 len 0 [] J (fun th=>rfl) rfl)
noncomputable def Om:FuncId×(List AV->Option AV):=(4,aY (RT xB 999))
theorem UY(hP:fa Tryd.prog){L:gn}(h:cC Tryd.prog FU (sp L)):cC Tryd.prog FU (sp (Om::L)):=by
 refine fJ.add hP h fJ.gr Tryd.func4 (fQ Tryd.func4 bx) bx fun args v e=>?_
 obtain⟨n,o,len,l,T,V,S,rfl,a,b,c,rfl⟩:=je e
 exact⟨bH.1 bx,fun B hB hc hl=>Wn ⟨hB,hc,hl⟩ a c⟩
end QD
end
section
open Go Go.Rn Go.RowKit Go.Proofs
namespace PU
open cd cj cv cD cH cI cN fx gw eW fy fm fA pC kz xX xD gk zZ PR Jh QD
open PQ (FZ)
open PM (LI)
variable {n o' n' eM p m lo:Nat} {B:aZ} {V' V T' T S' S i:Int} {tr:List (List Int)} {os:List Out} {l:List Ev}
noncomputable abbrev nC(l:List Cm):Nat:=nm (l.map bO).flatten
def zo(f:List Ev->Int->Int->Int->List Out->AV)(args:List AV)(r:AV):Prop:=∃(n o len:Nat) (l:List Ev) (T V S:Int) (m p lo:Nat) (os:List Out),args=[.agg [.int .i64 T,.int .i64 V,.int .i64 S,.ae n o len],.ae m p lo]/\bt aN 7 (.ae n o len) l/\eR l/\len<=140/\bt kR 4 (.ae m p lo) os/\r=f l T V S os
theorem To{f:List Ev->Int->Int->Int->List Out->AV}(args:List AV)(v v':AV)(h:zo f args v)(h':zo f args v'):v=v':=by
 obtain⟨n,o,len,l,T,V,S,m,p,lo,os,rfl,h1,_,_,h2,rfl⟩:=h
 obtain⟨n',o',eM,l',T',V',S',m',p',mr,Ds,q,gX,_,_,lS,rfl⟩:=h'
 simp only[List.cons.injEq,AV.agg.injEq,AV.int.injEq,AV.ae.injEq,true_and,_root_.and_true] at q
 obtain⟨⟨rfl,rfl,rfl,rfl,rfl,rfl⟩,rfl,rfl,rfl⟩:=q
 rw[h1.inj qy gX,h2.inj LC lS]
theorem Wo(f:List Ev->Int->Int->Int->List Out->AV){o len:Nat}(T V S:Int)(h:bt aN 7 (.ae n o len) l)(aT:eR l)(hlen:len<=140)(ho:bt kR 4 (.ae m p lo) os)(hf:(f l T V S os).hi=true):bj (aY (zo f)) [.agg [.int .i64 T,.int .i64 V,.int .i64 S,.ae n o len],.ae m p lo]=some (f l T V S os):=
 l3 (mF To ⟨n,o,len,l,T,V,S,m,p,lo,os,rfl,h,aT,hlen,ho,rfl⟩) (by have h1:=h.hi;have h2:=ho.hi;simp[AV.hi,AV.gN] at h1 h2 ⊢;exact⟨⟨rfl,rfl,rfl,h1⟩,h2⟩) hf
noncomputable def On:FuncId×(List AV->Option AV):=(9,aY (zo ug))
theorem Ny(hP:fa Tryd.prog):cC Tryd.prog FU (sp LN):=Lu hP (Nx fJ.gr)
theorem Wp(hP:fa Tryd.prog):cC Tryd.prog FU (sp sY):=Lu hP (Nx (FZ hP (LI hP (VC hP fJ.gr))))
theorem UZ(hP:fa Tryd.prog){L:gn}(h:cC Tryd.prog FU (sp L)):cC Tryd.prog FU (sp (On::L)):=by
 refine fJ.add hP h (Wp hP) Tryd.func9 (fQ Tryd.func9 bx) bx fun args v e=>?_
 obtain⟨n,o,len,l,T,V,S,m,p,lo,os,rfl,a,b,c,d,rfl⟩:=je e
 exact⟨bH.1 bx,fun B hB hc hl=>PF.UU hB (Ba hP (Ny hP B hB) hB 6) (rF Tryd.prog (Ny hP B hB) FU 6) hc hl a b c d⟩
noncomputable abbrev LX:gn:=[Om,Py,N7,Ol,Pc,On,Og,Ib,Ia,HE]
theorem YD(hP:fa Tryd.prog):cC Tryd.prog FU (sp LX):=UY hP (V8 hP (Ul hP (UX hP (VE hP (UZ hP (UR hP (FZ hP (MC hP (Mg hP fJ.gr)))))))))
noncomputable def pe(n o len n' o' eM:Nat)(T V S T' V' S':Int)(tr:List (List Int))(i:Int):Fm:=⟨3,[(11,(.ae (qm tr) 0 tr.length)),(12,(.ae (qm tr) 0 tr.length)),(13,(.int .i64 i))],90,[.code (aO Tryd.prog 3 [1,1,1,1,1,1,1,0,1,0,0]),.inLoop (aO Tryd.prog 3 [1,1,1,1,1,1,1,0,1,0,0]),.inBlock 0,.code (aO Tryd.prog 3 [1,1,1,1,1,1,1,1])],[(270,some (.cells 4 (Tr.fill (bK T V S n o len) 0 .nil) [])),(271,some (.cells 4 (Tr.fill (bK T' V' S' n' o' eM) 0 .nil) []))],272⟩
abbrev NL(n o len n' o' eM:Nat)(T V S T' V' S':Int)(tr:List (List Int)):bz:=fun fr s1 _=>(True/\FC (pe n o len n' o' eM T V S T' V' S' tr 0) fr s1)
theorem abC(mc:Mc (sp LX) 6 B){o len:Nat}{bg ft:Int}{ca cb:List Cm}(dS:len<=140)(iZ:eM<=140)(xN:lo<=20)(hn:top<=n)(oi:top<=n')(hm:top<=m)(hA:bj (aY (RT xB 999)) [.agg [.int .i64 T,.int .i64 V,.int .i64 S,.ae n o len]]=some (aL bO ca))(DE:bj (aY (RT xB 999)) [.agg [.int .i64 T',.int .i64 V',.int .i64 S',.ae n' o' eM]]=some (aL bO cb))(DV:bj (aY (R2 bO 3 jc)) [aL bO ca,aL bO ca]=some (.bool true))(DW:bj (aY (R2 bO 3 jc)) [aL bO cb,aL bO cb]=some (.bool true))(x7:bj (aY (R2 bO 3 xw)) [aL bO ca,aL bO cb]=some (.bool (decide (bg=1))))(DB:bj (aY (zo ug)) [.agg [.int .i64 T,.int .i64 V,.int .i64 S,.ae n o len],.ae m p lo]=some (.bool (decide (ft=1))))(pz:bj (aY (RF ug)) [.agg [.int .i64 T,.int .i64 V,.int .i64 S,.ae n o len],.ae m p lo]=some (.bool (decide (ft=1))))(DA:bj (aY (RT j8 999)) [.agg [.int .i64 T,.int .i64 V,.int .i64 S,.ae n o len]]=some (aL cO tr))(H0:True->FSQ B (.bool true) sV (pe n o len n' o' eM T V S T' V' S' tr 0)):bw B 3 (max Tryd.f3.ntmps 3) sV [(.agg (bK T V S n o len)),(.agg (bK T' V' S' n' o' eM)),(.ae m p lo)] (.bool true):=by
 exact wC mc (C:=(NL n o len n' o' eM T V S T' V' S' tr)) (gj H0) 2000 ((fun(q1:Pl)=>((fun(q2:Pl)=>(gC 4 3 (.fk .no (.go 4 (.fk .no (.go 4 (.fk .no (gA 1 3 1 (.kn (.ae (nC ca) 0 ca.length) (.go 1 (.kn (.ae (nC cb) 0 cb.length) (gA 2 1 1 (.kn (.ae (nC ca) 0 ca.length) (.go 1 (.kn (.ae (nC cb) 0 cb.length) (gA 2 2 2 (.kn (.bool true) (.go 4 (.kn (.bool true) (.go 5 (.kp (bg=1) inferInstance (.go 2 (.kp (bg=1) inferInstance q2 .no)) (.go 2 (.kp (bg=1) inferInstance .no q2))))))))))))))))))))))) (.go 5 (.kp (ft=1) inferInstance (.go 2 (.kp (ft=1) inferInstance q1 .no)) (.go 2 (.kp (ft=1) inferInstance .no q1)))))) (gA 2 3 1 (.kn (.ae (qm tr) 0 tr.length) (.go 1 (.kn (.ae (qm tr) 0 tr.length) (gA 2 2 4 (.fk .no (gL 7 (iT (pe n o len n' o' eM T V S T' V' S' tr 0)))))))))) (U ((len:Int)>140) aA (fun _=>U ((eM:Int)>140) aA (fun _=>U ((lo:Int)>20) aA (fun _=>ai hA (ai DE (ai hA (ai DE (ai DV (ai DW (ai x7 (U (bg=1) (fun _=>ai x7 (U (bg=1) NQ aA)) (fun _=>ai x7 (U (bg=1) aA NQ)))))))))))))
theorem Z5(mc:Mc (sp LX) 6 B){o len:Nat}(GW:140<len\/140<eM\/20<lo):bw B 3 (max Tryd.f3.ntmps 3) sV [(.agg (bK T V S n o len)),(.agg (bK T' V' S' n' o' eM)),(.ae m p lo)] (.bool true):=by
 exact wS mc 2000 ((fun(q1:Pl)=>(gC 4 3 (.fk (.go 11 q1) (.go 4 (.fk (.go 6 q1) (.go 4 (.fk (.go 1 q1) .no))))))) (gG 4)) (U ((len:Int)>140) (fun _=>oj true rfl) (fun _=>U ((eM:Int)>140) (fun _=>oj true rfl) (fun _=>U ((lo:Int)>20) (fun _=>oj true rfl) aA)))
abbrev Oo(n o len n' o' eM:Nat)(T V S T' V' S' i:Int)(tr:List (List Int)):bz:=fun fr s1 _=>(True/\FC (pe n o len n' o' eM T V S T' V' S' tr (i+1)) fr s1)
theorem abD(mc:Mc (sp LX) 6 B){o len:Nat}{tn:List Int}(ko:tr.length<=6)(h0:0<=i)(hi:i<(tr.length:Int))(iM:bM FU (qm tr) (0+i.toNat*1) 1=some [aL aK tn])(kh:bj (aY (R2 aK 1 jc)) [aL aK tn,aL aK tn]=some (.bool true))(H0:True->FSQ B (.bool true) sV (pe n o len n' o' eM T V S T' V' S' tr (i+1))):FSQ B (.bool true) sV (pe n o len n' o' eM T V S T' V' S' tr i):=by
 exact wC mc (C:=(Oo n o len n' o' eM T V S T' V' S' i tr)) (gj H0) 2000 (gC 2 3 (.fk (gB 5 2 (.bI (.bJ [(.ae (nI tn) 0 tn.length)] (.go 2 (.bI (.bJ [(.ae (nI tn) 0 tn.length)] (.kn (.bool true) (gA 1 3 1 (.vl (.int .i64 (i+1)) (gK 1 1 (iT (pe n o len n' o' eM T V S T' V' S' tr (i+1))))))))))))) .no)) (U (i<(tr.length:Int)) (fun _=>aV i (tr.length:Int) J J (ai (dB (tr.map cO).flatten) (ai iM (aV i (tr.length:Int) J J (ai (dB (tr.map cO).flatten) (ai iM (ai kh (ai cS (jB (pe n o len n' o' eM T V S T' V' S' tr (i+1)) (Oo n o len n' o' eM T V S T' V' S' i tr) (⟨trivial,rfl,rfl⟩)))))))))) aA)
theorem abE(mc:Mc (sp LX) 6 B){o len:Nat}(hi:¬(i<(tr.length:Int))):FSQ B (.bool true) sV (pe n o len n' o' eM T V S T' V' S' tr i):=by
 exact wS mc 2000 (gC 2 3 (.fk .no (gG 5))) (U (i<(tr.length:Int)) aA (fun _=>oj true rfl))
theorem YE(mc:Mc (sp LX) 6 B){o len:Nat}(T V S T' V' S':Int){l':List Ev}(h:bt aN 7 (.ae n o len) l)(aT:eR l)(h':bt aN 7 (.ae n' o' eM) l')(abF:eR l')(ho:bt kR 4 (.ae m p lo) os):bw B 3 (max Tryd.f3.ntmps 3) sV [(.agg (bK T V S n o len)),(.agg (bK T' V' S' n' o' eM)),(.ae m p lo)] (.bool true):=by
  by_cases hb:140<len\/140<eM\/20<lo
  · exact Z5 mc hb
  · have hn:=h.len.2.1
    have oi:=h'.len.2.1
    have hm:=ho.len.2.1
    have hlen:=h.len.1
    have iI:=h'.len.1
    have c1:=yM l.reverse
    have c2:=yM l'.reverse
    rw[List.length_reverse] at c1 c2
    have DV:=uM jc Bw (bt.aL eC (dZ l.reverse)) (bt.aL eC (dZ l.reverse)) J rfl
    have DW:=uM jc Bw (bt.aL eC (dZ l'.reverse)) (bt.aL eC (dZ l'.reverse)) J rfl
    have e1:∀c:List Cm,jc c c= .bool true:=fun c=>by show AV.bool (decide (c=c))=_;rw[decide_eq_true rfl]
    rw[e1] at DV DW
    have x7:=uM xw Bw (bt.aL eC (dZ l.reverse)) (bt.aL eC (dZ l'.reverse)) J rfl
    have e2:xw (dZ l.reverse) (dZ l'.reverse)= .bool (decide ((if dZ l.reverse<+:dZ l'.reverse then(1:Int) else 0)=1)):=rZ (by by_cases q:dZ l.reverse<+:dZ l'.reverse<;>simp[q])
    rw[e2] at x7
    have DB:=Wo ug T V S h aT J ho rfl
    have pz:=abg ug T V S h aT J ho J rfl
    obtain⟨ft,e3⟩:∃ft:Int,ug l T V S os= .bool (decide (ft=1)):=by
      by_cases q:lp l T V S os
      · exact⟨1,(bT q).symm⟩
      · exact⟨0,(bF q).symm⟩
    rw[e3] at DB pz
    have DA:=zX j8 999 h aT J (bt.aL rB _).hi (T:=T) (V:=V) (S:=S)
    have ht6:(cE l T).length<=6:=by unfold cE;rw[List.length_map,List.length_range];omega
    refine abC mc J J J hn oi hm (zX xB 999 h aT J (bt.aL eC _).hi) (zX xB 999 h' abF J (bt.aL eC _).hi) DV DW x7 DB pz DA (fun _=>?_)
    have key:∀k' k:Nat,k+k'=(cE l T).length->FSQ B (.bool true) sV (pe n o len n' o' eM T V S T' V' S' (cE l T) (k:Int)):=by
      intro k'
      induction k' with
      |zero=>intro k hk;exact abE (tr:=cE l T) (i:=(k:Int)) mc J
      | succ k' ih=>
        intro k hk
        have iM:=Ft l T k (by unfold cE at hk;rw[List.length_map,List.length_range] at hk;omega)
        have kh:=uM jc pJ (bt.aL eI (dz l.reverse (k:Int))) (bt.aL eI (dz l.reverse (k:Int))) (by have:=(sj l.reverse k).1;omega) rfl
        rw[show jc (dz l.reverse (k:Int)) (dz l.reverse (k:Int))= .bool true by show AV.bool (decide (_=_))=_;rw[decide_eq_true rfl]] at kh
        refine abD (tr:=cE l T) (i:=(k:Int)) (tn:=dz l.reverse (k:Int)) mc ht6 J J (by rw[Int.toNat_natCast,Nat.zero_add];exact wM rB iM 0 1 J) kh (fun _=>?_)
        rw[show((k:Int)+1)=((k+1:Nat):Int) by omega]
        exact ih (k+1) J
    exact key (cE l T).length 0 J
end PU
end
section
open Go Go.Rn Go.RowKit Go.Proofs
open Go.ChangeShapes
namespace abG
open cd xD PU
variable {v:Value} {p:List MemPlace} {n:Int} {b0:Nat}
section
variable {H:Type} {enc:TypeId×Value->H} {w:World} {base:Nat} {sp:Nat->Bool} {held:Bool}
theorem wf_i64(h:(Lit.int .i64 n).wf=true):bL n:=by
 obtain⟨h1,h2⟩:=and_true.1 (show(decide (IntKind.i64.min<=n)&&decide (n<=IntKind.i64.max))=true from h)
 exact⟨of_decide_eq_true h1,of_decide_eq_true h2⟩
theorem wf_u8(h:(Lit.int .u8 n).wf=true):0<=n/\n<=255:=by
 obtain⟨h1,h2⟩:=and_true.1 (show(decide (IntKind.u8.min<=n)&&decide (n<=IntKind.u8.max))=true from h)
 exact⟨of_decide_eq_true h1,of_decide_eq_true h2⟩
theorem abH:Tryd.prog.cellsOf 24=4:=by kernel_rfl
theorem QE:Tryd.prog.cellsOf 2=1:=by kernel_rfl
theorem Jj:Tryd.prog.cellsOf 3=1:=by kernel_rfl
theorem sz4:Tryd.prog.cellsOf 4=1:=by kernel_rfl
theorem sz5:Tryd.prog.cellsOf 5=1:=by kernel_rfl
theorem abI:Tryd.prog.cellsOf 22=1:=by kernel_rfl
theorem abJ:Tryd.prog.cellsOf 37=1:=by kernel_rfl
theorem abK:Tryd.prog.cellsOf 41=7:=by kernel_rfl
theorem abL:Tryd.prog.cellsOf 46=1:=by kernel_rfl
theorem abM:Tryd.prog.cellsOf 50=1:=by kernel_rfl
theorem abN:Tryd.prog.cellsOf 52=4:=by kernel_rfl
theorem nJ{x y:Value}(h:[x]=[y]):x=y:=by injection h
theorem YF(row:List Value)(cF:row.length=7)(h2:∃n y,DataW.trod enc Tryd.prog w base sp held n 41 row=some y):∃a ms,zp w aN dF row a ms:=by
  obtain⟨fuel,y,h⟩:=h2
  obtain⟨xs,n,_,_,hlen,AR,hf⟩:=DataW.trod_struct Tryd.underlying41 h
  have abO:xs.length=7:=AR
  match row,cF,xs,abO,hf with
  | [c0, c1,c2,c3,c4,c5,c6],_,[x0,x1,x2,x3,x4,x5,x6],_,hf=>
    have f0:DataW.trod enc Tryd.prog w base sp held n 5 (([c0,c1,c2,c3,c4,c5,c6].drop 0).take (Tryd.prog.cellsOf 5))=some x0:=hf 0 _ rfl
    have f1:DataW.trod enc Tryd.prog w base sp held n 3 (([c0,c1,c2,c3,c4,c5,c6].drop 1).take (Tryd.prog.cellsOf 3))=some x1:=hf 1 _ rfl
    have f2:DataW.trod enc Tryd.prog w base sp held n 3 (([c0,c1,c2,c3,c4,c5,c6].drop 2).take (Tryd.prog.cellsOf 3))=some x2:=hf 2 _ rfl
    have f3:DataW.trod enc Tryd.prog w base sp held n 3 (([c0,c1,c2,c3,c4,c5,c6].drop 3).take (Tryd.prog.cellsOf 3))=some x3:=hf 3 _ rfl
    have f4:DataW.trod enc Tryd.prog w base sp held n 3 (([c0,c1,c2,c3,c4,c5,c6].drop 4).take (Tryd.prog.cellsOf 3))=some x4:=hf 4 _ rfl
    have f5:DataW.trod enc Tryd.prog w base sp held n 2 (([c0,c1,c2,c3,c4,c5,c6].drop 5).take (Tryd.prog.cellsOf 2))=some x5:=hf 5 _ rfl
    have f6:DataW.trod enc Tryd.prog w base sp held n 5 (([c0,c1,c2,c3,c4,c5,c6].drop 6).take (Tryd.prog.cellsOf 5))=some x6:=hf 6 _ rfl
    rw[sz5] at f0 f6
    rw[Jj] at f1 f2 f3 f4
    rw[QE] at f5
    obtain⟨a0,e0,_,w0⟩:=DataW.trod_int Tryd.underlying5 f0
    obtain⟨a1,e1,_,w1⟩:=DataW.trod_int Tryd.underlying3 f1
    obtain⟨a2,e2,_,w2⟩:=DataW.trod_int Tryd.underlying3 f2
    obtain⟨a3,e3,_,w3⟩:=DataW.trod_int Tryd.underlying3 f3
    obtain⟨a4,e4,_,w4⟩:=DataW.trod_int Tryd.underlying3 f4
    obtain⟨a5,e5,_,w5⟩:=DataW.trod_int Tryd.underlying2 f5
    obtain⟨a6,e6,_,w6⟩:=DataW.trod_int Tryd.underlying5 f6
    obtain rfl:=nJ e0
    obtain rfl:=nJ e1
    obtain rfl:=nJ e2
    obtain rfl:=nJ e3
    obtain rfl:=nJ e4
    obtain rfl:=nJ e5
    obtain rfl:=nJ e6
    refine⟨⟨a0,a1,a2,a3,a4,a5,a6⟩,[],⟨wf_u8 w0,wf_i64 w1,wf_i64 w2,wf_i64 w3,wf_i64 w4,wf_i64 w5,wf_u8 w6⟩,Good.nil,fun j x hx=>?_⟩
    rcases j with _|_|_|_|_|_|_|j
    all_goals first
      | (injection (show some _=some x from hx) with hx
         subst hx
         exact⟨_,rfl,fun σ _=>by simp only[VR]⟩)
      |cases(show none=some x from hx)
theorem aej{d:DataW H}(aT:Value.okWide Tryd.prog w .any b0 24 v)(h:DataW.Trod enc Tryd.prog w base sp held 24 v d p):
    ∃(x y z:Int) (e:Value) (l:List Ev) (ms:kZ),v= .agg #[.int .i64 x,.int .i64 y,.int .i64 z,e]/\eR l/\Good w ms/\Is ms (aL aN l) e:=by
  unfold Value.okWide at aT
  rw[Tryd.underlying24] at aT
  obtain⟨cs,rfl,_⟩:=aT
  obtain⟨fuel,h⟩:=h
  have h':DataW.trod enc Tryd.prog w base sp held fuel 24 cs.toList=some (d,p):=h
  obtain⟨xs,n,_,_,hlen,AR,hf⟩:=DataW.trod_struct Tryd.underlying24 h'
  rw[abH] at hlen
  have Ie:xs.length=4:=AR
  obtain⟨l⟩:=cs
  match l,hlen,xs,Ie,hf with
  | [c0,c1,c2,c3],_,[x0,x1,x2,x3],_,hf=>
    have f0:DataW.trod enc Tryd.prog w base sp held n 3 (([c0,c1,c2,c3].drop 0).take (Tryd.prog.cellsOf 3))=some x0:=hf 0 _ rfl
    have f1:DataW.trod enc Tryd.prog w base sp held n 3 (([c0,c1,c2,c3].drop 1).take (Tryd.prog.cellsOf 3))=some x1:=hf 1 _ rfl
    have f2:DataW.trod enc Tryd.prog w base sp held n 3 (([c0,c1,c2,c3].drop 2).take (Tryd.prog.cellsOf 3))=some x2:=hf 2 _ rfl
    have f3:DataW.trod enc Tryd.prog w base sp held n 22 (([c0,c1,c2,c3].drop 3).take (Tryd.prog.cellsOf 22))=some x3:=hf 3 _ rfl
    rw[Jj] at f0 f1 f2
    rw[abI] at f3
    obtain⟨a,e0,_,_⟩:=DataW.trod_int Tryd.underlying3 f0
    obtain⟨b,e1,_,_⟩:=DataW.trod_int Tryd.underlying3 f1
    obtain⟨c,e2,_,_⟩:=DataW.trod_int Tryd.underlying3 f2
    obtain rfl:=nJ e0
    obtain rfl:=nJ e1
    obtain rfl:=nJ e2
    obtain⟨l,ms,k1,k2,k3⟩:=Bz eE (Nat.succ_pos _) Tryd.underlying22 abK YF (show DataW.trod enc Tryd.prog w base sp held n 22 [c3]=some x3 from f3)
    exact⟨a,b,c,c3,l,ms,rfl,k1,k2,k3⟩
theorem MP{t:TypeId}(hu:Tryd.prog.underlying t=some (.int .i64))(row:List Value)(_:row.length=1)(h2:∃n y,DataW.trod enc Tryd.prog w base sp held n t row=some y):∃a ms,zp w aK (fun _=>True) row a ms:=by
 obtain⟨fuel,y,h⟩:=h2
 obtain⟨a,rfl,_,_⟩:=DataW.trod_int hu h
 refine⟨a,[],trivial,Good.nil,fun j x hx=>?_⟩
 rcases j with _|j
 ·injection (show some _=some x from hx) with hx
  subst hx
  exact⟨_,rfl,fun σ _=>by simp only[VR]⟩
 ·cases(show none=some x from hx)
theorem Wq(row:List Value)(cF:row.length=4)(h2:∃n y,DataW.trod enc Tryd.prog w base sp held n 52 row=some y):∃a ms,zp w kR (fun _=>True) row a ms:=by
  obtain⟨fuel,y,h⟩:=h2
  obtain⟨xs,n,_,_,hlen,AR,hf⟩:=DataW.trod_struct Tryd.underlying52 h
  have Ie:xs.length=4:=AR
  match row,cF,xs,Ie,hf with
  | [c0,c1,c2,c3],_,[x0,x1,x2,x3],_,hf=>
    have f0:DataW.trod enc Tryd.prog w base sp held n 50 (([c0,c1,c2,c3].drop 0).take (Tryd.prog.cellsOf 50))=some x0:=hf 0 _ rfl
    have f1:DataW.trod enc Tryd.prog w base sp held n 37 (([c0,c1,c2,c3].drop 1).take (Tryd.prog.cellsOf 37))=some x1:=hf 1 _ rfl
    have f2:DataW.trod enc Tryd.prog w base sp held n 46 (([c0,c1,c2,c3].drop 2).take (Tryd.prog.cellsOf 46))=some x2:=hf 2 _ rfl
    have f3:DataW.trod enc Tryd.prog w base sp held n 4 (([c0,c1,c2,c3].drop 3).take (Tryd.prog.cellsOf 4))=some x3:=hf 3 _ rfl
    rw[abM] at f0
    rw[abJ] at f1
    rw[abL] at f2
    rw[sz4] at f3
    obtain⟨z,e2,_,_⟩:=DataW.trod_int Tryd.underlying46 f2
    obtain⟨q,e3,_⟩:=DataW.trod_bool Tryd.underlying4 f3
    obtain rfl:=nJ e2
    obtain rfl:=nJ e3
    obtain⟨l,ms,_,k2,k3⟩:=Bz eI (Nat.succ_pos _) Tryd.underlying50 QE (MP Tryd.underlying2) (show DataW.trod enc Tryd.prog w base sp held n 50 [c0]=some x0 from f0)
    obtain⟨m,ns,_,m2,m3⟩:=Bz eI (Nat.succ_pos _) Tryd.underlying37 Jj (MP Tryd.underlying3) (show DataW.trod enc Tryd.prog w base sp held n 37 [c1]=some x1 from f1)
    refine⟨⟨l,m,z,q⟩,ms++ns,trivial,k2.app m2,fun j x hx=>?_⟩
    rcases j with _|_|_|_|j
    · injection (show some _=some x from hx) with hx
      subst hx
      exact⟨_,rfl,k3.sub fun p hp=>List.mem_append_left _ hp⟩
    · injection (show some _=some x from hx) with hx
      subst hx
      exact⟨_,rfl,m3.sub fun p hp=>List.mem_append_right _ hp⟩
    · injection (show some _=some x from hx) with hx
      subst hx
      exact⟨_,rfl,fun σ _=>by simp only[VR]⟩
    · injection (show some _=some x from hx) with hx
      subst hx
      exact⟨_,rfl,fun σ _=>by simp only[VR]⟩
    · cases(show none=some x from hx)
theorem aer{d:DataW H}(aT:Value.okWide Tryd.prog w .any b0 25 v)(h:DataW.Trod enc Tryd.prog w base sp held 25 v d p):∃(l:List Out) (ms:kZ),Good w ms/\Is ms (aL kR l) v:=by
 obtain⟨fuel,h⟩:=h
 have hc:∃a len cap,v= .slice a len cap:=by
  unfold Value.okWide at aT
  rw[Tryd.underlying25] at aT
  simp only at aT
  unfold Cell.okWide at aT
  rw[Tryd.underlying25] at aT
  cases v<;>first|exact⟨_,_,_,rfl⟩|(exfalso;unfold Cell.ok at aT;rw[Tryd.underlying25] at aT;simp at aT)
 obtain⟨a,len,cap,rfl⟩:=hc
 obtain⟨l,ms,_,k2,k3⟩:=Bz (Q:=fun _:Out=>True) eO (Nat.succ_pos _) Tryd.underlying25 abN Wq (show DataW.trod enc Tryd.prog w base sp held fuel 25 [.slice a len cap]=some (d,p) from h)
 exact⟨l,ms,k2,k3⟩
end
theorem Z7:Tryd.f3.body=some (aO Tryd.prog 3 []):=fQ Tryd.func3 bx
theorem aes(hP:fa Tryd.prog)(W:World){ρ:Ren}(S:Rn.Start 270 eD ρ W){x1 y1 z1 x2 y2 z2:Int}{e1 e2 e3:Value}{l1 l2:List Ev}{os:List Out}{m1 m2 m3:kZ}(o1:eR l1)(g1:Good W m1)(i1:Is m1 (aL aN l1) e1)(o2:eR l2)(g2:Good W m2)(i2:Is m2 (aL aN l2) e2)(g3:Good W m3)(i3:Is m3 (aL kR os) e3):
  Calls Tryd.prog 3 #[.agg #[.int .i64 x1,.int .i64 y1,.int .i64 z1,e1],.agg #[.int .i64 x2,.int .i64 y2,.int .i64 z2,e2],e3] W fun e w'=>e= .returned (.bool true)/\Below W.heap.size W w':=by
 have g:Good W (m1++(m2++m3)):=g1.app (g2.app g3)
 have r:=S.Z6 (Nat.le_trans ar WT) g
 have hh:Has (mT (m1++(m2++m3)) ρ) (m1++(m2++m3)):=La
 have v1:=VR.mono (BR _) _ _ (i1 _ (hh.sub fun p hp=>List.mem_append_left _ hp))
 have v2:=VR.mono (BR _) _ _ (i2 _ (hh.sub fun p hp=>List.mem_append_right _ (List.mem_append_left _ hp)))
 have v3:=VR.mono (BR _) _ _ (i3 _ (hh.sub fun p hp=>List.mem_append_right _ (List.mem_append_right _ hp)))
 have aT:zw Tryd.prog ⟨fun k=>W.heap.size<=k,FU,fun _=>True⟩ (sp LX):=YD hP _ rfl
 have hc:=Ba (B:=⟨fun k=>W.heap.size<=k,FU,fun _=>True⟩) hP aT rfl 6
 have hl:=rF Tryd.prog aT FU 6
 have H:=YE ⟨rfl,hc,hl⟩ x1 y1 z1 x2 y2 z2 (bt.aL eE l1) o1 (bt.aL eE l2) o2 (bt.aL eO os)
 have hg:iJ (mT (m1++(m2++m3)) ρ):=fun g hg=>by
  obtain⟨N,e⟩:=S.g g hg
  exact⟨N,Fv _ _ e⟩
 have hf:∀k,270<=k->k<top->mT (m1++(m2++m3)) ρ k=none:=fun k h1 h2=>by
  rw[EV h2]
  exact S.free k h1
 have hv:aQ (mT (m1++(m2++m3)) ρ) [.agg [.int .i64 x1,.int .i64 y1,.int .i64 z1,aL aN l1],.agg [.int .i64 x2,.int .i64 y2,.int .i64 z2,aL aN l2],aL kR os] (#[.agg #[.int .i64 x1,.int .i64 y1,.int .i64 z1,e1],.agg #[.int .i64 x2,.int .i64 y2,.int .i64 z2,e2],e3]:Array Value).toList:=by
  refine⟨_,_,rfl,⟨_,rfl,?_⟩,_,_,rfl,⟨_,rfl,?_⟩,_,_,rfl,v3,rfl⟩
  ·exact⟨_,_,rfl,rfl,_,_,rfl,rfl,_,_,rfl,rfl,_,_,rfl,v1,rfl⟩
  ·exact⟨_,_,rfl,rfl,_,_,rfl,rfl,_,_,rfl,rfl,_,_,rfl,v2,rfl⟩
 have r':Rel ⟨fun k=>W.heap.size<=k,FU,fun _=>True⟩ (mT (m1++(m2++m3)) ρ) (aM ay 270).h W:=by
  rw[Na];exact r
 have dL:=cM.calls (args:=[.agg [.int .i64 x1,.int .i64 y1,.int .i64 z1,aL aN l1],.agg [.int .i64 x2,.int .i64 y2,.int .i64 z2,aL aN l2],aL kR os]) hP Tryd.func3 Z7 (bH.1 bx) H (Vb bx) r' hg hf hv
 refine dL.mono fun e w'=>?_
 rintro ⟨v,x,s3,rfl,rfl,_,_,σ,_,q2,_,q4⟩
 simp only[VR] at q2
 exact⟨by rw[q2],q4.os,q4.tape,q4.output,q4.size,fun k hk=>q4.block k hk (by show ¬(W.heap.size<=k);omega)⟩
end abG
end
