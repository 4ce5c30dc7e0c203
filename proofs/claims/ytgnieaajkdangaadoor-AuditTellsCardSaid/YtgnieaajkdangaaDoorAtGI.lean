import Derived.Test.YtgnieaajkdangaaDoorAtGH
set_option maxRecDepth 100000
set_option maxHeartbeats 8000000
set_option linter.unusedSimpArgs false
section
open Go Go.Rn Go.RowKit Go.Proofs
namespace AA
open cd cj
variable {n:Nat} {B:aZ} {i:Int} {v:AV} {l:List Ev} {e:Ev}
def nB(n o len:Nat)(s i:Int):List (Nat×AV):=[(0,(.ae n o len)),(1,(.int .i64 s)),(5,(.int .i64 i))]
noncomputable def oO(n o len:Nat)(s i:Int):AF:=⟨59,eS [(0,(.ae n o len)),(1,(.int .i64 s)),(5,(.int .i64 i))],35,[.code (aO Tryd.prog 59 [1,0,1,0,0]),.inLoop (aO Tryd.prog 59 [1,0,1,0,0]),.inBlock 0,.code (aO Tryd.prog 59 [1,1])],[],none⟩
theorem Fa(r s:Int)(e:Ev)(x:Int)(h:x=iu e s r):AV.int .i64 x=AV.int .i64 (iu e s r):=by rw[h]
theorem Lt(n o len:Nat)(s r j:Int)(e:Ev)(hn:top<=n)(h:iu e s r=r):((nB n o len s j).map (fun q=>some q.2)=(nB n o len s j).map (fun q=>some q.2))/\(ay.map (fun q=>q.2)=ay.map (fun q=>q.2))/\mX 270 (nB n o len s j) ay/\((oO n o len s j)=(oO n o len s j)/\aM ay 270=aM ay 270/\iu e s r=r):=
 ⟨rfl,rfl,wN (fun r r2 p hp=>by simp only[nB,List.mem_cons,List.not_mem_nil,or_false] at hp;rcases hp with rfl|rfl|rfl<;>first|exact aJ.int _ _|exact aJ.ae (r2 _ hn) r2) rfl,rfl,rfl,h⟩
theorem Ua(mc:Mc (sp []) 6 B){o len:Nat}{s:Int}{r:Int}(hn:top<=n)(hlen:len<=1000)(he:bM FU n (o+i.toNat*7) 7=some (aN e))(h0:0<=i)(h1:i<(len:Int))(H:Sm B uG (AV.int .i64 r) (oO n o len s (i - 1)) (aM ay 270)):Sm B uG (AV.int .i64 (iu e s r)) (oO n o len s i) (aM ay 270):=by
 exact wC mc (C:=(fun fr s1 _=>fr=(oO n o len s (i - 1))/\s1=aM ay 270/\iu e s r=r)) C1 900 ((fun(q1:Pl)=>((fun(q2:Pl)=>(gC 2 1 (.fk (gB 5 2 (.bI (.bJ (aN e) (gA 2 2 3 (.fk (gL 2 q1) (gB 4 2 (.fk q2 (gB 3 2 (.fk (.go 5 q2) (.go 3 (.fk (.go 1 q2) (gK 1 3 q1)))))))))))) .no))) (gG 4))) (.rg (.go 1 (.vl (.int .i64 (i - 1)) (gK 1 1 (.bk [(0,(.ae n o len)),(1,(.int .i64 s)),(5,(.int .i64 ((i - 1))))] ay 270 .no)))))) (U (i>=0) (fun _=>aV i (len:Int) J J (ai hn (ai (c9 he 0 7 ar) (U (e.I≠s) (fun _=>ai (wI (i - 1) J) (Lt n o len s r (i - 1) e hn zG)) (fun _=>U (e.kind=4) (fun _=>Fa r s e e.az zG) (fun _=>U (e.kind=9) (fun _=>Fa r s e (-1) zG) (fun _=>U (e.kind=11) (fun _=>Fa r s e (-1) zG) (fun _=>ai (wI (i - 1) J) (Lt n o len s r (i - 1) e hn zG))))))))) aA)
theorem Fb(x:Int):AV.int .i64 x=AV.int .i64 x:=rfl
theorem Ub(mc:Mc (sp []) 6 B){o len:Nat}{s:Int}(hi:i<0):Sm B uG (AV.int .i64 (-1)) (oO n o len s i) (aM ay 270):=by
 exact wS mc 900 (gC 2 1 (.fk .no (gG 5))) (U (i>=0) aA (fun _=>Fb (-1)))
theorem Uc(n o len:Nat)(s j:Int):((nB n o len s j).map (fun q=>some q.2)=(nB n o len s j).map (fun q=>some q.2))/\(ay.map (fun q=>q.2)=ay.map (fun q=>q.2))/\((oO n o len s j)=(oO n o len s j)/\aM ay 270=aM ay 270):=⟨rfl,rfl,rfl,rfl⟩
theorem Ud(mc:Mc (sp []) 6 B){o len:Nat}{s:Int}(hlen:len<=1000)(H:Sm B uG v (oO n o len s ((len:Int) - 1)) (aM ay 270)):bw B 59 (max Tryd.f59.ntmps 2) uG [(.ae n o len),(.int .i64 s)] v:=by
 exact wC mc (C:=(fun fr s1 _=>fr=(oO n o len s ((len:Int) - 1))/\s1=aM ay 270)) m7 900 (gC 4 2 (.vl (.int .i64 ((len:Int) - 1)) (gK 1 2 (.ls [(0,(.ae n o len)),(1,(.int .i64 s)),(5,(.int .i64 (((len:Int) - 1))))] ay 270 .no)))) (ai uv (Uc n o len s ((len:Int) - 1)))
theorem Ue(mc:Mc (sp []) 6 B){o len:Nat}{s:Int}(h:bt aN 7 (.ae n o len) l)(aT:eR l)(hlen:len<=1000):bw B 59 (max Tryd.f59.ntmps 2) uG [(.ae n o len),(.int .i64 s)] (AV.int .i64 (bo l.reverse s)):=by
  obtain⟨dS,hn,cF⟩:=h.len
  have key:∀k:Nat,k<=len->Sm B uG (AV.int .i64 (bo (l.take k).reverse s)) (oO n o len s ((k:Int) - 1)) (aM ay 270):=by
    intro k
    induction k with
    |zero=>intro _;exact Ub mc J
    | succ k ih=>
      intro hk
      obtain⟨e,he⟩:∃e,l[k]? =some e:=⟨_,List.getElem?_eq_getElem J⟩
      have e1:(l.take (k+1)).reverse=e::(l.take k).reverse:=by rw[List.take_add_one,he];simp
      have e2:(((k+1:Nat):Int) - 1)=(k:Int):=by omega
      have e3:=cF k e he
      rw[e1,e2]
      exact Ua mc hn hlen zH J J (ih J)
  have:=key len (Nat.le_refl _)
  rw[←dS,List.take_length,dS] at this
  exact Ud mc hlen this
noncomputable def oI(n o len:Nat)(s i:Int):AF:=⟨68,eS [(0,(.ae n o len)),(1,(.int .i64 s)),(5,(.int .i64 i))],33,[.code (aO Tryd.prog 68 [1,0,1,0,0]),.inLoop (aO Tryd.prog 68 [1,0,1,0,0]),.inBlock 0,.code (aO Tryd.prog 68 [1,1])],[],none⟩
theorem SV(r s:Int)(e:Ev)(x:Int)(h:x=mQ e s r):AV.int .i64 x=AV.int .i64 (mQ e s r):=by rw[h]
theorem SP(n o len:Nat)(s r j:Int)(e:Ev)(hn:top<=n)(h:mQ e s r=r):((nB n o len s j).map (fun q=>some q.2)=(nB n o len s j).map (fun q=>some q.2))/\(ay.map (fun q=>q.2)=ay.map (fun q=>q.2))/\mX 270 (nB n o len s j) ay/\((oI n o len s j)=(oI n o len s j)/\aM ay 270=aM ay 270/\mQ e s r=r):=
 ⟨rfl,rfl,wN (fun r r2 p hp=>by simp only[nB,List.mem_cons,List.not_mem_nil,or_false] at hp;rcases hp with rfl|rfl|rfl<;>first|exact aJ.int _ _|exact aJ.ae (r2 _ hn) r2) rfl,rfl,rfl,h⟩
theorem SW(mc:Mc (sp []) 6 B){o len:Nat}{s:Int}{r:Int}(hn:top<=n)(hlen:len<=1000)(he:bM FU n (o+i.toNat*7) 7=some (aN e))(h0:0<=i)(h1:i<(len:Int))(H:Sm B uI (AV.int .i64 r) (oI n o len s (i - 1)) (aM ay 270)):Sm B uI (AV.int .i64 (mQ e s r)) (oI n o len s i) (aM ay 270):=by
 exact wC mc (C:=(fun fr s1 _=>fr=(oI n o len s (i - 1))/\s1=aM ay 270/\mQ e s r=r)) C1 900 ((fun(q1:Pl)=>(gC 2 1 (.fk (gB 5 2 (.bI (.go 1 (.bJ [(.int .u8 e.kind)] (.fk (.go 3 (.bI (.go 1 (.bJ [(.int .i64 e.az)] (.go 1 (.fk (gA 1 2 2 (.bI (.go 1 (.bJ [(.int .i64 e.v)] (gF 1 1))))) (.go 1 q1))))))) (.go 9 q1)))))) .no))) (gB 3 1 (.vl (.int .i64 (i - 1)) (gK 1 1 (.bk [(0,(.ae n o len)),(1,(.int .i64 s)),(5,(.int .i64 ((i - 1))))] ay 270 .no))))) (U (i>=0) (fun _=>aV i (len:Int) J J (ai hn (ai (c9 he 0 1 ar) (U (e.kind=5) (fun _=>aV i (len:Int) J J (ai hn (ai (c9 he 1 1 ar) (U (e.az=s) (fun _=>aV i (len:Int) J J (ai hn (ai (c9 he 4 1 ar) (SV r s e e.v (by unfold mQ;(repeat' split)<;>omega))))) NO)))) NO)))) aA)
theorem SX(mc:Mc (sp []) 6 B){o len:Nat}{s:Int}(hi:i<0):Sm B uI (AV.int .i64 0) (oI n o len s i) (aM ay 270):=by
 exact wS mc 900 (gC 2 1 (.fk .no (gG 5))) (U (i>=0) aA (fun _=>Fb 0))
theorem SY(n o len:Nat)(s j:Int):((nB n o len s j).map (fun q=>some q.2)=(nB n o len s j).map (fun q=>some q.2))/\(ay.map (fun q=>q.2)=ay.map (fun q=>q.2))/\((oI n o len s j)=(oI n o len s j)/\aM ay 270=aM ay 270):=⟨rfl,rfl,rfl,rfl⟩
theorem SZ(mc:Mc (sp []) 6 B){o len:Nat}{s:Int}(hlen:len<=1000)(H:Sm B uI v (oI n o len s ((len:Int) - 1)) (aM ay 270)):bw B 68 (max Tryd.f68.ntmps 2) uI [(.ae n o len),(.int .i64 s)] v:=by
 exact wC mc (C:=(fun fr s1 _=>fr=(oI n o len s ((len:Int) - 1))/\s1=aM ay 270)) m7 900 (gC 4 2 (.vl (.int .i64 ((len:Int) - 1)) (gK 1 2 (.ls [(0,(.ae n o len)),(1,(.int .i64 s)),(5,(.int .i64 (((len:Int) - 1))))] ay 270 .no)))) (ai uv (SY n o len s ((len:Int) - 1)))
theorem S0(mc:Mc (sp []) 6 B){o len:Nat}{s:Int}(h:bt aN 7 (.ae n o len) l)(aT:eR l)(hlen:len<=1000):bw B 68 (max Tryd.f68.ntmps 2) uI [(.ae n o len),(.int .i64 s)] (AV.int .i64 (kN l.reverse s)):=by
  obtain⟨dS,hn,cF⟩:=h.len
  have key:∀k:Nat,k<=len->Sm B uI (AV.int .i64 (kN (l.take k).reverse s)) (oI n o len s ((k:Int) - 1)) (aM ay 270):=by
    intro k
    induction k with
    |zero=>intro _;exact SX mc J
    | succ k ih=>
      intro hk
      obtain⟨e,he⟩:∃e,l[k]? =some e:=⟨_,List.getElem?_eq_getElem J⟩
      have e1:(l.take (k+1)).reverse=e::(l.take k).reverse:=by rw[List.take_add_one,he];simp
      have e2:(((k+1:Nat):Int) - 1)=(k:Int):=by omega
      have e3:=cF k e he
      rw[e1,e2]
      exact SW mc hn hlen zH J J (ih J)
  have:=key len (Nat.le_refl _)
  rw[←dS,List.take_length,dS] at this
  exact SZ mc hlen this
def v8(n o len:Nat)(i:Int):List (Nat×AV):=[(0,(.ae n o len)),(3,(.int .i64 i))]
noncomputable def oP(n o len:Nat)(i:Int):AF:=⟨58,eS [(0,(.ae n o len)),(3,(.int .i64 i))],30,[.code (aO Tryd.prog 58 [1,0,1,0,0]),.inLoop (aO Tryd.prog 58 [1,0,1,0,0]),.inBlock 0,.code (aO Tryd.prog 58 [1,1])],[],none⟩
theorem TZ(r:Int)(e:Ev)(x:Int)(h:x=o8 e r):AV.int .i64 x=AV.int .i64 (o8 e r):=by rw[h]
theorem Uf(n o len:Nat)(r j:Int)(e:Ev)(hn:top<=n)(h:o8 e r=r):((v8 n o len j).map (fun q=>some q.2)=(v8 n o len j).map (fun q=>some q.2))/\(ay.map (fun q=>q.2)=ay.map (fun q=>q.2))/\mX 270 (v8 n o len j) ay/\((oP n o len j)=(oP n o len j)/\aM ay 270=aM ay 270/\o8 e r=r):=
 ⟨rfl,rfl,wN (fun r r2 p hp=>by simp only[v8,List.mem_cons,List.not_mem_nil,or_false] at hp;rcases hp with rfl|rfl<;>first|exact aJ.int _ _|exact aJ.ae (r2 _ hn) r2) rfl,rfl,rfl,h⟩
theorem Ug(mc:Mc (sp []) 6 B){o len:Nat}{r:Int}(hn:top<=n)(hlen:len<=1000)(he:bM FU n (o+i.toNat*7) 7=some (aN e))(h0:0<=i)(h1:i<(len:Int))(H:Sm B uF (AV.int .i64 r) (oP n o len (i - 1)) (aM ay 270)):Sm B uF (AV.int .i64 (o8 e r)) (oP n o len i) (aM ay 270):=by
 exact wC mc (C:=(fun fr s1 _=>fr=(oP n o len (i - 1))/\s1=aM ay 270/\o8 e r=r)) C1 900 ((fun(q1:Pl)=>(gC 2 1 (.fk (gB 5 2 (.bI (.go 1 (.bJ [(.int .u8 e.kind)] (.fk (.go 8 q1) (.go 3 (.bI (.go 1 (.bJ [(.int .u8 e.kind)] (.fk (.go 1 q1) (gA 1 3 1 (.vl (.int .i64 (i - 1)) (gK 1 1 (.bk [(0,(.ae n o len)),(3,(.int .i64 ((i - 1))))] ay 270 .no)))))))))))))) .no))) (gB 2 2 (.bI (.go 1 (.bJ [(.int .i64 e.v)] (gF 1 1)))))) (U (i>=0) (fun _=>aV i (len:Int) J J (ai hn (ai (c9 he 0 1 ar) (U (e.kind=1) O0 (fun _=>aV i (len:Int) J J (ai hn (ai (c9 he 0 1 ar) (U (e.kind=5) O0 (fun _=>ai (wI (i - 1) J) (Uf n o len r (i - 1) e hn (by unfold o8;(repeat' split)<;>omega))))))))))) aA)
theorem Uh(mc:Mc (sp []) 6 B){o len:Nat}(hi:i<0):Sm B uF (AV.int .i64 0) (oP n o len i) (aM ay 270):=by
 exact wS mc 900 (gC 2 1 (.fk .no (gG 5))) (U (i>=0) aA (fun _=>Fb 0))
theorem Ui(n o len:Nat)(j:Int):((v8 n o len j).map (fun q=>some q.2)=(v8 n o len j).map (fun q=>some q.2))/\(ay.map (fun q=>q.2)=ay.map (fun q=>q.2))/\((oP n o len j)=(oP n o len j)/\aM ay 270=aM ay 270):=⟨rfl,rfl,rfl,rfl⟩
theorem Uj(mc:Mc (sp []) 6 B){o len:Nat}(hlen:len<=1000)(H:Sm B uF v (oP n o len ((len:Int) - 1)) (aM ay 270)):bw B 58 (max Tryd.f58.ntmps 1) uF [(.ae n o len)] v:=by
 exact wC mc (C:=(fun fr s1 _=>fr=(oP n o len ((len:Int) - 1))/\s1=aM ay 270)) m7 900 (gC 4 2 (.vl (.int .i64 ((len:Int) - 1)) (gK 1 2 (.ls [(0,(.ae n o len)),(3,(.int .i64 (((len:Int) - 1))))] ay 270 .no)))) (ai uv (Ui n o len ((len:Int) - 1)))
theorem Uk(mc:Mc (sp []) 6 B){o len:Nat}(h:bt aN 7 (.ae n o len) l)(aT:eR l)(hlen:len<=1000):bw B 58 (max Tryd.f58.ntmps 1) uF [(.ae n o len)] (AV.int .i64 (ml l.reverse)):=by
  obtain⟨dS,hn,cF⟩:=h.len
  have key:∀k:Nat,k<=len->Sm B uF (AV.int .i64 (ml (l.take k).reverse)) (oP n o len ((k:Int) - 1)) (aM ay 270):=by
    intro k
    induction k with
    |zero=>intro _;exact Uh mc J
    | succ k ih=>
      intro hk
      obtain⟨e,he⟩:∃e,l[k]? =some e:=⟨_,List.getElem?_eq_getElem J⟩
      have e1:(l.take (k+1)).reverse=e::(l.take k).reverse:=by rw[List.take_add_one,he];simp
      have e2:(((k+1:Nat):Int) - 1)=(k:Int):=by omega
      have e3:=cF k e he
      rw[e1,e2]
      exact Ug mc hn hlen zH J J (ih J)
  have:=key len (Nat.le_refl _)
  rw[←dS,List.take_length,dS] at this
  exact Uj mc hlen this
end AA
end
section
open Go Go.Rn Go.RowKit Go.Proofs
namespace Qp
open cd cj
variable {n:Nat} {B:aZ} {i:Int}
def vQ(n o len:Nat)(s i:Int):List (Nat×AV):=[(0,(.ae n o len)),(1,(.int .i64 s)),(5,(.int .i64 i))]
noncomputable def oG(n o len:Nat)(s i:Int):AF:=⟨60,eS [(0,(.ae n o len)),(1,(.int .i64 s)),(5,(.int .i64 i))],57,[.code (aO Tryd.prog 60 [1,0,1,0,0]),.inLoop (aO Tryd.prog 60 [1,0,1,0,0]),.inBlock 0,.code (aO Tryd.prog 60 [1,1])],[],none⟩
theorem Km(b r s:Int)(e:Ev)(x:Int)(h:x=mf e s b r):AV.int .i64 x=AV.int .i64 (mf e s b r):=by rw[h]
theorem R7(n o len:Nat)(s b r j:Int)(e:Ev)(hn:top<=n)(h:mf e s b r=r):((vQ n o len s j).map (fun q=>some q.2)=(vQ n o len s j).map (fun q=>some q.2))/\(ay.map (fun q=>q.2)=ay.map (fun q=>q.2))/\mX 270 (vQ n o len s j) ay/\((oG n o len s j)=(oG n o len s j)/\aM ay 270=aM ay 270/\mf e s b r=r):=
 ⟨rfl,rfl,wN (fun r r2 p hp=>by simp only[vQ,List.mem_cons,List.not_mem_nil,or_false] at hp;rcases hp with rfl|rfl|rfl<;>first|exact aJ.int _ _|exact aJ.ae (r2 _ hn) r2) rfl,rfl,rfl,h⟩
theorem R8(mc:Mc (sp [zP]) 6 B){o len:Nat}{s:Int}{e:Ev}{r:Int}{b:Int}{m:List Ev}(hn:top<=n)(hlen:len<=1000)(he:bM FU n (o+i.toNat*7) 7=some (aN e))(h0:0<=i)(h1:i<(len:Int))(hm:bt aN 7 (.ae n o i.toNat) m)(qi:eR m)(hb:b=kN m.reverse e.az)(H:Sm B uH (AV.int .i64 r) (oG n o len s (i - 1)) (aM ay 270)):Sm B uH (AV.int .i64 (mf e s b r)) (oG n o len s i) (aM ay 270):=by
 have f1:=fun h=>R7 n o len s b r (i - 1) e hn h
 exact wC mc (C:=(fun fr s1 _=>fr=(oG n o len s (i - 1))/\s1=aM ay 270/\mf e s b r=r)) C1 900 ((fun(q1:Pl)=>((fun(q2:Pl)=>(gC 2 1 (.fk (gB 6 2 (.bI (.go 1 (.bJ [(.int .i64 e.I)] (.go 1 (.fk (.go 3 (.bI (.go 1 (.bJ [(.int .u8 e.kind)] (.fk (gA 1 2 2 (.bI (.go 1 (.bJ [(.int .i64 e.v)] (gF 1 1))))) (.go 1 q2)))))) (.go 8 q2))))))) .no))) (gB 3 2 (.bI (.go 1 (.bJ [(.int .i64 e.I)] (.go 1 (.fk (.go 3 (.bI (.go 1 (.bJ [(.int .u8 e.kind)] (.fk (gA 1 2 2 (.sf (0:Int) i (.go 2 (.bI (.go 1 (.bJ [(.int .i64 e.az)] (.kn (.int .i64 ((kN m.reverse e.az))) (.go 1 (.en (.rt 1 .no)))))))))) (.go 1 q1)))))) (.go 8 q1))))))))) (gB 3 1 (.vl (.int .i64 (i - 1)) (gK 1 1 (.bk [(0,(.ae n o len)),(1,(.int .i64 s)),(5,(.int .i64 ((i - 1))))] ay 270 .no))))) (U (i>=0) (fun _=>aV i (len:Int) J J (ai hn (ai (c9 he 3 1 ar) (U (e.I=s) (fun _=>aV i (len:Int) J J (ai hn (ai (c9 he 0 1 ar) (U (e.kind=2) (fun _=>aV i (len:Int) J J (ai hn (ai (c9 he 4 1 ar) (Km b r s e e.v CO)))) OG)))) OG)))) aA)
theorem R9(x:Int):AV.int .i64 x=AV.int .i64 x:=rfl
theorem Sa(mc:Mc (sp [zP]) 6 B){o len:Nat}{s:Int}(hi:i<0):Sm B uH (AV.int .i64 0) (oG n o len s i) (aM ay 270):=by
 exact wS mc 900 (gC 2 1 (.fk .no (gG 5))) (U (i>=0) aA (fun _=>R9 0))
theorem Sb(n o len:Nat)(s j:Int):((vQ n o len s j).map (fun q=>some q.2)=(vQ n o len s j).map (fun q=>some q.2))/\(ay.map (fun q=>q.2)=ay.map (fun q=>q.2))/\((oG n o len s j)=(oG n o len s j)/\aM ay 270=aM ay 270):=⟨rfl,rfl,rfl,rfl⟩
theorem Sc(mc:Mc (sp [zP]) 6 B){o len:Nat}{s:Int}{v:AV}(hlen:len<=1000)(H:Sm B uH v (oG n o len s ((len:Int) - 1)) (aM ay 270)):bw B 60 (max Tryd.f60.ntmps 2) uH [(.ae n o len),(.int .i64 s)] v:=by
 exact wC mc (C:=(fun fr s1 _=>fr=(oG n o len s ((len:Int) - 1))/\s1=aM ay 270)) m7 900 (gC 4 2 (.vl (.int .i64 ((len:Int) - 1)) (gK 1 2 (.ls [(0,(.ae n o len)),(1,(.int .i64 s)),(5,(.int .i64 (((len:Int) - 1))))] ay 270 .no)))) (ai uv (Sb n o len s ((len:Int) - 1)))
theorem Sd(mc:Mc (sp [zP]) 6 B){o len:Nat}{s:Int}{l:List Ev}(h:bt aN 7 (.ae n o len) l)(aT:eR l)(hlen:len<=1000):bw B 60 (max Tryd.f60.ntmps 2) uH [(.ae n o len),(.int .i64 s)] (AV.int .i64 (cx l.reverse s)):=by
  obtain⟨dS,hn,cF⟩:=h.len
  have key:∀k:Nat,k<=len->Sm B uH (AV.int .i64 (cx (l.take k).reverse s)) (oG n o len s ((k:Int) - 1)) (aM ay 270):=by
    intro k
    induction k with
    |zero=>intro _;exact Sa mc J
    | succ k ih=>
      intro hk
      obtain⟨e,he⟩:∃e,l[k]? =some e:=⟨_,List.getElem?_eq_getElem J⟩
      have e1:(l.take (k+1)).reverse=e::(l.take k).reverse:=by rw[List.take_add_one,he];simp
      have e2:(((k+1:Nat):Int) - 1)=(k:Int):=by omega
      have e3:=cF k e he
      rw[e1,e2]
      exact R8 mc hn hlen zH J J (by rw[Int.toNat_natCast];exact GH h J) (F9 aT k) rfl (ih J)
  have:=key len (Nat.le_refl _)
  rw[←dS,List.take_length,dS] at this
  exact Sc mc hlen this
end Qp
end
section
open Go Go.Rn Go.RowKit Go.Proofs
namespace fJ
open cd cj cv cD cH cI
variable {L L':gn} {g:FuncId} {fn:Func}
theorem add(hP:fa Tryd.prog){val:List AV->Option AV}(h:cC Tryd.prog FU (sp L))(h':cC Tryd.prog FU (sp L'))(ga:Tryd.prog.funcs[g]? =some fn)(gP:fn.body=some (aO Tryd.prog g []))(ir:(fn.name == "runtime.NumGoroutine")=false)(nO:∀args v,val args=some v->max fn.ntmps args.length<=top/\∀B:aZ,B.F=FU->Hc (sp L') 6 B->(Hl (sp L') 6)->bw B g (max fn.ntmps args.length) fn.results.toList args v):cC Tryd.prog FU (sp ((g,val)::L)):=by
 refine T5 hP (by unfold fb;decide) (by unfold top;decide) Zc aaC h h' ga gP ir fun args v e=>?_
 obtain⟨q1,q2⟩:=nO args v e
 refine⟨q1,fun B hB hc hl=>?_⟩
 have:=q2 B hB hc hl
 unfold bw at this
 rw[Na] at this
 exact this
theorem uL(hP:fa Tryd.prog){f:List Ev->List AV->Option AV}(h:cC Tryd.prog FU (sp L))(h':cC Tryd.prog FU (sp L'))(ga:Tryd.prog.funcs[g]? =some fn)(gP:fn.body=some (aO Tryd.prog g []))(ir:(fn.name == "runtime.NumGoroutine")=false)(nO:∀n o len l rest v,bt aN 7 (.ae n o len) l->eR l->len<=1000->f l rest=some v->max fn.ntmps (rest.length+1)<=top/\∀B:aZ,B.F=FU->Hc (sp L') 6 B->(Hl (sp L') 6)->bw B g (max fn.ntmps (rest.length+1)) fn.results.toList (.ae n o len::rest) v):cC Tryd.prog FU (sp ((g,aY (RE f))::L)):=by
 refine add hP h h' ga gP ir fun args v e=>?_
 obtain⟨n,o,len,l,rest,rfl,a,b,c,d⟩:=je e
 exact nO n o len l rest v a b c d
theorem gr:cC Tryd.prog FU (sp []):=Vn
theorem Vt(hP:fa Tryd.prog)(h:cC Tryd.prog FU (sp L)):cC Tryd.prog FU (sp (O8::L)):=by
 refine uL hP h gr Tryd.func59 (fQ Tryd.func59 bx) bx fun n o len l rest v a b c d=>?_
 unfold ia at d
 split at d
 ·injection d with d;subst d
  exact⟨bH.1 bx,fun B hB hc hl=>AA.Ue ⟨hB,hc,hl⟩ a b c⟩
 ·cases d
theorem Vu(hP:fa Tryd.prog)(h:cC Tryd.prog FU (sp L)):cC Tryd.prog FU (sp (zP::L)):=by
 refine uL hP h gr Tryd.func68 (fQ Tryd.func68 bx) bx fun n o len l rest v a b c d=>?_
 unfold HC at d
 split at d
 ·injection d with d;subst d
  exact⟨bH.1 bx,fun B hB hc hl=>AA.S0 ⟨hB,hc,hl⟩ a b c⟩
 ·cases d
theorem Vv(hP:fa Tryd.prog)(h:cC Tryd.prog FU (sp L)):cC Tryd.prog FU (sp (Pa::L)):=by
 refine uL hP h gr Tryd.func58 (fQ Tryd.func58 bx) bx fun n o len l rest v a b c d=>?_
 unfold zO at d
 split at d
 ·injection d with d;subst d
  exact⟨bH.1 bx,fun B hB hc hl=>AA.Uk ⟨hB,hc,hl⟩ a b c⟩
 ·cases d
theorem Vw(hP:fa Tryd.prog)(h:cC Tryd.prog FU (sp L)):cC Tryd.prog FU (sp (O9::L)):=by
 refine uL hP h (Vu hP gr) Tryd.func60 (fQ Tryd.func60 bx) bx fun n o len l rest v a b c d=>?_
 unfold iw at d
 split at d
 ·injection d with d;subst d
  exact⟨bH.1 bx,fun B hB hc hl=>Qp.Sd ⟨hB,hc,hl⟩ a b c⟩
 ·cases d
theorem Ma(hP:fa Tryd.prog)(h:cC Tryd.prog FU (sp L)):cC Tryd.prog FU (sp (xu::L)):=by
 refine add hP h gr Tryd.func44 (fQ Tryd.func44 bx) bx fun args v e=>?_
 obtain⟨l,s,rfl,a,rfl⟩:=je e
 exact⟨bH.1 bx,fun B hB hc hl=>mz.alP ⟨hB,hc,hl⟩ a⟩
theorem Bv(hP:fa Tryd.prog)(h:cC Tryd.prog FU (sp L)):cC Tryd.prog FU (sp (si::L)):=by
 refine uL hP h (Ma hP gr) Tryd.func23 (fQ Tryd.func23 bx) bx fun n o len l rest v a b c d=>?_
 unfold hU at d
 split at d
 ·rename_i th S
  by_cases q:1<=S
  ·rw[if_pos q] at d
   injection d with d;subst d
   exact⟨bH.1 bx,fun B hB hc hl=>alM ⟨hB,hc,hl⟩ a c q⟩
  ·rw[if_neg q] at d;cases d
 ·cases d
theorem Fc(hP:fa Tryd.prog)(h:cC Tryd.prog FU (sp L)):cC Tryd.prog FU (sp (uf::L)):=by
 refine add hP h gr Tryd.func43 (fQ Tryd.func43 bx) bx fun args v e=>?_
 obtain⟨A,rfl,rfl⟩:=je e
 exact⟨bH.1 bx,fun B hB hc hl=>alO ⟨hB,hc,hl⟩⟩
theorem Mb(hP:fa Tryd.prog)(h:cC Tryd.prog FU (sp L)):cC Tryd.prog FU (sp (HD::L)):=by
 refine uL hP h (Fc hP (Bv hP gr)) Tryd.func24 (fQ Tryd.func24 bx) bx fun n o len l rest v a b c d=>?_
 unfold uK at d
 split at d
 ·rename_i th S
  by_cases q:1<=S
  ·rw[if_pos q] at d
   injection d with d;subst d
   exact⟨bH.1 bx,fun B hB hc hl=>alC ⟨hB,hc,hl⟩ a b c q⟩
  ·rw[if_neg q] at d;cases d
 ·cases d
end fJ
end
section
open Go Go.Rn Go.RowKit Go.Proofs
namespace gw
open cd cj cv cD cH cI cN
variable {x ab v tx th V T S k:Int} {B:aZ}
theorem WX(mc:Mc (sp []) 6 B){I:Int}(ho:dF ⟨0,th,tx,I,v,x,ab⟩/\bL T/\bL V/\bL S):bw B 26 (max Tryd.f26.ntmps 4) ph [(.agg (bn (.ofNat 0) th tx I v x ab)),(.int .i64 T),(.int .i64 V),(.int .i64 S)] (.bool (decide (aB 0 th tx I v x ab T V S))):=by
 have cu:=ho;simp only[dF,bL] at cu
 have f1:=fun h=>iB 0 th tx I v x ab T V S h
 exact wS mc 3000 ((fun(q1:Pl)=>(gC 6 2 (.il (gC 3 2 (.fk (.go 3 (.fk (gH 2 1 (.go 4 (.il (gC 3 2 (.fk (.go 3 (.fk (gH 2 1 (.go 6 (.il (gC 3 2 (.fk (.go 3 (.fk (gH 2 1 (.go 5 (.il (.rt 5 (.go 2 q1))))) (gH 2 1 (.go 8 q1)))) (gH 6 1 (.go 8 q1))))))) (gH 2 1 (.go 15 q1)))) (gH 6 1 (.go 15 q1))))))) (gH 2 1 (.go 20 q1)))) (gH 6 1 (.go 20 q1))))))) (gG 4)) (U (T>=1) (fun _=>U (T<=6) (fun _=>U (V>=1) (fun _=>U (V<=32) (fun _=>U (S>=1) (fun _=>U (S<=V) aw aw) aw) aw) aw) aw) aw)
theorem WY(mc:Mc (sp []) 6 B){I:Int}(ho:dF ⟨1,th,tx,I,v,x,ab⟩/\bL T/\bL V/\bL S):bw B 26 (max Tryd.f26.ntmps 4) ph [(.agg (bn (.ofNat 1) th tx I v x ab)),(.int .i64 T),(.int .i64 V),(.int .i64 S)] (.bool (decide (aB 1 th tx I v x ab T V S))):=by
 have cu:=ho;simp only[dF,bL] at cu
 have f1:=fun h=>iB 1 th tx I v x ab T V S h
 exact wS mc 3000 ((fun(q1:Pl)=>((fun(q2:Pl)=>(gC 6 2 (.il (gC 3 2 (.fk (.go 3 (.fk (gH 2 1 (.go 4 (.il (gC 3 2 (.fk (.go 3 (.fk (gH 2 1 (.go 6 (.il (gC 3 2 (.fk (.go 3 (.fk (gH 2 1 (.go 5 (.il (.rt 5 (gA 2 23 4 (.vl (.int .i64 (T - 1)) (.il (gC 3 2 (.fk (.go 3 (.fk (gH 2 1 (.go 4 (.il (gC 3 2 (.fk (.go 3 (.fk (gH 2 1 (.go 6 (.il (gC 3 2 (.fk (.go 3 (.fk (gH 2 1 (.go 6 (.vl (.int .i64 (S - 1)) (.il (gC 3 2 (.fk (.go 3 (.fk (gH 2 1 (.go 4 (.il (gC 18 4 (.il (.rt 15 (.go 1 (.il (.rt 28 (gB 12 4 (.il (.rt 15 (.go 1 (.il (.rt 28 (gI 11 (.ef (.go 2 q1) (.go 2 q1)))))))))))))))))) (gH 2 1 (.go 8 q1)))) (gH 6 1 (.go 8 q1)))))))) (gH 2 1 (.go 16 q1)))) (gH 6 1 (.go 16 q1))))))) (gH 2 1 (.go 23 q1)))) (gH 6 1 (.go 23 q1))))))) (gH 2 1 (.go 28 q1)))) (gH 6 1 (.go 28 q1))))))))))) (gH 2 1 (.go 8 q2)))) (gH 6 1 (.go 8 q2))))))) (gH 2 1 (.go 15 q2)))) (gH 6 1 (.go 15 q2))))))) (gH 2 1 (.go 20 q2)))) (gH 6 1 (.go 20 q2))))))) (gG 4))) (gG 1)) (U (T>=1) (fun _=>U (T<=6) (fun _=>U (V>=1) (fun _=>U (V<=32) (fun _=>U (S>=1) (fun _=>U (S<=V) (fun _=>ai wX (U (th>=0) (fun _=>U (th<=(T - 1)) (fun _=>U (tx>=0) (fun _=>U (tx<=5) (fun _=>U (v>=0) (fun _=>U (v<=1099511627776) (fun _=>ai (wI (S - 1) J) (U (I>=0) (fun _=>U (I<=(S - 1)) (fun _=>jk 1 1 th th tx tx I 0 v v x 0 ab 0 (fun _=>jb 1 th tx I v x ab T V S jv) aw) aw) aw)) aw) aw) aw) aw) aw) aw)) aw) aw) aw) aw) aw) aw)
theorem WZ(mc:Mc (sp []) 6 B){I:Int}(ho:dF ⟨2,th,tx,I,v,x,ab⟩/\bL T/\bL V/\bL S):bw B 26 (max Tryd.f26.ntmps 4) ph [(.agg (bn (.ofNat 2) th tx I v x ab)),(.int .i64 T),(.int .i64 V),(.int .i64 S)] (.bool (decide (aB 2 th tx I v x ab T V S))):=by
 have cu:=ho;simp only[dF,bL] at cu
 have f1:=fun h=>iB 2 th tx I v x ab T V S h
 exact wS mc 3000 ((fun(q1:Pl)=>((fun(q2:Pl)=>(gC 6 2 (.il (gC 3 2 (.fk (.go 3 (.fk (gH 2 1 (.go 4 (.il (gC 3 2 (.fk (.go 3 (.fk (gH 2 1 (.go 6 (.il (gC 3 2 (.fk (.go 3 (.fk (gH 2 1 (.go 5 (.il (.rt 5 (gA 2 23 4 (.vl (.int .i64 (T - 1)) (.il (gC 3 2 (.fk (.go 3 (.fk (gH 2 1 (.go 4 (.il (gC 3 2 (.fk (.go 3 (.fk (gH 2 1 (.go 6 (.il (gC 3 2 (.fk (.go 3 (.fk (gH 2 1 (.go 6 (.vl (.int .i64 (S - 1)) (.il (gC 3 2 (.fk (.go 3 (.fk (gH 2 1 (.go 4 (.il (gC 18 4 (.il (.rt 15 (.go 1 (.il (.rt 28 (gB 12 4 (.il (.rt 15 (.go 1 (.il (.rt 28 (gI 11 (.ef (.go 2 q1) (.go 2 q1)))))))))))))))))) (gH 2 1 (.go 8 q1)))) (gH 6 1 (.go 8 q1)))))))) (gH 2 1 (.go 16 q1)))) (gH 6 1 (.go 16 q1))))))) (gH 2 1 (.go 23 q1)))) (gH 6 1 (.go 23 q1))))))) (gH 2 1 (.go 28 q1)))) (gH 6 1 (.go 28 q1))))))))))) (gH 2 1 (.go 8 q2)))) (gH 6 1 (.go 8 q2))))))) (gH 2 1 (.go 15 q2)))) (gH 6 1 (.go 15 q2))))))) (gH 2 1 (.go 20 q2)))) (gH 6 1 (.go 20 q2))))))) (gG 4))) (gG 1)) (U (T>=1) (fun _=>U (T<=6) (fun _=>U (V>=1) (fun _=>U (V<=32) (fun _=>U (S>=1) (fun _=>U (S<=V) (fun _=>ai wX (U (th>=0) (fun _=>U (th<=(T - 1)) (fun _=>U (tx>=0) (fun _=>U (tx<=5) (fun _=>U (v>=0) (fun _=>U (v<=1099511627776) (fun _=>ai (wI (S - 1) J) (U (I>=0) (fun _=>U (I<=(S - 1)) (fun _=>jk 2 2 th th tx 0 I I v v x 0 ab 0 (fun _=>jb 2 th tx I v x ab T V S jv) aw) aw) aw)) aw) aw) aw) aw) aw) aw)) aw) aw) aw) aw) aw) aw)
theorem Md(mc:Mc (sp []) 6 B){I:Int}(hk:k=3\/k=8)(ho:dF ⟨k,th,tx,I,v,x,ab⟩/\bL T/\bL V/\bL S):bw B 26 (max Tryd.f26.ntmps 4) ph [(.agg (bn k th tx I v x ab)),(.int .i64 T),(.int .i64 V),(.int .i64 S)] (.bool (decide (aB k th tx I v x ab T V S))):=by
 have cu:=ho;simp only[dF,bL] at cu
 have f1:=fun h=>iB k th tx I v x ab T V S h
 have TT:=(U (T>=1) (fun _=>U (T<=6) (fun _=>U (V>=1) (fun _=>U (V<=32) (fun _=>U (S>=1) (fun _=>U (S<=V) (fun _=>ai (wI (T - 1) J) (U (th>=0) (fun _=>U (th<=(T - 1)) (fun _=>U (tx>=0) (fun _=>U (tx<=5) (fun _=>U (v>=0) (fun _=>U (v<=1099511627776) (fun _=>ai (wI (V - 1) J) (U (I>=0) (fun _=>U (I<=(V - 1)) (fun _=>jk k k th th tx 0 I I v 0 x x ab 0 (fun _=>jb k th tx I v x ab T V S dJ) (fun _=>f1 dJ)) (fun _=>f1 dJ)) (fun _=>f1 dJ))) (fun _=>f1 dJ)) (fun _=>f1 dJ)) (fun _=>f1 dJ)) (fun _=>f1 dJ)) (fun _=>f1 dJ)) (fun _=>f1 dJ))) (fun _=>f1 dJ)) (fun _=>f1 dJ)) (fun _=>f1 dJ)) (fun _=>f1 dJ)) (fun _=>f1 dJ)) (fun _=>f1 dJ))
 rcases hk with rfl|rfl
 all_goals exact wS mc 3000 ((fun(q1:Pl)=>((fun(q2:Pl)=>(gC 6 2 (.il (gC 3 2 (.fk (.go 3 (.fk (gH 2 1 (.go 4 (.il (gC 3 2 (.fk (.go 3 (.fk (gH 2 1 (.go 6 (.il (gC 3 2 (.fk (.go 3 (.fk (gH 2 1 (.go 5 (.il (.rt 5 (gA 2 20 4 (.vl (.int .i64 (T - 1)) (.il (gC 3 2 (.fk (.go 3 (.fk (gH 2 1 (.go 4 (.il (gC 3 2 (.fk (.go 3 (.fk (gH 2 1 (.go 6 (.il (gC 3 2 (.fk (.go 3 (.fk (gH 2 1 (.go 6 (.vl (.int .i64 (V - 1)) (.il (gC 3 2 (.fk (.go 3 (.fk (gH 2 1 (.go 4 (.il (gC 18 4 (.il (.rt 15 (.go 1 (.il (.rt 28 (gB 12 4 (.il (.rt 15 (.go 1 (.il (.rt 28 (gI 11 (.ef (.go 2 q1) (.go 2 q1)))))))))))))))))) (gH 2 1 (.go 8 q1)))) (gH 6 1 (.go 8 q1)))))))) (gH 2 1 (.go 16 q1)))) (gH 6 1 (.go 16 q1))))))) (gH 2 1 (.go 23 q1)))) (gH 6 1 (.go 23 q1))))))) (gH 2 1 (.go 28 q1)))) (gH 6 1 (.go 28 q1))))))))))) (gH 2 1 (.go 8 q2)))) (gH 6 1 (.go 8 q2))))))) (gH 2 1 (.go 15 q2)))) (gH 6 1 (.go 15 q2))))))) (gH 2 1 (.go 20 q2)))) (gH 6 1 (.go 20 q2))))))) (gG 4))) (gG 1)) TT
theorem BJ(mc:Mc (sp []) 6 B){I:Int}(hk:k=4\/k=6\/k=9\/k=11)(ho:dF ⟨k,th,tx,I,v,x,ab⟩/\bL T/\bL V/\bL S):bw B 26 (max Tryd.f26.ntmps 4) ph [(.agg (bn k th tx I v x ab)),(.int .i64 T),(.int .i64 V),(.int .i64 S)] (.bool (decide (aB k th tx I v x ab T V S))):=by
 have cu:=ho;simp only[dF,bL] at cu
 have f1:=fun h=>iB k th tx I v x ab T V S h
 have TT:=(U (T>=1) (fun _=>U (T<=6) (fun _=>U (V>=1) (fun _=>U (V<=32) (fun _=>U (S>=1) (fun _=>U (S<=V) (fun _=>ai (wI (T - 1) J) (U (th>=0) (fun _=>U (th<=(T - 1)) (fun _=>U (tx>=0) (fun _=>U (tx<=5) (fun _=>U (v>=0) (fun _=>U (v<=1099511627776) (fun _=>ai (wI (S - 1) J) (U (I>=0) (fun _=>U (I<=(S - 1)) (fun _=>jk k k th th tx 0 I I v 0 x 0 ab 0 (fun _=>jb k th tx I v x ab T V S dJ) (fun _=>f1 dJ)) (fun _=>f1 dJ)) (fun _=>f1 dJ))) (fun _=>f1 dJ)) (fun _=>f1 dJ)) (fun _=>f1 dJ)) (fun _=>f1 dJ)) (fun _=>f1 dJ)) (fun _=>f1 dJ))) (fun _=>f1 dJ)) (fun _=>f1 dJ)) (fun _=>f1 dJ)) (fun _=>f1 dJ)) (fun _=>f1 dJ)) (fun _=>f1 dJ))
 rcases hk with rfl|rfl|rfl|rfl
 all_goals exact wS mc 3000 ((fun(q1:Pl)=>((fun(q2:Pl)=>(gC 6 2 (.il (gC 3 2 (.fk (.go 3 (.fk (gH 2 1 (.go 4 (.il (gC 3 2 (.fk (.go 3 (.fk (gH 2 1 (.go 6 (.il (gC 3 2 (.fk (.go 3 (.fk (gH 2 1 (.go 5 (.il (.rt 5 (gA 2 23 4 (.vl (.int .i64 (T - 1)) (.il (gC 3 2 (.fk (.go 3 (.fk (gH 2 1 (.go 4 (.il (gC 3 2 (.fk (.go 3 (.fk (gH 2 1 (.go 6 (.il (gC 3 2 (.fk (.go 3 (.fk (gH 2 1 (.go 6 (.vl (.int .i64 (S - 1)) (.il (gC 3 2 (.fk (.go 3 (.fk (gH 2 1 (.go 4 (.il (gC 18 4 (.il (.rt 15 (.go 1 (.il (.rt 28 (gI 11 (.ef (.go 2 q1) (.go 2 q1)))))))))))) (gH 2 1 (.go 8 q1)))) (gH 6 1 (.go 8 q1)))))))) (gH 2 1 (.go 16 q1)))) (gH 6 1 (.go 16 q1))))))) (gH 2 1 (.go 23 q1)))) (gH 6 1 (.go 23 q1))))))) (gH 2 1 (.go 28 q1)))) (gH 6 1 (.go 28 q1))))))))))) (gH 2 1 (.go 8 q2)))) (gH 6 1 (.go 8 q2))))))) (gH 2 1 (.go 15 q2)))) (gH 6 1 (.go 15 q2))))))) (gH 2 1 (.go 20 q2)))) (gH 6 1 (.go 20 q2))))))) (gG 4))) (gG 1)) TT
theorem W0(mc:Mc (sp []) 6 B){I:Int}(ho:dF ⟨5,th,tx,I,v,x,ab⟩/\bL T/\bL V/\bL S):bw B 26 (max Tryd.f26.ntmps 4) ph [(.agg (bn (.ofNat 5) th tx I v x ab)),(.int .i64 T),(.int .i64 V),(.int .i64 S)] (.bool (decide (aB 5 th tx I v x ab T V S))):=by
 have cu:=ho;simp only[dF,bL] at cu
 have f1:=fun h=>iB 5 th tx I v x ab T V S h
 exact wS mc 3000 ((fun(q1:Pl)=>((fun(q2:Pl)=>(gC 6 2 (.il (gC 3 2 (.fk (.go 3 (.fk (gH 2 1 (.go 4 (.il (gC 3 2 (.fk (.go 3 (.fk (gH 2 1 (.go 6 (.il (gC 3 2 (.fk (.go 3 (.fk (gH 2 1 (.go 5 (.il (.rt 5 (gA 2 14 4 (.vl (.int .i64 (T - 1)) (.il (gC 3 2 (.fk (.go 3 (.fk (gH 2 1 (.go 4 (.il (gC 3 2 (.fk (.go 3 (.fk (gH 2 1 (.go 6 (.il (gC 3 2 (.fk (.go 3 (.fk (gH 2 1 (.go 6 (.vl (.int .i64 (S - 1)) (.il (gC 3 2 (.fk (.go 3 (.fk (gH 2 1 (.go 4 (.il (gC 18 4 (.il (.rt 15 (.go 1 (.il (.rt 28 (gI 11 (.ef (.go 2 q1) (.go 2 q1)))))))))))) (gH 2 1 (.go 8 q1)))) (gH 6 1 (.go 8 q1)))))))) (gH 2 1 (.go 16 q1)))) (gH 6 1 (.go 16 q1))))))) (gH 2 1 (.go 23 q1)))) (gH 6 1 (.go 23 q1))))))) (gH 2 1 (.go 28 q1)))) (gH 6 1 (.go 28 q1))))))))))) (gH 2 1 (.go 8 q2)))) (gH 6 1 (.go 8 q2))))))) (gH 2 1 (.go 15 q2)))) (gH 6 1 (.go 15 q2))))))) (gH 2 1 (.go 20 q2)))) (gH 6 1 (.go 20 q2))))))) (gG 4))) (gG 1)) (U (T>=1) (fun _=>U (T<=6) (fun _=>U (V>=1) (fun _=>U (V<=32) (fun _=>U (S>=1) (fun _=>U (S<=V) (fun _=>ai wX (U (th>=0) (fun _=>U (th<=(T - 1)) (fun _=>U (tx>=0) (fun _=>U (tx<=5) (fun _=>U (v>=1) (fun _=>U (v<=1099511627776) (fun _=>ai (wI (S - 1) J) (U (I>=0) (fun _=>U (I<=(S - 1)) (fun _=>jk 5 5 th th tx 0 I 0 v v x 0 ab 0 (fun _=>jb 5 th tx I v x ab T V S jv) aw) aw) aw)) aw) aw) aw) aw) aw) aw)) aw) aw) aw) aw) aw) aw)
theorem W1(mc:Mc (sp []) 6 B){I:Int}(ho:dF ⟨7,th,tx,I,v,x,ab⟩/\bL T/\bL V/\bL S):bw B 26 (max Tryd.f26.ntmps 4) ph [(.agg (bn (.ofNat 7) th tx I v x ab)),(.int .i64 T),(.int .i64 V),(.int .i64 S)] (.bool (decide (aB 7 th tx I v x ab T V S))):=by
 have cu:=ho;simp only[dF,bL] at cu
 have f1:=fun h=>iB 7 th tx I v x ab T V S h
 exact wS mc 3000 ((fun(q1:Pl)=>((fun(q2:Pl)=>(gC 6 2 (.il (gC 3 2 (.fk (.go 3 (.fk (gH 2 1 (.go 4 (.il (gC 3 2 (.fk (.go 3 (.fk (gH 2 1 (.go 6 (.il (gC 3 2 (.fk (.go 3 (.fk (gH 2 1 (.go 5 (.il (.rt 5 (gA 2 23 4 (.vl (.int .i64 (T - 1)) (.il (gC 3 2 (.fk (.go 3 (.fk (gH 2 1 (.go 4 (.il (gC 3 2 (.fk (.go 3 (.fk (gH 2 1 (.go 6 (.il (gC 3 2 (.fk (.go 3 (.fk (gH 2 1 (.go 6 (.vl (.int .i64 (S - 1)) (.il (gC 3 2 (.fk (.go 3 (.fk (gH 2 1 (.go 4 (.il (gC 18 4 (.il (.rt 15 (.go 1 (.il (.rt 28 (gI 11 (.ef (.go 2 q1) (.go 2 q1)))))))))))) (gH 2 1 (.go 8 q1)))) (gH 6 1 (.go 8 q1)))))))) (gH 2 1 (.go 16 q1)))) (gH 6 1 (.go 16 q1))))))) (gH 2 1 (.go 23 q1)))) (gH 6 1 (.go 23 q1))))))) (gH 2 1 (.go 28 q1)))) (gH 6 1 (.go 28 q1))))))))))) (gH 2 1 (.go 8 q2)))) (gH 6 1 (.go 8 q2))))))) (gH 2 1 (.go 15 q2)))) (gH 6 1 (.go 15 q2))))))) (gH 2 1 (.go 20 q2)))) (gH 6 1 (.go 20 q2))))))) (gG 4))) (gG 1)) (U (T>=1) (fun _=>U (T<=6) (fun _=>U (V>=1) (fun _=>U (V<=32) (fun _=>U (S>=1) (fun _=>U (S<=V) (fun _=>ai wX (U (th>=0) (fun _=>U (th<=(T - 1)) (fun _=>U (tx>=0) (fun _=>U (tx<=5) (fun _=>U (v>=0) (fun _=>U (v<=1099511627776) (fun _=>ai (wI (S - 1) J) (U (I>=0) (fun _=>U (I<=(S - 1)) (fun _=>jk 7 7 th th tx 0 I 0 v v x 0 ab 0 (fun _=>jb 7 th tx I v x ab T V S jv) aw) aw) aw)) aw) aw) aw) aw) aw) aw)) aw) aw) aw) aw) aw) aw)
theorem Vx(mc:Mc (sp []) 6 B){I:Int}(ho:dF ⟨10,th,tx,I,v,x,ab⟩/\bL T/\bL V/\bL S):bw B 26 (max Tryd.f26.ntmps 4) ph [(.agg (bn (.ofNat 10) th tx I v x ab)),(.int .i64 T),(.int .i64 V),(.int .i64 S)] (.bool (decide (aB 10 th tx I v x ab T V S))):=by
 have cu:=ho;simp only[dF,bL] at cu
 have f1:=fun h=>iB 10 th tx I v x ab T V S h
 exact wS mc 3000 ((fun(q1:Pl)=>((fun(q2:Pl)=>((fun(q3:Pl)=>((fun(q4:Pl)=>((fun(q5:Pl)=>((fun(q6:Pl)=>((fun(q7:Pl)=>((fun(q8:Pl)=>((fun(q9:Pl)=>(gC 6 2 (.il (gC 3 2 (.fk (.go 3 (.fk (gH 2 1 (.go 4 (.il (gC 3 2 (.fk (.go 3 (.fk (gH 2 1 (.go 6 (.il (gC 3 2 (.fk (.go 3 (.fk (gH 2 1 (.go 5 (.il (.rt 5 (gA 2 22 2 (.fk (gB 3 2 (.fk (.go 5 q1) (.go 3 (.fk (.go 1 q1) (gA 1 4 4 (.vl (.int .i64 (T - 1)) (.il (gC 3 2 (.fk (.go 3 (.fk (gH 2 1 (.go 4 (.il (gC 3 2 (.fk (.go 3 (.fk (gH 2 1 (.go 6 (.il (gC 3 2 (.fk (.go 3 (.fk (gH 2 1 (.go 7 q3)) q4)) q5))))) q6)) q7))))) q8)) q9))))))))) (gB 3 2 (.fk (.go 5 q1) (.go 3 (.fk (.go 1 q1) (gA 1 4 4 (.vl (.int .i64 (T - 1)) (.il (gC 3 2 (.fk (.go 3 (.fk (gH 2 1 (.go 4 (.il (gC 3 2 (.fk (.go 3 (.fk (gH 2 1 (.go 6 (.il (gC 3 2 (.fk (.go 3 (.fk (gH 2 1 (.go 6 (.vl (.int .i64 (S - 1)) q3))) q4)) q5))))) q6)) q7))))) q8)) q9))))))))))))))) (gH 2 1 (.go 8 q1)))) (gH 6 1 (.go 8 q1))))))) (gH 2 1 (.go 15 q1)))) (gH 6 1 (.go 15 q1))))))) (gH 2 1 (.go 20 q1)))) (gH 6 1 (.go 20 q1))))))) (gH 6 1 (.go 28 q2)))) (gH 2 1 (.go 28 q2)))) (gH 6 1 (.go 23 q2)))) (gH 2 1 (.go 23 q2)))) (gH 6 1 (.go 16 q2)))) (gH 2 1 (.go 16 q2)))) (.il (gC 3 2 (.fk (.go 3 (.fk (gH 2 1 (.go 4 (.il (gC 18 4 (.il (gC 13 5 (.vl (.int .i64 ab) (gH 1 1 (.go 1 (.il (gC 16 2 (.vl (.int .u8 ab) (gA 4 9 5 (.vl (.int .i64 ab) (gH 1 1 (gB 12 4 (.il (.rt 15 (.go 1 (.il (.rt 28 (gI 11 (.ef (.go 2 q2) (.go 2 q2)))))))))))))))))))))))) (gH 2 1 (.go 8 q2)))) (gH 6 1 (.go 8 q2))))))) (gG 1))) (gG 4)) (U (T>=1) (fun _=>U (T<=6) (fun _=>U (V>=1) (fun _=>U (V<=32) (fun _=>U (S>=1) (fun _=>U (S<=V) (fun _=>U (ab=6) (fun _=>U (ab<1) aw (fun _=>U (ab>6) aw (fun _=>ai wX (U (th>=0) (fun _=>U (th<=(T - 1)) (fun _=>U (tx>=0) (fun _=>U (tx<=5) (fun _=>U (v>=0) (fun _=>U (v<=1099511627776) (fun _=>U (I>=0) (fun _=>U (I<=0) OU aw) aw) aw) aw) aw) aw) aw) aw)))) (fun _=>U (ab<1) aw (fun _=>U (ab>6) aw (fun _=>ai wX (U (th>=0) (fun _=>U (th<=(T - 1)) (fun _=>U (tx>=0) (fun _=>U (tx<=5) (fun _=>U (v>=0) (fun _=>U (v<=1099511627776) (fun _=>ai (wI (S - 1) J) (U (I>=0) (fun _=>U (I<=(S - 1)) OU aw) aw)) aw) aw) aw) aw) aw) aw))))) aw) aw) aw) aw) aw) aw)
theorem Me(mc:Mc (sp []) 6 B){I:Int}(hk:k=12\/k=13)(ho:dF ⟨k,th,tx,I,v,x,ab⟩/\bL T/\bL V/\bL S):bw B 26 (max Tryd.f26.ntmps 4) ph [(.agg (bn k th tx I v x ab)),(.int .i64 T),(.int .i64 V),(.int .i64 S)] (.bool (decide (aB k th tx I v x ab T V S))):=by
 have cu:=ho;simp only[dF,bL] at cu
 have f1:=fun h=>iB k th tx I v x ab T V S h
 have TT:=(U (T>=1) (fun _=>U (T<=6) (fun _=>U (V>=1) (fun _=>U (V<=32) (fun _=>U (S>=1) (fun _=>U (S<=V) (fun _=>ai (wI (T - 1) J) (U (th>=0) (fun _=>U (th<=(T - 1)) (fun _=>U (tx>=0) (fun _=>U (tx<=5) (fun _=>U (v>=0) (fun _=>U (v<=1099511627776) (fun _=>ai (wI (S - 1) J) (U (I>=0) (fun _=>U (I<=(S - 1)) (fun _=>jk k k th th tx 0 I 0 v 0 x 0 ab 0 (fun _=>jb k th tx I v x ab T V S dJ) (fun _=>f1 dJ)) (fun _=>f1 dJ)) (fun _=>f1 dJ))) (fun _=>f1 dJ)) (fun _=>f1 dJ)) (fun _=>f1 dJ)) (fun _=>f1 dJ)) (fun _=>f1 dJ)) (fun _=>f1 dJ))) (fun _=>f1 dJ)) (fun _=>f1 dJ)) (fun _=>f1 dJ)) (fun _=>f1 dJ)) (fun _=>f1 dJ)) (fun _=>f1 dJ))
 rcases hk with rfl|rfl
 all_goals exact wS mc 3000 ((fun(q1:Pl)=>((fun(q2:Pl)=>(gC 6 2 (.il (gC 3 2 (.fk (.go 3 (.fk (gH 2 1 (.go 4 (.il (gC 3 2 (.fk (.go 3 (.fk (gH 2 1 (.go 6 (.il (gC 3 2 (.fk (.go 3 (.fk (gH 2 1 (.go 5 (.il (.rt 5 (gA 2 23 4 (.vl (.int .i64 (T - 1)) (.il (gC 3 2 (.fk (.go 3 (.fk (gH 2 1 (.go 4 (.il (gC 3 2 (.fk (.go 3 (.fk (gH 2 1 (.go 6 (.il (gC 3 2 (.fk (.go 3 (.fk (gH 2 1 (.go 6 (.vl (.int .i64 (S - 1)) (.il (gC 3 2 (.fk (.go 3 (.fk (gH 2 1 (.go 4 (.il (.rt 17 (.ef (.go 2 q1) (.go 2 q1)))))) (gH 2 1 (.go 8 q1)))) (gH 6 1 (.go 8 q1)))))))) (gH 2 1 (.go 16 q1)))) (gH 6 1 (.go 16 q1))))))) (gH 2 1 (.go 23 q1)))) (gH 6 1 (.go 23 q1))))))) (gH 2 1 (.go 28 q1)))) (gH 6 1 (.go 28 q1))))))))))) (gH 2 1 (.go 8 q2)))) (gH 6 1 (.go 8 q2))))))) (gH 2 1 (.go 15 q2)))) (gH 6 1 (.go 15 q2))))))) (gH 2 1 (.go 20 q2)))) (gH 6 1 (.go 20 q2))))))) (gG 4))) (gG 1)) TT
theorem W2(mc:Mc (sp []) 6 B){I:Int}(hk:13<k)(ho:dF ⟨k,th,tx,I,v,x,ab⟩/\bL T/\bL V/\bL S):bw B 26 (max Tryd.f26.ntmps 4) ph [(.agg (bn k th tx I v x ab)),(.int .i64 T),(.int .i64 V),(.int .i64 S)] (.bool (decide (aB k th tx I v x ab T V S))):=by
 have cu:=ho;simp only[dF,bL] at cu
 have f1:=fun h=>iB k th tx I v x ab T V S h
 exact wS mc 3000 ((fun(q1:Pl)=>(gC 6 2 (.il (gC 3 2 (.fk (.go 3 (.fk (gH 2 1 (.go 4 (.il (gC 3 2 (.fk (.go 3 (.fk (gH 2 1 (.go 6 (.il (gC 3 2 (.fk (.go 3 (.fk (gH 2 1 (.go 5 (.il (gC 3 1 (.fk (.go 2 (.fk .no (gH 2 1 (.go 2 q1)))) (gH 5 1 (.go 2 q1))))))) (gH 2 1 (.go 8 q1)))) (gH 6 1 (.go 8 q1))))))) (gH 2 1 (.go 15 q1)))) (gH 6 1 (.go 15 q1))))))) (gH 2 1 (.go 20 q1)))) (gH 6 1 (.go 20 q1))))))) (gG 4)) (U (T>=1) (fun _=>U (T<=6) (fun _=>U (V>=1) (fun _=>U (V<=32) (fun _=>U (S>=1) (fun _=>U (S<=V) (fun _=>U (k>=1) (fun _=>U (k<=13) aA aw) aw) aw) aw) aw) aw) aw) aw)
def Cp(args:List AV)(r:AV):Prop:=∃k th tx I v x ab T V S:Int,(dF ⟨k,th,tx,I,v,x,ab⟩/\bL T/\bL V/\bL S)/\args=[.agg [.int .u8 k,.int .i64 th,.int .i64 tx,.int .i64 I,.int .i64 v,.int .i64 x,.int .u8 ab],.int .i64 T,.int .i64 V,.int .i64 S]/\r= .bool (decide (aB k th tx I v x ab T V S))
theorem S3(args:List AV)(r r':AV)(h:Cp args r)(h':Cp args r'):r=r':=by
 obtain⟨k,th,tx,I,v,x,ab,T,V,S,_,rfl,rfl⟩:=h
 obtain⟨k',Qo,tx',at',v',x',aaJ,T',V',S',_,e,rfl⟩:=h'
 simp only[List.cons.injEq,AV.agg.injEq,AV.int.injEq,true_and,_root_.and_true] at e
 obtain⟨⟨rfl,rfl,rfl,rfl,rfl,rfl,rfl⟩,rfl,rfl,rfl⟩:=e
 rfl
noncomputable def GI:FuncId×(List AV->Option AV):=(26,aY Cp)
theorem jt(k th tx I v x ab T V S:Int)(h:dF ⟨k,th,tx,I,v,x,ab⟩/\bL T/\bL V/\bL S):bj (aY Cp) [.agg [.int .u8 k,.int .i64 th,.int .i64 tx,.int .i64 I,.int .i64 v,.int .i64 x,.int .u8 ab],.int .i64 T,.int .i64 V,.int .i64 S]=some (.bool (decide (aB k th tx I v x ab T V S))):=
 l3 (mF S3 ⟨k,th,tx,I,v,x,ab,T,V,S,h,rfl,rfl⟩) rfl rfl
theorem aaL(mc:Mc (sp []) 6 B){I:Int}(h:dF ⟨k,th,tx,I,v,x,ab⟩/\bL T/\bL V/\bL S):bw B 26 (max Tryd.f26.ntmps 4) ph [.agg [.int .u8 k,.int .i64 th,.int .i64 tx,.int .i64 I,.int .i64 v,.int .i64 x,.int .u8 ab],.int .i64 T,.int .i64 V,.int .i64 S] (.bool (decide (aB k th tx I v x ab T V S))):=by
 have h1:=h.1.1
 simp only at h1
 have hk:k=0\/k=1\/k=2\/k=3\/k=4\/k=5\/k=6\/k=7\/k=8\/k=9\/k=10\/k=11\/k=12\/k=13\/13<k:=by omega
 rcases hk with rfl|rfl|rfl|rfl|rfl|rfl|rfl|rfl|rfl|rfl|rfl|rfl|rfl|rfl|hk
 ·exact WX mc h
 ·exact WY mc h
 ·exact WZ mc h
 ·exact Md mc ar h
 ·exact BJ mc ar h
 ·exact W0 mc h
 ·exact BJ mc ar h
 ·exact W1 mc h
 ·exact Md mc ar h
 ·exact BJ mc ar h
 ·exact Vx mc h
 ·exact BJ mc ar h
 ·exact Me mc ar h
 ·exact Me mc ar h
 ·exact W2 mc hk h
theorem Lu(hP:fa Tryd.prog){L:gn}(h:cC Tryd.prog FU (sp L)):cC Tryd.prog FU (sp (GI::L)):=by
 refine fJ.add hP h fJ.gr Tryd.func26 (fQ Tryd.func26 bx) bx fun args v e=>?_
 obtain⟨k,th,tx,I,v,x,ab,T,V,S,a,rfl,rfl⟩:=je e
 exact⟨bH.1 bx,fun B hB hc hl=>aaL ⟨hB,hc,hl⟩ a⟩
end gw
end
section
open Go Go.Rn Go.RowKit Go.Proofs
namespace fm
open cd cj cv
variable {p n m lb la:Nat} {B:aZ} {v:AV} {i:Int}
structure Cm where
 th:Int
 tx:Int
 wv:Int
deriving DecidableEq,Inhabited
def bO(c:Cm):List AV:=[.int .i64 c.th,.int .i64 c.tx,.int .i64 c.wv]
theorem eC:lv 3 bO:=⟨fun _=>rfl,fun _=>rfl⟩
theorem Da{x y:Cm}(h:x.th=y.th/\x.tx=y.tx/\x.wv=y.wv):x=y:=by
 obtain⟨a,b,c⟩:=x;obtain⟨d,e,f⟩:=y;obtain⟨h1,h2,h3⟩:=h
 simp only at h1 h2 h3;subst h1;subst h2;subst h3;rfl
theorem Bw(x y:Cm)(h:bO x=bO y):x=y:=by
 simp only[bO,List.cons.injEq,AV.int.injEq,true_and,_root_.and_true] at h
 exact Da h
theorem I0{A B:Prop}(a1 b1 a2 b2 a3 b3:Int)(x:(a1=b1/\a2=b2/\a3=b3)->A)(y:¬(a1=b1/\a2=b2/\a3=b3)->B):(allEq [(a1,b1),(a2,b2),(a3,b3)]=true->A)/\(allEq [(a1,b1),(a2,b2),(a3,b3)]=false->B):=by
 have e:allEq [(a1,b1),(a2,b2),(a3,b3)]=true↔(a1=b1/\a2=b2/\a3=b3):=by simp[allEq]
 exact⟨fun h=>x (e.1 h),fun h=>y fun q=>by rw[e.2 q] at h;cases h⟩
def lI(n o la m p lb:Nat)(i:Int):List (Nat×AV):=[(0,(.ae n o la)),(1,(.ae m p lb)),(5,(.int .i64 i))]
noncomputable def qK(n o la m p lb:Nat)(i:Int):AF:=⟨13,eS (lI n o la m p lb i),26,[.code (aO Tryd.prog 13 [1,1,0,1,0,0]),.inLoop (aO Tryd.prog 13 [1,1,0,1,0,0]),.inBlock 0,.code (aO Tryd.prog 13 [1,1,1])],[],none⟩
theorem Nd(n o la m p lb:Nat)(i:Int)(q:Prop)(h:q):((lI n o la m p lb i).map (fun q=>some q.2)=(lI n o la m p lb i).map (fun q=>some q.2))/\(ay.map (fun q=>q.2)=ay.map (fun q=>q.2))/\(qK n o la m p lb i=qK n o la m p lb i/\aM ay 270=aM ay 270/\q):=⟨rfl,rfl,rfl,rfl,h⟩
theorem M7(b:Bool)(h:v= .bool b):AV.bool b=v:=h.symm
theorem W3(mc:Mc (sp []) 6 B){o:Nat}{x y:Int}(hn:top<=n)(hm:top<=m)(hlen:la<=1000)(iZ:la=lb)(hx:i<(la:Int)->bM FU n (o+i.toNat*1) 1=some (aK x))(hy:i<(lb:Int)->bM FU m (p+i.toNat*1) 1=some (aK y))(h0:0<=i)(h1:i<(la:Int))(hF:¬(i<(lb:Int)/\(x=y))->v= .bool false)(H:i<(lb:Int)/\(x=y)->Sm B uz v (qK n o la m p lb (i+1)) (aM ay 270)):Sm B uz v (qK n o la m p lb i) (aM ay 270):=by
 exact wC mc (C:=(fun fr s1 _=>fr=qK n o la m p lb (i+1)/\s1=aM ay 270/\(i<(lb:Int)/\(x=y)))) p8 900 (gC 2 3 (.fk (gB 5 2 (.bI (.bJ [(.int .i64 x)] (.go 2 (.bI (.bJ [(.int .i64 y)] (.fk (gG 4) (gB 3 1 (.vl (.int .i64 (i+1)) (gK 1 1 (.ls (lI n o la m p lb (i+1)) ay 270 .no))))))))))) .no)) (U (i<(la:Int)) (fun _=>aV i (la:Int) J J (ai hn (ai (hx J) (aV i (lb:Int) J J (ai hm (ai (hy J) (U (x≠y) p9 (fun _=>ai cS (Nd n o la m p lb (i+1) (i<(lb:Int)/\(x=y)) J))))))))) aA)
theorem W4(mc:Mc (sp []) 6 B){o:Nat}(hi:(la:Int)<=i):Sm B uz (.bool true) (qK n o la m p lb i) (aM ay 270):=by
 exact wS mc 900 (gC 2 3 (.fk .no (gG 5))) zE
theorem W5(mc:Mc (sp []) 6 B){o:Nat}(hF:¬(la=lb)->v= .bool false)(H:la=lb->Sm B uz v (qK n o la m p lb 0) (aM ay 270)):bw B 13 (max Tryd.f13.ntmps 2) uz [(.ae n o la),(.ae m p lb)] v:=by
 exact wC mc (C:=(fun fr s1 _=>fr=qK n o la m p lb 0/\s1=aM ay 270/\(la=lb))) p8 900 (gC 4 4 (.fk (gG 4) (gL 7 (.ls (lI n o la m p lb 0) ay 270 .no)))) (U ((la:Int)≠(lb:Int)) p9 (fun _=>Nd n o la m p lb 0 (la=lb) J))
theorem W6(mc:Mc (sp []) 6 B){o:Nat}{a b:List Int}(h:bt aK 1 (.ae n o la) a)(h':bt aK 1 (.ae m p lb) b)(hlen:la<=1000):bw B 13 (max Tryd.f13.ntmps 2) uz [.ae n o la,.ae m p lb] (.bool (decide (a=b))):=by
  obtain⟨dS,hn,cF⟩:=h.len
  obtain⟨iZ,hm,pa⟩:=h'.len
  refine W5 mc (fun q=>?_) (fun oa=>?_)
  · rw[decide_eq_false (fun e=>q (by rw[←dS, ←iZ,e]))]
  have key:∀j k:Nat,k+j=la->Sm B uz (.bool (decide (a.drop k=b.drop k))) (qK n o la m p lb k) (aM ay 270):=by
    intro j
    induction j with
    | zero=>
      intro k hk
      have e:decide (a.drop k=b.drop k)=true:=decide_eq_true C3
      rw[e];exact W4 mc J
    | succ j ih=>
      intro k hk
      have lB:k<a.length:=by omega
      have e2:((k:Int)+1)=((k+1:Nat):Int):=by omega
      obtain⟨y,hy⟩:∃y,k<lb->b[k]? =some y:=by
        by_cases q:k<b.length
        · exact⟨b[k],fun _=>List.getElem?_eq_getElem q⟩
        · exact⟨a[k],fun z=>absurd z J⟩
      have da:a.drop k=a[k]::a.drop (k+1):=List.drop_eq_getElem_cons lB
      have db:k<lb->b.drop k=y::b.drop (k+1):=fun q=>by
        have q2:k<b.length:=by omega
        have:=hy q
        rw[List.getElem?_eq_getElem q2] at this
        injection this with this
        rw[List.drop_eq_getElem_cons q2,this]
      refine W3 (x:=a[k]) (y:=y) mc hn hm hlen oa (fun _=>by rw[Int.toNat_natCast];exact cF k _ (List.getElem?_eq_getElem lB)) (fun q=>by rw[Int.toNat_natCast];exact pa k y (hy J)) J J (fun q=>?_) (fun q=>?_)
      · rw[decide_eq_false]
        intro e
        refine q ?_
        have ry:k<lb:=by omega
        rw[da,db ry] at e
        injection e with e1 _
        rw[e1]
        exact⟨by omega,rfl⟩
      · obtain⟨q1,q2⟩:=q
        have q3:a[k]=y:=(fun q=>q) q2
        have e:decide (a.drop k=b.drop k)=decide (a.drop (k+1)=b.drop (k+1)):=by
          rw[da,db J,q3]
          simp only[List.cons.injEq,true_and]
        rw[e,e2];exact ih (k+1) J
  exact key la 0 J
def pO(n o la m p lb:Nat)(i:Int):List (Nat×AV):=[(0,(.ae n o la)),(1,(.ae m p lb)),(12,(.int .i64 ((la:Int)))),(13,(.int .i64 i))]
noncomputable def qL(n o la m p lb:Nat)(i:Int):AF:=⟨19,eS (pO n o la m p lb i),26,[.code (aO Tryd.prog 19 [1,1,0,1,0,0]),.inLoop (aO Tryd.prog 19 [1,1,0,1,0,0]),.inBlock 0,.code (aO Tryd.prog 19 [1,1,1])],[],none⟩
theorem Nf(n o la m p lb:Nat)(i:Int)(q:Prop)(h:q):((pO n o la m p lb i).map (fun q=>some q.2)=(pO n o la m p lb i).map (fun q=>some q.2))/\(ay.map (fun q=>q.2)=ay.map (fun q=>q.2))/\(qL n o la m p lb i=qL n o la m p lb i/\aM ay 270=aM ay 270/\q):=⟨rfl,rfl,rfl,rfl,h⟩
theorem W7(mc:Mc (sp []) 6 B){o:Nat}{x y:Int}(hn:top<=n)(hm:top<=m)(hlen:la<=1000)(iZ:la=lb)(hx:i<(la:Int)->bM FU n (o+i.toNat*1) 1=some (aK x))(hy:i<(lb:Int)->bM FU m (p+i.toNat*1) 1=some (aK y))(h0:0<=i)(h1:i<(la:Int))(hF:¬(i<(lb:Int)/\(x=y))->v= .bool false)(H:i<(lb:Int)/\(x=y)->Sm B uB v (qL n o la m p lb (i+1)) (aM ay 270)):Sm B uB v (qL n o la m p lb i) (aM ay 270):=by
 exact wC mc (C:=(fun fr s1 _=>fr=qL n o la m p lb (i+1)/\s1=aM ay 270/\(i<(lb:Int)/\(x=y)))) p8 900 (gJ 1 (.fk (gB 8 2 (.bI (.bJ [(.int .i64 x)] (.go 2 (.bI (.bJ [(.int .i64 y)] (.fk (gG 4) (gE 3 (.vl (.int .i64 (i+1)) (gK 1 1 (.ls (pO n o la m p lb (i+1)) ay 270 .no))))))))))) .no)) (U (i<(la:Int)) (fun _=>aV i (la:Int) J J (ai hn (ai (hx J) (aV i (lb:Int) J J (ai hm (ai (hy J) (U (x≠y) p9 (fun _=>ai cS (Nf n o la m p lb (i+1) (i<(lb:Int)/\(x=y)) J))))))))) aA)
theorem W8(mc:Mc (sp []) 6 B){o:Nat}(hi:(la:Int)<=i):Sm B uB (.bool true) (qL n o la m p lb i) (aM ay 270):=by
 exact wS mc 900 (gJ 1 (.fk .no (gG 6))) zE
theorem W9(mc:Mc (sp []) 6 B){o:Nat}(hF:¬(la=lb)->v= .bool false)(H:la=lb->Sm B uB v (qL n o la m p lb 0) (aM ay 270)):bw B 19 (max Tryd.f19.ntmps 2) uB [(.ae n o la),(.ae m p lb)] v:=by
 exact wC mc (C:=(fun fr s1 _=>fr=qL n o la m p lb 0/\s1=aM ay 270/\(la=lb))) p8 900 (gC 4 4 (.fk (gG 4) (gL 7 (.ls (pO n o la m p lb 0) ay 270 .no)))) (U ((la:Int)≠(lb:Int)) p9 (fun _=>Nf n o la m p lb 0 (la=lb) J))
theorem Xa(mc:Mc (sp []) 6 B){o:Nat}{a b:List Int}(h:bt aK 1 (.ae n o la) a)(h':bt aK 1 (.ae m p lb) b)(hlen:la<=1000):bw B 19 (max Tryd.f19.ntmps 2) uB [.ae n o la,.ae m p lb] (.bool (decide (a=b))):=by
  obtain⟨dS,hn,cF⟩:=h.len
  obtain⟨iZ,hm,pa⟩:=h'.len
  refine W9 mc (fun q=>?_) (fun oa=>?_)
  · rw[decide_eq_false (fun e=>q (by rw[←dS, ←iZ,e]))]
  have key:∀j k:Nat,k+j=la->Sm B uB (.bool (decide (a.drop k=b.drop k))) (qL n o la m p lb k) (aM ay 270):=by
    intro j
    induction j with
    | zero=>
      intro k hk
      have e:decide (a.drop k=b.drop k)=true:=decide_eq_true C3
      rw[e];exact W8 mc J
    | succ j ih=>
      intro k hk
      have lB:k<a.length:=by omega
      have e2:((k:Int)+1)=((k+1:Nat):Int):=by omega
      obtain⟨y,hy⟩:∃y,k<lb->b[k]? =some y:=by
        by_cases q:k<b.length
        · exact⟨b[k],fun _=>List.getElem?_eq_getElem q⟩
        · exact⟨a[k],fun z=>absurd z J⟩
      have da:a.drop k=a[k]::a.drop (k+1):=List.drop_eq_getElem_cons lB
      have db:k<lb->b.drop k=y::b.drop (k+1):=fun q=>by
        have q2:k<b.length:=by omega
        have:=hy q
        rw[List.getElem?_eq_getElem q2] at this
        injection this with this
        rw[List.drop_eq_getElem_cons q2,this]
      refine W7 (x:=a[k]) (y:=y) mc hn hm hlen oa (fun _=>by rw[Int.toNat_natCast];exact cF k _ (List.getElem?_eq_getElem lB)) (fun q=>by rw[Int.toNat_natCast];exact pa k y (hy J)) J J (fun q=>?_) (fun q=>?_)
      · rw[decide_eq_false]
        intro e
        refine q ?_
        have ry:k<lb:=by omega
        rw[da,db ry] at e
        injection e with e1 _
        rw[e1]
        exact⟨by omega,rfl⟩
      · obtain⟨q1,q2⟩:=q
        have q3:a[k]=y:=(fun q=>q) q2
        have e:decide (a.drop k=b.drop k)=decide (a.drop (k+1)=b.drop (k+1)):=by
          rw[da,db J,q3]
          simp only[List.cons.injEq,true_and]
        rw[e,e2];exact ih (k+1) J
  exact key la 0 J
noncomputable def qC(n o la m p lb:Nat)(i:Int):AF:=⟨6,eS (lI n o la m p lb i),26,[.code (aO Tryd.prog 6 [1,1,0,1,0,0]),.inLoop (aO Tryd.prog 6 [1,1,0,1,0,0]),.inBlock 0,.code (aO Tryd.prog 6 [1,1,1])],[],none⟩
theorem Mf(n o la m p lb:Nat)(i:Int)(q:Prop)(h:q):((lI n o la m p lb i).map (fun q=>some q.2)=(lI n o la m p lb i).map (fun q=>some q.2))/\(ay.map (fun q=>q.2)=ay.map (fun q=>q.2))/\(qC n o la m p lb i=qC n o la m p lb i/\aM ay 270=aM ay 270/\q):=⟨rfl,rfl,rfl,rfl,h⟩
theorem Vy(mc:Mc (sp []) 6 B){o:Nat}{x y:Cm}(hn:top<=n)(hm:top<=m)(hlen:la<=1000)(iZ:la=lb)(hx:i<(la:Int)->bM FU n (o+i.toNat*3) 3=some (bO x))(hy:i<(lb:Int)->bM FU m (p+i.toNat*3) 3=some (bO y))(h0:0<=i)(h1:i<(la:Int))(hF:¬(i<(lb:Int)/\(x.th=y.th/\x.tx=y.tx/\x.wv=y.wv))->v= .bool false)(H:i<(lb:Int)/\(x.th=y.th/\x.tx=y.tx/\x.wv=y.wv)->Sm B vw v (qC n o la m p lb (i+1)) (aM ay 270)):Sm B vw v (qC n o la m p lb i) (aM ay 270):=by
 exact wC mc (C:=(fun fr s1 _=>fr=qC n o la m p lb (i+1)/\s1=aM ay 270/\(i<(lb:Int)/\(x.th=y.th/\x.tx=y.tx/\x.wv=y.wv)))) p8 900 (gC 2 3 (.fk (gB 5 2 (.bI (.bJ [(.int .i64 x.th),(.int .i64 x.tx),(.int .i64 x.wv)] (.go 2 (.bI (.bJ [(.int .i64 y.th),(.int .i64 y.tx),(.int .i64 y.wv)] (.ef (gB 3 1 (.vl (.int .i64 (i+1)) (gK 1 1 (.ls (lI n o la m p lb (i+1)) ay 270 .no)))) (gG 4)))))))) .no)) (U (i<(la:Int)) (fun _=>aV i (la:Int) J J (ai hn (ai (hx J) (aV i (lb:Int) J J (ai hm (ai (hy J) (I0 x.th y.th x.tx y.tx x.wv y.wv (fun _=>ai cS (Mf n o la m p lb (i+1) (i<(lb:Int)/\(x.th=y.th/\x.tx=y.tx/\x.wv=y.wv)) J)) p9))))))) aA)
theorem Vz(mc:Mc (sp []) 6 B){o:Nat}(hi:(la:Int)<=i):Sm B vw (.bool true) (qC n o la m p lb i) (aM ay 270):=by
 exact wS mc 900 (gC 2 3 (.fk .no (gG 5))) zE
theorem VA(mc:Mc (sp []) 6 B){o:Nat}(hF:¬(la=lb)->v= .bool false)(H:la=lb->Sm B vw v (qC n o la m p lb 0) (aM ay 270)):bw B 6 (max Tryd.f6.ntmps 2) vw [(.ae n o la),(.ae m p lb)] v:=by
 exact wC mc (C:=(fun fr s1 _=>fr=qC n o la m p lb 0/\s1=aM ay 270/\(la=lb))) p8 900 (gC 4 4 (.fk (gG 4) (gL 7 (.ls (lI n o la m p lb 0) ay 270 .no)))) (U ((la:Int)≠(lb:Int)) p9 (fun _=>Mf n o la m p lb 0 (la=lb) J))
theorem VB(mc:Mc (sp []) 6 B){o:Nat}{a b:List Cm}(h:bt bO 3 (.ae n o la) a)(h':bt bO 3 (.ae m p lb) b)(hlen:la<=1000):bw B 6 (max Tryd.f6.ntmps 2) vw [.ae n o la,.ae m p lb] (.bool (decide (a=b))):=by
  obtain⟨dS,hn,cF⟩:=h.len
  obtain⟨iZ,hm,pa⟩:=h'.len
  refine VA mc (fun q=>?_) (fun oa=>?_)
  · rw[decide_eq_false (fun e=>q (by rw[←dS, ←iZ,e]))]
  have key:∀j k:Nat,k+j=la->Sm B vw (.bool (decide (a.drop k=b.drop k))) (qC n o la m p lb k) (aM ay 270):=by
    intro j
    induction j with
    | zero=>
      intro k hk
      have e:decide (a.drop k=b.drop k)=true:=decide_eq_true C3
      rw[e];exact Vz mc J
    | succ j ih=>
      intro k hk
      have lB:k<a.length:=by omega
      have e2:((k:Int)+1)=((k+1:Nat):Int):=by omega
      obtain⟨y,hy⟩:∃y,k<lb->b[k]? =some y:=by
        by_cases q:k<b.length
        · exact⟨b[k],fun _=>List.getElem?_eq_getElem q⟩
        · exact⟨a[k],fun z=>absurd z J⟩
      have da:a.drop k=a[k]::a.drop (k+1):=List.drop_eq_getElem_cons lB
      have db:k<lb->b.drop k=y::b.drop (k+1):=fun q=>by
        have q2:k<b.length:=by omega
        have:=hy q
        rw[List.getElem?_eq_getElem q2] at this
        injection this with this
        rw[List.drop_eq_getElem_cons q2,this]
      refine Vy (x:=a[k]) (y:=y) mc hn hm hlen oa (fun _=>by rw[Int.toNat_natCast];exact cF k _ (List.getElem?_eq_getElem lB)) (fun q=>by rw[Int.toNat_natCast];exact pa k y (hy J)) J J (fun q=>?_) (fun q=>?_)
      · rw[decide_eq_false]
        intro e
        refine q ?_
        have ry:k<lb:=by omega
        rw[da,db ry] at e
        injection e with e1 _
        rw[e1]
        exact⟨by omega,rfl,rfl,rfl⟩
      · obtain⟨q1,q2⟩:=q
        have q3:a[k]=y:=(Da) q2
        have e:decide (a.drop k=b.drop k)=decide (a.drop (k+1)=b.drop (k+1)):=by
          rw[da,db J,q3]
          simp only[List.cons.injEq,true_and]
        rw[e,e2];exact ih (k+1) J
  exact key la 0 J
noncomputable def qM(n o la m p lb:Nat)(i:Int):AF:=⟨14,eS (pO n o la m p lb i),26,[.code (aO Tryd.prog 14 [1,1,0,1,0,0]),.inLoop (aO Tryd.prog 14 [1,1,0,1,0,0]),.inBlock 0,.code (aO Tryd.prog 14 [1,1,1])],[],none⟩
theorem Ng(n o la m p lb:Nat)(i:Int)(q:Prop)(h:q):((pO n o la m p lb i).map (fun q=>some q.2)=(pO n o la m p lb i).map (fun q=>some q.2))/\(ay.map (fun q=>q.2)=ay.map (fun q=>q.2))/\(qM n o la m p lb i=qM n o la m p lb i/\aM ay 270=aM ay 270/\q):=⟨rfl,rfl,rfl,rfl,h⟩
theorem Xb(mc:Mc (sp []) 6 B){o:Nat}{x y:Cm}(hn:top<=n)(hm:top<=m)(hlen:la<=1000)(iZ:la=lb)(hx:i<(la:Int)->bM FU n (o+i.toNat*3) 3=some (bO x))(hy:i<(lb:Int)->bM FU m (p+i.toNat*3) 3=some (bO y))(h0:0<=i)(h1:i<(la:Int))(hF:¬(i<(lb:Int)/\(x.th=y.th/\x.tx=y.tx/\x.wv=y.wv))->v= .bool false)(H:i<(lb:Int)/\(x.th=y.th/\x.tx=y.tx/\x.wv=y.wv)->Sm B uA v (qM n o la m p lb (i+1)) (aM ay 270)):Sm B uA v (qM n o la m p lb i) (aM ay 270):=by
 exact wC mc (C:=(fun fr s1 _=>fr=qM n o la m p lb (i+1)/\s1=aM ay 270/\(i<(lb:Int)/\(x.th=y.th/\x.tx=y.tx/\x.wv=y.wv)))) p8 900 (gJ 1 (.fk (gB 8 2 (.bI (.bJ [(.int .i64 x.th),(.int .i64 x.tx),(.int .i64 x.wv)] (.go 2 (.bI (.bJ [(.int .i64 y.th),(.int .i64 y.tx),(.int .i64 y.wv)] (.ef (gE 3 (.vl (.int .i64 (i+1)) (gK 1 1 (.ls (pO n o la m p lb (i+1)) ay 270 .no)))) (gG 4)))))))) .no)) (U (i<(la:Int)) (fun _=>aV i (la:Int) J J (ai hn (ai (hx J) (aV i (lb:Int) J J (ai hm (ai (hy J) (I0 x.th y.th x.tx y.tx x.wv y.wv (fun _=>ai cS (Ng n o la m p lb (i+1) (i<(lb:Int)/\(x.th=y.th/\x.tx=y.tx/\x.wv=y.wv)) J)) p9))))))) aA)
theorem Xc(mc:Mc (sp []) 6 B){o:Nat}(hi:(la:Int)<=i):Sm B uA (.bool true) (qM n o la m p lb i) (aM ay 270):=by
 exact wS mc 900 (gJ 1 (.fk .no (gG 6))) zE
theorem Xd(mc:Mc (sp []) 6 B){o:Nat}(hF:¬(la=lb)->v= .bool false)(H:la=lb->Sm B uA v (qM n o la m p lb 0) (aM ay 270)):bw B 14 (max Tryd.f14.ntmps 2) uA [(.ae n o la),(.ae m p lb)] v:=by
 exact wC mc (C:=(fun fr s1 _=>fr=qM n o la m p lb 0/\s1=aM ay 270/\(la=lb))) p8 900 (gC 4 4 (.fk (gG 4) (gL 7 (.ls (pO n o la m p lb 0) ay 270 .no)))) (U ((la:Int)≠(lb:Int)) p9 (fun _=>Ng n o la m p lb 0 (la=lb) J))
theorem Xe(mc:Mc (sp []) 6 B){o:Nat}{a b:List Cm}(h:bt bO 3 (.ae n o la) a)(h':bt bO 3 (.ae m p lb) b)(hlen:la<=1000):bw B 14 (max Tryd.f14.ntmps 2) uA [.ae n o la,.ae m p lb] (.bool (decide (a=b))):=by
  obtain⟨dS,hn,cF⟩:=h.len
  obtain⟨iZ,hm,pa⟩:=h'.len
  refine Xd mc (fun q=>?_) (fun oa=>?_)
  · rw[decide_eq_false (fun e=>q (by rw[←dS, ←iZ,e]))]
  have key:∀j k:Nat,k+j=la->Sm B uA (.bool (decide (a.drop k=b.drop k))) (qM n o la m p lb k) (aM ay 270):=by
    intro j
    induction j with
    | zero=>
      intro k hk
      have e:decide (a.drop k=b.drop k)=true:=decide_eq_true C3
      rw[e];exact Xc mc J
    | succ j ih=>
      intro k hk
      have lB:k<a.length:=by omega
      have e2:((k:Int)+1)=((k+1:Nat):Int):=by omega
      obtain⟨y,hy⟩:∃y,k<lb->b[k]? =some y:=by
        by_cases q:k<b.length
        · exact⟨b[k],fun _=>List.getElem?_eq_getElem q⟩
        · exact⟨a[k],fun z=>absurd z J⟩
      have da:a.drop k=a[k]::a.drop (k+1):=List.drop_eq_getElem_cons lB
      have db:k<lb->b.drop k=y::b.drop (k+1):=fun q=>by
        have q2:k<b.length:=by omega
        have:=hy q
        rw[List.getElem?_eq_getElem q2] at this
        injection this with this
        rw[List.drop_eq_getElem_cons q2,this]
      refine Xb (x:=a[k]) (y:=y) mc hn hm hlen oa (fun _=>by rw[Int.toNat_natCast];exact cF k _ (List.getElem?_eq_getElem lB)) (fun q=>by rw[Int.toNat_natCast];exact pa k y (hy J)) J J (fun q=>?_) (fun q=>?_)
      · rw[decide_eq_false]
        intro e
        refine q ?_
        have ry:k<lb:=by omega
        rw[da,db ry] at e
        injection e with e1 _
        rw[e1]
        exact⟨by omega,rfl,rfl,rfl⟩
      · obtain⟨q1,q2⟩:=q
        have q3:a[k]=y:=(Da) q2
        have e:decide (a.drop k=b.drop k)=decide (a.drop (k+1)=b.drop (k+1)):=by
          rw[da,db J,q3]
          simp only[List.cons.injEq,true_and]
        rw[e,e2];exact ih (k+1) J
  exact key la 0 J
noncomputable def qN(n o la m p lb:Nat)(i:Int):AF:=⟨8,eS (lI n o la m p lb i),27,[.code (aO Tryd.prog 8 [1,0,1,0,0]),.inLoop (aO Tryd.prog 8 [1,0,1,0,0]),.inBlock 0,.code (aO Tryd.prog 8 [1,1])],[],none⟩
theorem Nh(n o la m p lb:Nat)(i:Int)(q:Prop)(h:q):((lI n o la m p lb i).map (fun q=>some q.2)=(lI n o la m p lb i).map (fun q=>some q.2))/\(ay.map (fun q=>q.2)=ay.map (fun q=>q.2))/\(qN n o la m p lb i=qN n o la m p lb i/\aM ay 270=aM ay 270/\q):=⟨rfl,rfl,rfl,rfl,h⟩
theorem Xf(mc:Mc (sp []) 6 B){o:Nat}{x y:Cm}(hn:top<=n)(hm:top<=m)(hlen:la<=1000)(hx:i<(la:Int)->bM FU n (o+i.toNat*3) 3=some (bO x))(hy:i<(lb:Int)->bM FU m (p+i.toNat*3) 3=some (bO y))(h0:0<=i)(h1:i<(la:Int))(hF:¬(i<(lb:Int)/\(x.th=y.th/\x.tx=y.tx/\x.wv=y.wv))->v= .bool false)(H:i<(lb:Int)/\(x.th=y.th/\x.tx=y.tx/\x.wv=y.wv)->Sm B vx v (qN n o la m p lb (i+1)) (aM ay 270)):Sm B vx v (qN n o la m p lb i) (aM ay 270):=by
 exact wC mc (C:=(fun fr s1 _=>fr=qN n o la m p lb (i+1)/\s1=aM ay 270/\(i<(lb:Int)/\(x.th=y.th/\x.tx=y.tx/\x.wv=y.wv)))) p8 900 (gC 2 3 (.fk (gB 5 3 (.fk (gF 11 4) (.go 3 (.bI (.bJ [(.int .i64 x.th),(.int .i64 x.tx),(.int .i64 x.wv)] (.go 2 (.bI (.bJ [(.int .i64 y.th),(.int .i64 y.tx),(.int .i64 y.wv)] (.ef (gA 1 3 1 (.vl (.int .i64 (i+1)) (gK 1 1 (.ls (lI n o la m p lb (i+1)) ay 270 .no)))) (gF 1 4)))))))))) .no)) (U (i<(la:Int)) (fun _=>U (i>=(lb:Int)) p9 (fun _=>aV i (la:Int) J J (ai hn (ai (hx J) (aV i (lb:Int) J J (ai hm (ai (hy J) (I0 x.th y.th x.tx y.tx x.wv y.wv (fun _=>ai cS (Nh n o la m p lb (i+1) (i<(lb:Int)/\(x.th=y.th/\x.tx=y.tx/\x.wv=y.wv)) J)) p9)))))))) aA)
theorem Xg(mc:Mc (sp []) 6 B){o:Nat}(hi:(la:Int)<=i):Sm B vx (.bool true) (qN n o la m p lb i) (aM ay 270):=by
 exact wS mc 900 (gC 2 3 (.fk .no (gG 5))) zE
theorem Xh(mc:Mc (sp []) 6 B){o:Nat}(hF:¬(True)->v= .bool false)(H:True->Sm B vx v (qN n o la m p lb 0) (aM ay 270)):bw B 8 (max Tryd.f8.ntmps 2) vx [(.ae n o la),(.ae m p lb)] v:=by
 exact wC mc (C:=(fun fr s1 _=>fr=qN n o la m p lb 0/\s1=aM ay 270/\(True))) p8 900 (.st 7 (.ls (lI n o la m p lb 0) ay 270 .no)) (Nh n o la m p lb 0 True trivial)
theorem Xi(mc:Mc (sp []) 6 B){o:Nat}{a b:List Cm}(h:bt bO 3 (.ae n o la) a)(h':bt bO 3 (.ae m p lb) b)(hlen:la<=1000):bw B 8 (max Tryd.f8.ntmps 2) vx [.ae n o la,.ae m p lb] (.bool (decide (a<+:b))):=by
  obtain⟨dS,hn,cF⟩:=h.len
  obtain⟨iZ,hm,pa⟩:=h'.len
  refine Xh mc (fun q=>?_) (fun oa=>?_)
  · exact absurd trivial q
  have key:∀j k:Nat,k+j=la->Sm B vx (.bool (decide (a.drop k<+:b.drop k))) (qN n o la m p lb k) (aM ay 270):=by
    intro j
    induction j with
    | zero=>
      intro k hk
      have e:decide (a.drop k<+:b.drop k)=true:=decide_eq_true (by rw[List.drop_of_length_le (l:=a) J];exact List.nil_prefix)
      rw[e];exact Xg mc J
    | succ j ih=>
      intro k hk
      have lB:k<a.length:=by omega
      have e2:((k:Int)+1)=((k+1:Nat):Int):=by omega
      obtain⟨y,hy⟩:∃y,k<lb->b[k]? =some y:=by
        by_cases q:k<b.length
        · exact⟨b[k],fun _=>List.getElem?_eq_getElem q⟩
        · exact⟨a[k],fun z=>absurd z J⟩
      have da:a.drop k=a[k]::a.drop (k+1):=List.drop_eq_getElem_cons lB
      have db:k<lb->b.drop k=y::b.drop (k+1):=fun q=>by
        have q2:k<b.length:=by omega
        have:=hy q
        rw[List.getElem?_eq_getElem q2] at this
        injection this with this
        rw[List.drop_eq_getElem_cons q2,this]
      refine Xf (x:=a[k]) (y:=y) mc hn hm hlen (fun _=>by rw[Int.toNat_natCast];exact cF k _ (List.getElem?_eq_getElem lB)) (fun q=>by rw[Int.toNat_natCast];exact pa k y (hy J)) J J (fun q=>?_) (fun q=>?_)
      · rw[decide_eq_false]
        intro e
        refine q ?_
        have ry:k<lb:=by have:=e.length_le;rw[da,List.length_cons,List.length_drop,List.length_drop] at this;omega
        rw[da,db ry] at e
        obtain⟨e1,_⟩:=List.cons_prefix_cons.1 e
        rw[e1]
        exact⟨by omega,rfl,rfl,rfl⟩
      · obtain⟨q1,q2⟩:=q
        have q3:a[k]=y:=(Da) q2
        have e:decide (a.drop k<+:b.drop k)=decide (a.drop (k+1)<+:b.drop (k+1)):=by
          rw[da,db J,q3]
          simp only[List.cons_prefix_cons,true_and]
        rw[e,e2];exact ih (k+1) J
  exact key la 0 J
end fm
end
section
open Go Go.Rn Go.RowKit Go.Proofs
namespace gk
open cd cj cv cD cH cI fJ fm cN
variable {L:gn} {α:Type} {enc:α->List AV} {K:Nat}
def R2(enc:α->List AV)(K:Nat)(f:List α->List α->AV)(args:List AV)(v:AV):Prop:=∃n o la m p lb a b,args=[.ae n o la,.ae m p lb]/\bt enc K (.ae n o la) a/\bt enc K (.ae m p lb) b/\la<=1000/\v=f a b
theorem Xj{f:List α->List α->AV}(nR:∀x y,enc x=enc y->x=y)(args:List AV)(v v':AV)(h:R2 enc K f args v)(h':R2 enc K f args v'):v=v':=by
 obtain⟨n,o,la,m,p,lb,a,b,rfl,h1,h2,_,rfl⟩:=h
 obtain⟨n',o',la',m',p',lb',a',b',e,gX,lS,_,rfl⟩:=h'
 simp only[List.cons.injEq,AV.ae.injEq,_root_.and_true] at e
 obtain⟨⟨rfl,rfl,rfl⟩,rfl,rfl,rfl⟩:=e
 rw[h1.inj nR gX,h2.inj nR lS]
theorem uM(f:List α->List α->AV)(nR:∀x y,enc x=enc y->x=y){n o la m p lb:Nat}{a b:List α}(h1:bt enc K (.ae n o la) a)(h2:bt enc K (.ae m p lb) b)(h:la<=1000)(hf:(f a b).hi=true):bj (aY (R2 enc K f)) [.ae n o la,.ae m p lb]=some (f a b):=
 l3 (mF (Xj nR) ⟨n,o,la,m,p,lb,a,b,rfl,h1,h2,h,rfl⟩) (by rw[List.all_cons,List.all_cons,h1.hi,h2.hi];rfl) hf
def jc [DecidableEq α](a b:List α):AV:=.bool (decide (a=b))
def xw(a b:List Cm):AV:=.bool (decide (a<+:b))
noncomputable def HE:FuncId×(List AV->Option AV):=(13,aY (R2 aK 1 jc))
noncomputable def Pb:FuncId×(List AV->Option AV):=(19,aY (R2 aK 1 jc))
noncomputable def N7:FuncId×(List AV->Option AV):=(6,aY (R2 bO 3 jc))
noncomputable def HF:FuncId×(List AV->Option AV):=(14,aY (R2 bO 3 jc))
noncomputable def Pc:FuncId×(List AV->Option AV):=(8,aY (R2 bO 3 xw))
theorem Mg(hP:fa Tryd.prog)(h:cC Tryd.prog FU (sp L)):cC Tryd.prog FU (sp (HE::L)):=by
 refine add hP h gr Tryd.func13 (fQ Tryd.func13 bx) bx fun args v e=>?_
 obtain⟨n,o,la,m,p,lb,a,b,rfl,h1,h2,h3,rfl⟩:=je e
 exact⟨bH.1 bx,fun B hB hc hl=>W6 ⟨hB,hc,hl⟩ h1 h2 h3⟩
theorem VC(hP:fa Tryd.prog)(h:cC Tryd.prog FU (sp L)):cC Tryd.prog FU (sp (Pb::L)):=by
 refine add hP h gr Tryd.func19 (fQ Tryd.func19 bx) bx fun args v e=>?_
 obtain⟨n,o,la,m,p,lb,a,b,rfl,h1,h2,h3,rfl⟩:=je e
 exact⟨bH.1 bx,fun B hB hc hl=>Xa ⟨hB,hc,hl⟩ h1 h2 h3⟩
theorem Ul(hP:fa Tryd.prog)(h:cC Tryd.prog FU (sp L)):cC Tryd.prog FU (sp (N7::L)):=by
 refine add hP h gr Tryd.func6 (fQ Tryd.func6 bx) bx fun args v e=>?_
 obtain⟨n,o,la,m,p,lb,a,b,rfl,h1,h2,h3,rfl⟩:=je e
 exact⟨bH.1 bx,fun B hB hc hl=>VB ⟨hB,hc,hl⟩ h1 h2 h3⟩
theorem VD(hP:fa Tryd.prog)(h:cC Tryd.prog FU (sp L)):cC Tryd.prog FU (sp (HF::L)):=by
 refine add hP h gr Tryd.func14 (fQ Tryd.func14 bx) bx fun args v e=>?_
 obtain⟨n,o,la,m,p,lb,a,b,rfl,h1,h2,h3,rfl⟩:=je e
 exact⟨bH.1 bx,fun B hB hc hl=>Xe ⟨hB,hc,hl⟩ h1 h2 h3⟩
theorem VE(hP:fa Tryd.prog)(h:cC Tryd.prog FU (sp L)):cC Tryd.prog FU (sp (Pc::L)):=by
 refine add hP h gr Tryd.func8 (fQ Tryd.func8 bx) bx fun args v e=>?_
 obtain⟨n,o,la,m,p,lb,a,b,rfl,h1,h2,h3,rfl⟩:=je e
 exact⟨bH.1 bx,fun B hB hc hl=>Xi ⟨hB,hc,hl⟩ h1 h2 h3⟩
theorem S4(hP:fa Tryd.prog)(h:cC Tryd.prog FU (sp L)):cC Tryd.prog FU (sp (Nc::L)):=by
 refine add hP h gr Tryd.func57 (fQ Tryd.func57 bx) bx fun args r e=>?_
 obtain⟨k,th,tx,I,v,x,ab,T,V,S,hk,rfl,rfl⟩:=je e
 exact⟨bH.1 bx,fun B hB hc hl=>Zf ⟨hB,hc,hl⟩ hk⟩
theorem Xk(hP:fa Tryd.prog)(h:cC Tryd.prog FU (sp L)):cC Tryd.prog FU (sp (Az::L)):=by
 refine add hP h gr Tryd.func41 (fQ Tryd.func41 bx) bx fun args r e=>?_
 obtain⟨T,V,S,rfl,rfl⟩:=je e
 exact⟨bH.1 bx,fun B hB hc hl=>aaK ⟨hB,hc,hl⟩⟩
noncomputable def zQ:List Ev->List AV->Option AV
 |l,[.int .i64 th,.int .i64 S]=>if 1<=S then some (.bool (decide (¬aS (aG l.reverse th S)))) else none
 |_,_=>none
noncomputable def Pd:FuncId×(List AV->Option AV):=(22,aY (RE zQ))
theorem VF(hP:fa Tryd.prog)(h:cC Tryd.prog FU (sp L)):cC Tryd.prog FU (sp (Pd::L)):=by
 refine uL hP h (Fc hP (Bv hP gr)) Tryd.func22 (fQ Tryd.func22 bx) bx fun n o len l rest v a b c d=>?_
 unfold zQ at d
 split at d
 ·rename_i th S
  by_cases q:1<=S
  ·rw[if_pos q] at d
   injection d with d;subst d
   exact⟨bH.1 bx,fun B hB hc hl=>aaI ⟨hB,hc,hl⟩ a b c q⟩
  ·rw[if_neg q] at d;cases d
 ·cases d
end gk
end
section
open Go Go.Rn Go.RowKit Go.Proofs
namespace fx
open cd cj cv cD cH cI cN
variable {P:Prop}
def gQ(l:List Int):Int:=l.getLast?.getD (-1)
def dE(a:bQ):List Int:=if a.wv=a.rv+1 then[] else a.read.drop a.checked.toNat
def iP(a:bQ):Ev:=a.L.getLast?.getD default
def gb(l:List Int)(S:Int):List Int:=l.foldl (fun r v=>cP r (Int.tmod v S)) []
def Rd(a:bQ):Prop:=a.last=1\/a.last=3
def Ck(a:bQ):Prop:=a.last=5\/a.last=6
def qk(h:List Ev)(th I:Int):Prop:=0<=bo h I/\bo h I≠th
def pA(h:List Ev)(a:bQ)(th I ab:Int):Prop:=
 (ab=1->Rd a/\qk h th I)/\(ab=2->Rd a/\bo h I<0/\a.rv<cx h I)/\(ab=3->a.last=2/\(iP a).I=I/\(0<=bo h I\/cx h I≠(iP a).v))/\
 (ab=4->(Rd a\/a.last=4)/\gQ a.ao<I/\qk h th I)/\(ab=5->Ck a/\(dE a).head?=some I/\(qk h th I\/a.rv<cx h I))/\(¬(1<=ab/\ab<=5)->a.last=4)
def In(h:List Ev)(a:bQ)(S k th tx I v x ab:Int):Prop:=
 (k=2->Rd a/\bo h I<0/\cx h I<=v/\v<=a.rv)/\
 (k=3->a.last=2/\(iP a).I=Int.tmod I S/\bo h (Int.tmod I S)<0/\cx h (Int.tmod I S)=(iP a).v)/\
 (k=4->(Rd a\/a.last=4)/\gQ a.ao<I/\bo h I<0)/\
 (k=5->a.last=4/\ml h<v)/\
 (k=6->Ck a/\(dE a).head?=some I/\¬qk h th I/\cx h I<=a.rv)/\
 (k=7->(v=0->Rd a)/\(v≠0->Ck a/\dE a=[]/\v=a.wv))/\
 (k=8->(a.last=7\/a.last=8)/\gQ a.aC<I/\bo h (Int.tmod I S)=th)/\
 (k=9->(a.last=8/\(gb a.aC S).length=a.ao.length\/a.last=9)/\a.ao[a.ax.length]? =some I)/\
 (k=11->(a.last=10\/a.last=11)/\a.ao[a.ax.length]? =some I)/\
 (k=12->Rd a)/\
 (k=13->a.last=12/\∃s∈a.read,bo h s<0/\a.rv<cx h s)/\
 (k=10->pA h a th I ab)
def cX(h:List Ev)(e:Ev)(T V S:Int):Prop:=
 aB e.kind e.az e.tx e.I e.v e.x e.ab T V S/\
 (e.kind=1->aS (aG h e.az S)/\(aG h e.az S).ab≠6/\e.tx=bZ h e.az S/\ml h<=e.v)/\
 (e.kind≠1->¬aS (aG h e.az S)/\In h (aG h e.az S) S e.kind e.az e.tx e.I e.v e.x e.ab)
def Valid:List Ev->Int->Int->Int->Prop
 |[],_,_,_=>True
 |e::h,T,V,S=>Valid h T V S/\cX h e T V S
noncomputable def bP(P:Prop):AV:=.bool (@decide P (Classical.propDecidable P))
theorem bT(h:P):AV.bool true=bP P:=(congrArg AV.bool (@decide_eq_true P (Classical.propDecidable P) h)).symm
theorem bF(h:¬P):AV.bool false=bP P:=(congrArg AV.bool (@decide_eq_false P (Classical.propDecidable P) h)).symm
structure Good (a:bQ):Prop where
 none:a.last=0->a=gU
 last:a.last≠0->∃e,a.L.getLast?=some e/\e.kind=a.last
 ig:0<=a.checked/\a.checked<=(a.read.length:Int)
 fre:a.ax.length<=a.ao.length
 nq:a.last=8->a.aC≠[]
 fr:a.ax≠[]->a.last=9\/a.last=11
theorem S5:Good gU:=⟨fun _=>rfl,fun h=>absurd rfl h,⟨Int.le_refl 0,Int.le_refl 0⟩,Nat.le_refl 0,fun h=>absurd (show(0:Int)=8 from h) ar,fun h=>absurd rfl h⟩
end fx
end
section
open Go Go.Rn Go.RowKit Go.Proofs
namespace rz
open cd cj cv cD cH cI cN fx
variable {x S:Int} {h:List Ev} {a:bQ}
theorem Mh(l:List Int)(s:Int):l.length<=(cP l s).length:=by
  induction l with
  |nil=>simp[cP]
  | cons x l ih=>
    unfold cP
    split
    · simp only[List.length_cons];omega
    · split<;>simp
theorem VG(hc:0<=a.checked)(h:(dE a).head?=some x):a.checked<(a.read.length:Int):=by
 unfold dE at h
 split at h
 ·cases h
 ·rw[List.head?_drop] at h
  have:=(List.getElem?_eq_some_iff.1 h).1
  omega
theorem S6{k th tx I v ab:Int}(hk:2<=k/\k<=13)(h9:k≠9/\k≠11)(hi:In h a S k th tx I v x ab):a.last≠9/\a.last≠11:=by
 have rf:k=2\/k=3\/k=4\/k=5\/k=6\/k=7\/k=8\/k=10\/k=12\/k=13:=by omega
 obtain⟨i2,i3,i4,i5,i6,i7,i8,i9,xQ,DJ,DK,DL⟩:=hi
 rcases rf with rfl|rfl|rfl|rfl|rfl|rfl|rfl|rfl|rfl|rfl
 ·have:=(i2 rfl).1;unfold Rd at this;omega
 ·have:=(i3 rfl).1;omega
 ·have:=(i4 rfl).1;unfold Rd at this;omega
 ·have:=(i5 rfl).1;omega
 ·have:=(i6 rfl).1;unfold Ck at this;omega
 ·by_cases q:v=0
  ·have:=(i7 rfl).1 q;unfold Rd at this;omega
  ·have:=((i7 rfl).2 q).1;unfold Ck at this;omega
 ·have:=(i8 rfl).1;omega
 ·obtain⟨b1,b2,b3,b4,b5,b6⟩:=DL rfl
  by_cases q:1<=ab/\ab<=5
  ·have hw:ab=1\/ab=2\/ab=3\/ab=4\/ab=5:=by omega
   rcases hw with rfl|rfl|rfl|rfl|rfl
   ·have:=(b1 rfl).1;unfold Rd at this;omega
   ·have:=(b2 rfl).1;unfold Rd at this;omega
   ·have:=(b3 rfl).1;omega
   ·have:=(b4 rfl).1;unfold Rd at this;omega
   ·have:=(b5 rfl).1;unfold Ck at this;omega
  ·have:=b6 q;omega
 ·have:=DJ rfl;unfold Rd at this;omega
 ·have:=(DK rfl).1;omega
theorem S7{e:Ev}{T V:Int}(hg:Good (aG h e.az S))(hm:cX h e T V S):Good (bR e S (aG h e.az S)):=by
  obtain⟨hq,h1,h2⟩:=hm
  obtain⟨k,th,tx,I,v,x,ab⟩:=e
  simp only at hg hq h1 h2
  generalize aG h th S=a at*
  obtain⟨g1,g2,⟨g3,I1⟩,g4,g5,g6⟩:=hg
  have hk:1<=k/\k<=13:=by unfold aB at hq;omega
  have N8:∀(b:bQ),b.L=a.L++[⟨k,th,tx,I,v,x,ab⟩]\/b.L=[⟨k,th,tx,I,v,x,ab⟩]->b.last=k->(b.last=0->b=gU)/\(b.last≠0->∃e,b.L.getLast?=some e/\e.kind=b.last):=by
    intro b hL hl
    refine⟨fun q=>absurd q J,fun _=>⟨⟨k,th,tx,I,v,x,ab⟩,?_,hl.symm⟩⟩
    rcases hL with e|e<;>rw[e]<;>simp
  by_cases dP:k=1
  · subst dP
    have e1:bR ⟨1,th,tx,I,v,x,ab⟩ S a=⟨[⟨1,th,tx,I,v,x,ab⟩],v,0,[],[],[],0,[],0,1⟩:=by simp[bR,fc,gU]
    rw[e1]
    obtain⟨p1,p2⟩:=N8 ⟨[⟨1,th,tx,I,v,x,ab⟩],v,0,[],[],[],0,[],0,1⟩ (.inr rfl) rfl
    exact⟨p1,p2,⟨Int.le_refl 0,Int.le_refl 0⟩,Nat.le_refl 0,fun q=>absurd (show(1:Int)=8 from q) ar,fun q=>absurd rfl q⟩
  · obtain ⟨_,hi⟩:=h2 dP
    have cL:k≠9/\k≠11->a.ax=[]:=fun q=>by
      have:=S6 ⟨by omega,hk.2⟩ q hi
      by_cases z:a.ax=[]
      · exact z
      · have:=g6 z;omega
    obtain⟨i2,i3,i4,i5,i6,i7,i8,i9,xQ,DJ,DK,DL⟩:=hi
    have hp:=Mh a.read (Int.tmod I S)
    have e1:bR ⟨k,th,tx,I,v,x,ab⟩ S a=fc ⟨k,th,tx,I,v,x,ab⟩ S a:=by simp[bR,dP]
    rw[e1]
    have hL:(fc ⟨k,th,tx,I,v,x,ab⟩ S a).L=a.L++[⟨k,th,tx,I,v,x,ab⟩]/\(fc ⟨k,th,tx,I,v,x,ab⟩ S a).last=k:=by
      unfold fc;simp only;repeat' split
      all_goals exact⟨rfl,rfl⟩
    obtain⟨p1,p2⟩:=N8 _ (.inl hL.1) hL.2
    refine⟨p1,p2,?_,?_,fun q=>?_,fun q=>?_⟩
    · unfold fc;simp only
      split
      · exact⟨g3,by simp only;omega⟩
      · split
        · exact⟨g3,I1⟩
        · split
          · exact⟨g3,I1⟩
          · split
            · rename_i z
              have:=VG g3 (i6 z).2.1
              exact⟨by simp only;omega,by simp only;omega⟩
            · repeat' split
              all_goals exact⟨g3,I1⟩
    · unfold fc;simp only
      repeat' split
      all_goals first
        |exact g4
        |(simp only[List.length_append,List.length_cons,List.length_nil];omega)
        |skip
      rename_i z
      have cQ:a.ax.length<a.ao.length:=by
        rcases z with z|z
        · exact(List.getElem?_eq_some_iff.1 (i9 z).2).1
        · exact(List.getElem?_eq_some_iff.1 (xQ z).2).1
      simp only[List.length_append,List.length_cons,List.length_nil];omega
    · rw[hL.2] at q
      subst q
      unfold fc;simp
    · rw[hL.2]
      by_cases z:k=9\/k=11
      · exact z
      · refine absurd ?_ q
        have:=cL J
        unfold fc;simp only
        repeat' split
        all_goals first|exact this|omega
theorem Fe:∀{h:List Ev} {T V S:Int},Valid h T V S->∀th,Good (aG h th S)
  |[],_,_,_,_,_=>S5
  | e ::h,T,V,S,hv,th=>by
    obtain⟨h1,h2⟩:=hv
    unfold aG
    split
    · exact Fe h1 th
    · rename_i q
      have q:e.az=th:=by simpa using q
      subst q
      exact S7 (Fe h1 _) h2
end rz
end
section
open Go Go.Rn Go.RowKit Go.Proofs
namespace eP
open cd cj cv cD cH cI cN fx gk
variable {x ab v tx th V T S k:Int} {n:Nat} {B:aZ} {A:bQ} {v':AV}
noncomputable abbrev gY:gn:=[Nc,si,uf,HD,Pa,O8,O9,xu]
theorem eT(b:Bool){v:AV}(h:v= .bool b):AV.bool b=v:=h.symm
theorem jH(k th tx I v x ab T V S:Int)(h:0<=k)(hq:aB k th tx I v x ab T V S):bj (aY wP) [.agg [.int .u8 k,.int .i64 th,.int .i64 tx,.int .i64 I,.int .i64 v,.int .i64 x,.int .u8 ab],.int .i64 T,.int .i64 V,.int .i64 S]=some (.bool true):=by
 rw[Ls h,decide_eq_true hq]
theorem S8(k th tx I v x ab T V S:Int)(h:0<=k)(hq:¬aB k th tx I v x ab T V S):bj (aY wP) [.agg [.int .u8 k,.int .i64 th,.int .i64 tx,.int .i64 I,.int .i64 v,.int .i64 x,.int .u8 ab],.int .i64 T,.int .i64 V,.int .i64 S]=some (.bool false):=by
 rw[Ls h,decide_eq_false hq]
theorem Um(A:bQ)(h:aS A):bj (aY wY) [.agg (cq A)]=some (.bool true):=by
 rw[(yE _),decide_eq_true h]
theorem TY(A:bQ)(h:¬aS A):bj (aY wY) [.agg (cq A)]=some (.bool false):=by
 rw[(yE _),decide_eq_false h]
theorem AB(b:Bool):AV.bool b=AV.bool b:=rfl
theorem Un(mc:Mc (sp gY) 6 B){o len:Nat}{I:Int}(hk:0<=k)(hq:¬aB k th tx I v x ab T V S):bw B 42 (max Tryd.f42.ntmps 5) fN [(.ae n o len),(.agg (bn k th tx I v x ab)),(.int .i64 T),(.int .i64 V),(.int .i64 S)] (.bool false):=by
 exact wS mc 900 (gC 4 4 (.kn (.bool false) (gF 1 4))) (ai (S8 k th tx I v x ab T V S J hq) (AB false))
theorem Uo(mc:Mc (sp gY) 6 B){o len:Nat}{I:Int}(hk:0<=k)(dP:k≠1)(hq:aB k th tx I v x ab T V S)(cG:bj (aY (RE hU)) [.ae n o len,.int .i64 th,.int .i64 S]=some (.agg (cq A)))(aU:aS A):bw B 42 (max Tryd.f42.ntmps 5) fN [(.ae n o len),(.agg (bn k th tx I v x ab)),(.int .i64 T),(.int .i64 V),(.int .i64 S)] (.bool false):=by
 exact wS mc 900 (gC 4 4 (.kn (.bool true) (gA 1 3 4 (.kn (.agg [(.ae (nE A.L) 0 A.L.length),(.int .i64 A.rv),(.int .i64 A.wv),(.ae (nI A.read) 0 A.read.length),(.ae (nI A.ao) 0 A.ao.length),(.ae (nI A.ax) 0 A.ax.length),(.int .i64 A.checked),(.ae (nI A.aC) 0 A.aC.length),(.int .u8 A.ab),(.int .u8 A.last)]) (gA 2 2 2 (.fk .no (gB 4 1 (.kn (.bool true) (gG 4))))))))) (ai (jH k th tx I v x ab T V S J hq) (ai (cG) (U (k=1) aA (fun _=>ai (Um A aU) (AB false)))))
theorem VH(mc:Mc (sp gY) 6 B){o len:Nat}{I cm ck:Int}(eJ:0<=A.rv/\A.rv<=1099511627776)(dX:1<=S)(hq:aB 1 th tx I v x ab T V S)(cG:bj (aY (RE hU)) [.ae n o len,.int .i64 th,.int .i64 S]=some (.agg (cq A)))(mn:bj (aY (RE uK)) [.ae n o len,.int .i64 th,.int .i64 S]=some (.int .i64 cm))(xp:bj (aY (RE zO)) [.ae n o len]=some (.int .i64 ck))(hT:(aS A/\A.ab≠6/\tx=cm/\ck<=v)->v'= .bool true)(hF:¬(aS A/\A.ab≠6/\tx=cm/\ck<=v)->v'= .bool false):bw B 42 (max Tryd.f42.ntmps 5) fN [(.ae n o len),(.agg (bn (.ofNat 1) th tx I v x ab)),(.int .i64 T),(.int .i64 V),(.int .i64 S)] v':=by
 exact wS mc 2000 ((fun(q1:Pl)=>(gC 4 4 (.kn (.bool true) (gA 1 3 4 (.kn (.agg [(.ae (nE A.L) 0 A.L.length),(.int .i64 A.rv),(.int .i64 A.wv),(.ae (nI A.read) 0 A.read.length),(.ae (nI A.ao) 0 A.ao.length),(.ae (nI A.ax) 0 A.ax.length),(.int .i64 A.checked),(.ae (nI A.aC) 0 A.aC.length),(.int .u8 A.ab),(.int .u8 A.last)]) (gA 2 5 1 (.kp (aS A) inferInstance (.go 3 (.fk (.go 8 (.kn (.int .i64 cm) (.fk (.go 5 (.kn (.int .i64 ck) (.fk (.go 2 q1) (.go 2 q1)))) (.go 9 q1)))) (.go 19 q1))) (.go 23 q1)))))))) (gG 1)) (ai (jH 1 th tx I v x ab T V S J hq) (ai (cG) (ai (yE A) (U (aS A) (fun h1=>U (A.ab≠6) (fun _=>ai mn (U (tx=cm) (fun _=>ai xp (U (v>=ck) (fun _=>eT true (hT ⟨h1,by omega⟩)) GC)) GC)) GC) (fun h1=>eT false (hF (fun z=>h1 z.1)))))))
theorem Up(mc:Mc (sp gY) 6 B){o len:Nat}{I ow ve:Int}(eJ:0<=A.rv/\A.rv<=1099511627776)(dX:1<=S)(hq:aB 12 th tx I v x ab T V S)(cG:bj (aY (RE hU)) [.ae n o len,.int .i64 th,.int .i64 S]=some (.agg (cq A)))(cw:bj (aY (RE ia)) [.ae n o len,.int .i64 I]=some (.int .i64 ow))(cJ:bj (aY (RE iw)) [.ae n o len,.int .i64 I]=some (.int .i64 ve))(aU:¬aS A)(hT:((A.last=1\/A.last=3))->v'= .bool true)(hF:¬((A.last=1\/A.last=3))->v'= .bool false):bw B 42 (max Tryd.f42.ntmps 5) fN [(.ae n o len),(.agg (bn (.ofNat 12) th tx I v x ab)),(.int .i64 T),(.int .i64 V),(.int .i64 S)] v':=by
 have f1:=fun h=>eT false (hF h)
 have f2:=fun h=>eT true (hT h)
 exact wS mc 2000 ((fun(q1:Pl)=>((fun(q2:Pl)=>(gC 4 4 (.kn (.bool true) (gA 1 3 4 (.kn (.agg [(.ae (nE A.L) 0 A.L.length),(.int .i64 A.rv),(.int .i64 A.wv),(.ae (nI A.read) 0 A.read.length),(.ae (nI A.ao) 0 A.ao.length),(.ae (nI A.ax) 0 A.ax.length),(.int .i64 A.checked),(.ae (nI A.aC) 0 A.aC.length),(.int .u8 A.ab),(.int .u8 A.last)]) (gA 2 7 1 (.kn (.bool false) (gB 3 2 (.fk (.go 6 q2) (.go 3 (.fk (.go 2 q2) (gA 2 1 2 (.fk (.go 6 q1) (.go 3 (.fk (.go 2 q1) (.go 2 q1)))))))))))))))) (gB 1 2 (.fk .no (.go 3 (.fk .no (.go 2 q1))))))) (gB 1 3 (.kn (.int .i64 ow) (gA 1 1 1 (.fk (.go 4 (.fk (gF 2 37) (gF 2 37))) (gF 7 37)))))) (ai (jH 12 th tx I v x ab T V S J hq) (ai (cG) (ai kP (U (A.last=1) NM (fun _=>U (A.last=3) NM (fun _=>U (A.last=5) xn (fun _=>U (A.last=6) xn xn)))))))
end eP
end
section
open Go Go.Rn Go.RowKit Go.Proofs
namespace eP
open cd cj cv cD cH cI cN fx gk
theorem Se{B:aZ}(mc:Mc (sp gY) 6 B){n o len:Nat}{th tx I v x T V S ow ve:Int}{A:bQ}{v':AV}(eJ:0<=A.rv/\A.rv<=1099511627776)(dX:1<=S)(hq:aB 10 th tx I v x 1 T V S)(cG:bj (aY (RE hU)) [.ae n o len,.int .i64 th,.int .i64 S]=some (.agg (cq A)))(cw:bj (aY (RE ia)) [.ae n o len,.int .i64 I]=some (.int .i64 ow))(cJ:bj (aY (RE iw)) [.ae n o len,.int .i64 I]=some (.int .i64 ve))(aU:¬aS A)(hT:((A.last=1\/A.last=3)/\(0<=ow/\ow≠th))->v'= .bool true)(hF:¬((A.last=1\/A.last=3)/\(0<=ow/\ow≠th))->v'= .bool false):bw B 42 (max Tryd.f42.ntmps 5) fN [(.ae n o len),(.agg (bn (.ofNat 10) th tx I v x (.ofNat 1))),(.int .i64 T),(.int .i64 V),(.int .i64 S)] v':=by
 have f1:=fun h=>eT false (hF h)
 exact wS mc 2000 ((fun(q1:Pl)=>((fun(q2:Pl)=>((fun(q3:Pl)=>(gC 4 4 (.kn (.bool true) (gA 1 3 4 (.kn (.agg [(.ae (nE A.L) 0 A.L.length),(.int .i64 A.rv),(.int .i64 A.wv),(.ae (nI A.read) 0 A.read.length),(.ae (nI A.ao) 0 A.ao.length),(.ae (nI A.ax) 0 A.ax.length),(.int .i64 A.checked),(.ae (nI A.aC) 0 A.aC.length),(.int .u8 A.ab),(.int .u8 A.last)]) (gA 2 7 1 (.kn (.bool false) (gB 3 2 (.fk (.go 6 q3) (.go 3 (.fk (.go 2 q3) (gA 2 1 2 (.fk (.go 6 q2) (.go 3 (.fk (.go 2 q2) (.go 2 q2)))))))))))))))) (gB 1 2 (.fk .no (.go 3 (.fk .no (.go 2 q2))))))) (gB 1 3 (.kn (.int .i64 ow) (gA 1 1 1 (.fk (.go 4 (.fk (.go 2 q1) (.go 2 q1))) (.go 7 q1))))))) (gB 40 3 (.kn (.int .i64 ve) (.go 2 (.fk (gF 1 10) (gF 1 10)))))) (ai (jH 10 th tx I v x 1 T V S J hq) (ai (cG) (ai kP (U (A.last=1) OP (fun _=>U (A.last=3) OP (fun _=>U (A.last=5) xl (fun _=>U (A.last=6) xl xl)))))))
end eP
end
section
open Go Go.Rn Go.RowKit Go.Proofs
namespace eP
open cd cj cv cD cH cI cN fx gk
theorem Sf{B:aZ}(mc:Mc (sp gY) 6 B){n o len:Nat}{th tx I v x T V S ow ve:Int}{A:bQ}{v':AV}(eJ:0<=A.rv/\A.rv<=1099511627776)(dX:1<=S)(hq:aB 10 th tx I v x 2 T V S)(cG:bj (aY (RE hU)) [.ae n o len,.int .i64 th,.int .i64 S]=some (.agg (cq A)))(cw:bj (aY (RE ia)) [.ae n o len,.int .i64 I]=some (.int .i64 ow))(cJ:bj (aY (RE iw)) [.ae n o len,.int .i64 I]=some (.int .i64 ve))(aU:¬aS A)(hT:((A.last=1\/A.last=3)/\ow<0/\A.rv<ve)->v'= .bool true)(hF:¬((A.last=1\/A.last=3)/\ow<0/\A.rv<ve)->v'= .bool false):bw B 42 (max Tryd.f42.ntmps 5) fN [(.ae n o len),(.agg (bn (.ofNat 10) th tx I v x (.ofNat 2))),(.int .i64 T),(.int .i64 V),(.int .i64 S)] v':=by
 have f1:=fun h=>eT false (hF h)
 have f2:=fun h=>eT true (hT h)
 exact wS mc 2000 ((fun(q1:Pl)=>((fun(q2:Pl)=>((fun(q3:Pl)=>((fun(q4:Pl)=>((fun(q5:Pl)=>(gC 4 4 (.kn (.bool true) (gA 1 3 4 (.kn (.agg [(.ae (nE A.L) 0 A.L.length),(.int .i64 A.rv),(.int .i64 A.wv),(.ae (nI A.read) 0 A.read.length),(.ae (nI A.ao) 0 A.ao.length),(.ae (nI A.ax) 0 A.ax.length),(.int .i64 A.checked),(.ae (nI A.aC) 0 A.aC.length),(.int .u8 A.ab),(.int .u8 A.last)]) (gA 2 7 1 (.kn (.bool false) (gB 3 2 (.fk (.go 6 q3) (.go 3 (.fk (.go 2 q3) (gA 2 1 2 (.fk (.go 6 q5) (.go 3 (.fk (.go 2 q5) (.go 2 q5)))))))))))))))) (gB 1 3 (.kn (.int .i64 ow) (gA 1 1 1 (.fk (.go 4 (.fk (.go 2 q4) (.go 2 q4))) (.go 7 q4))))))) (gB 40 3 (.kn (.int .i64 ve) (.go 2 (.fk (gF 1 13) (gF 1 13))))))) (gB 1 2 (.fk .no (.go 3 (.fk .no (gA 2 1 3 (.kn (.int .i64 ow) (gA 1 1 1 (.fk (.go 4 (.fk (.go 2 q2) (.go 2 q2))) (.go 7 q2))))))))))) (gB 40 3 (.kn (.int .i64 ve) (.go 2 (.fk q1 q1)))))) (gA 1 11 3 (.fk (gF 5 1) (gF 5 1)))) (ai (jH 10 th tx I v x 2 T V S J hq) (ai (cG) (ai kP (U (A.last=1) O1 (fun _=>U (A.last=3) O1 (fun _=>U (A.last=5) xl (fun _=>U (A.last=6) xl xl)))))))
end eP
end
section
open Go Go.Rn Go.RowKit Go.Proofs
namespace eP
open cd cj cv cD cH cI cN fx gk
theorem Sg{B:aZ}(mc:Mc (sp gY) 6 B){n o len:Nat}{th tx I v x T V S ow ve:Int}{A:bQ}{lk:Ev}{v':AV}(eJ:0<=A.rv/\A.rv<=1099511627776)(dX:1<=S)(hq:aB 10 th tx I v x 3 T V S)(cG:bj (aY (RE hU)) [.ae n o len,.int .i64 th,.int .i64 S]=some (.agg (cq A)))(cw:bj (aY (RE ia)) [.ae n o len,.int .i64 I]=some (.int .i64 ow))(cJ:bj (aY (RE iw)) [.ae n o len,.int .i64 I]=some (.int .i64 ve))(aU:¬aS A)(DM:A.L.length<=1000)(xR:0<A.L.length)(I2:0<A.L.length->bM FU (nE A.L) (0+((A.L.length:Int) - 1).toNat*7) 7=some (aN lk))(hT:(A.last=2/\lk.I=I/\(0<=ow\/ve≠lk.v))->v'= .bool true)(hF:¬(A.last=2/\lk.I=I/\(0<=ow\/ve≠lk.v))->v'= .bool false):bw B 42 (max Tryd.f42.ntmps 5) fN [(.ae n o len),(.agg (bn (.ofNat 10) th tx I v x (.ofNat 3))),(.int .i64 T),(.int .i64 V),(.int .i64 S)] v':=by
 have f1:=fun h=>wI ((A.L.length:Int) - 1) h
 have f2:=fun h=>eT false (hF h)
 have f3:=fun h=>c9 (I2 xR) 0 7 h
 have f4:=fun h=>eT true (hT h)
 exact wS mc 2000 ((fun(q1:Pl)=>((fun(q2:Pl)=>((fun(q3:Pl)=>((fun(q4:Pl)=>((fun(q5:Pl)=>((fun(q6:Pl)=>((fun(q7:Pl)=>(gC 4 4 (.kn (.bool true) (gA 1 3 4 (.kn (.agg [(.ae (nE A.L) 0 A.L.length),(.int .i64 A.rv),(.int .i64 A.wv),(.ae (nI A.read) 0 A.read.length),(.ae (nI A.ao) 0 A.ao.length),(.ae (nI A.ax) 0 A.ax.length),(.int .i64 A.checked),(.ae (nI A.aC) 0 A.aC.length),(.int .u8 A.ab),(.int .u8 A.last)]) (gA 2 7 1 (.kn (.bool false) (gB 3 2 (.fk (.go 6 q5) (.go 3 (.fk (.go 2 q5) (gA 2 1 2 (.fk (.go 6 q4) (.go 3 (.fk (.go 2 q4) (gA 2 1 3 (.kn (.int .i64 ow) (gA 1 1 1 (.fk (.go 4 (.fk (.go 2 q7) (.go 2 q7))) (.go 7 q7)))))))))))))))))))) (gB 40 3 (.kn (.int .i64 ve) (.go 2 (.fk q6 q6)))))) (gA 1 14 5 (.vl (.int .i64 ((A.L.length:Int) - 1)) (.bI (.bJ (aN lk) (gA 2 1 2 (.fk (.go 5 (.fk (.go 3 (.fk (.go 11 q1) (.go 4 (.kn (.int .i64 ve) (.go 2 (.fk (.go 3 q1) (.go 3 q1))))))) (.go 15 q1))) (.go 21 q1))))))))) (gB 1 2 (.fk .no (.go 3 (.fk .no (.go 2 q4))))))) (gB 1 3 (.kn (.int .i64 ow) (gA 1 1 1 (.fk (.go 4 (.fk (.go 2 q3) (.go 2 q3))) (.go 7 q3))))))) (gB 40 3 (.kn (.int .i64 ve) (.go 2 (.fk q2 q2)))))) (gA 1 14 5 (.vl (.int .i64 ((A.L.length:Int) - 1)) (.bI (.bJ (aN lk) (gA 2 1 2 (.fk .no (.go 21 q1))))))))) (gG 1)) (ai (jH 10 th tx I v x 3 T V S J hq) (ai (cG) (ai kP (U (A.last=1) (fun _=>U (A.last=5) aA (fun _=>U (A.last=6) aA C0)) (fun _=>U (A.last=3) (fun _=>U (A.last=5) aA (fun _=>U (A.last=6) aA C0)) (fun _=>U (A.last=5) C0 (fun _=>U (A.last=6) C0 (fun _=>ai cw (U (ow>=0) (fun _=>U (ow≠th) GD GD) GD)))))))))
end eP
end
section
open Go Go.Rn Go.RowKit Go.Proofs
namespace eP
open cd cj cv cD cH cI cN fx gk
theorem Sh{B:aZ}(mc:Mc (sp gY) 6 B){n o len:Nat}{th tx I v x T V S ow ve la:Int}{A:bQ}{v':AV}(eJ:0<=A.rv/\A.rv<=1099511627776)(dX:1<=S)(hq:aB 10 th tx I v x 4 T V S)(cG:bj (aY (RE hU)) [.ae n o len,.int .i64 th,.int .i64 S]=some (.agg (cq A)))(cw:bj (aY (RE ia)) [.ae n o len,.int .i64 I]=some (.int .i64 ow))(cJ:bj (aY (RE iw)) [.ae n o len,.int .i64 I]=some (.int .i64 ve))(aU:¬aS A)(DM:A.ao.length<=1000)(Qq:A.ao.length=0/\la= -1\/0<A.ao.length)(xM:0<A.ao.length->bM FU (nI A.ao) (0+((A.ao.length:Int) - 1).toNat*1) 1=some [.int .i64 la])(hT:(((A.last=1\/A.last=3)\/A.last=4)/\la<I/\(0<=ow/\ow≠th))->v'= .bool true)(hF:¬(((A.last=1\/A.last=3)\/A.last=4)/\la<I/\(0<=ow/\ow≠th))->v'= .bool false):bw B 42 (max Tryd.f42.ntmps 5) fN [(.ae n o len),(.agg (bn (.ofNat 10) th tx I v x (.ofNat 4))),(.int .i64 T),(.int .i64 V),(.int .i64 S)] v':=by
 have f1:=fun h=>eT false (hF h)
 have f2:=fun h=>wI ((A.ao.length:Int) - 1) h
 have f3:=fun h=>eT true (hT h)
 exact wS mc 2000 ((fun(q1:Pl)=>((fun(q2:Pl)=>((fun(q3:Pl)=>((fun(q4:Pl)=>((fun(q5:Pl)=>((fun(q6:Pl)=>((fun(q7:Pl)=>((fun(q8:Pl)=>((fun(q9:Pl)=>((fun(py:Pl)=>(gC 4 4 (.kn (.bool true) (gA 1 3 4 (.kn (.agg [(.ae (nE A.L) 0 A.L.length),(.int .i64 A.rv),(.int .i64 A.wv),(.ae (nI A.read) 0 A.read.length),(.ae (nI A.ao) 0 A.ao.length),(.ae (nI A.ax) 0 A.ax.length),(.int .i64 A.checked),(.ae (nI A.aC) 0 A.aC.length),(.int .u8 A.ab),(.int .u8 A.last)]) (gA 2 7 1 (.kn (.bool false) (gB 3 2 (.fk (.go 6 q5) (.go 3 (.fk (.go 2 q5) (gA 2 1 2 (.fk (.go 6 q8) (.go 3 (.fk (.go 2 q8) (gA 2 1 3 (.kn (.int .i64 ow) (gA 1 1 1 (.fk (.go 4 (.fk (.go 2 py) (.go 2 py))) (.go 7 py)))))))))))))))))))) (gB 40 3 (.kn (.int .i64 ve) (.go 2 (.fk q9 q9)))))) (gA 1 17 4 (.fk (.go 6 q2) (gF 13 1))))) (gB 1 3 (.kn (.int .i64 ow) (gA 1 1 1 (.fk (.go 4 (.fk (.go 2 q7) (.go 2 q7))) (.go 7 q7))))))) (gB 40 3 (.kn (.int .i64 ve) (.go 2 (.fk q6 q6)))))) (gA 1 17 4 (.fk .no (gF 13 1))))) (gB 1 2 (.fk .no (.go 3 (.fk .no (gA 2 1 3 (.kn (.int .i64 ow) (gA 1 1 1 (.fk (.go 4 (.fk (.go 2 q4) (.go 2 q4))) (.go 7 q4))))))))))) (gB 40 3 (.kn (.int .i64 ve) (.go 2 (.fk q3 q3)))))) (gA 1 17 11 q2))) (.il (gC 4 2 (.fk (gI 4 q1) (gB 3 3 (.vl (.int .i64 ((A.ao.length:Int) - 1)) (.bI (.bJ [(.int .i64 la)] (gH 1 1 q1)))))))))) (.fk (gF 5 1) (gF 5 1))) (ai (jH 10 th tx I v x 4 T V S J hq) (ai (cG) (ai kP (U (A.last=1) OT (fun _=>U (A.last=3) OT (fun _=>U (A.last=5) xk (fun _=>U (A.last=6) xk (fun _=>ai cw (U (ow>=0) (fun _=>U (ow≠th) (fun _=>ai cJ (U (ve>A.rv) (fun _=>U (A.last=4) CN bd) (fun _=>U (A.last=4) CN bd))) NT) NT)))))))))
end eP
end
section
open Go Go.Rn Go.RowKit Go.Proofs
namespace eP
open cd cj cv cD cH cI cN fx gk
theorem Si{B:aZ}(mc:Mc (sp gY) 6 B){n o len:Nat}{th tx I v x T V S ow ve hd:Int}{A:bQ}{v':AV}(eJ:0<=A.rv/\A.rv<=1099511627776)(dX:1<=S)(hq:aB 10 th tx I v x 5 T V S)(cG:bj (aY (RE hU)) [.ae n o len,.int .i64 th,.int .i64 S]=some (.agg (cq A)))(cw:bj (aY (RE ia)) [.ae n o len,.int .i64 I]=some (.int .i64 ow))(cJ:bj (aY (RE iw)) [.ae n o len,.int .i64 I]=some (.int .i64 ve))(aU:¬aS A)(gg:0<=A.checked/\A.checked<=(A.read.length:Int))(hL:A.wv=A.rv+1/\(dE A).length=0\/A.wv≠A.rv+1/\((dE A).length:Int)=(A.read.length:Int) - A.checked)(vj:A.checked<(A.read.length:Int)->bM FU (nI A.read) ((0+A.checked.toNat*1)+(0:Int).toNat*1) 1=some [.int .i64 hd])(hT:((A.last=5\/A.last=6)/\0<(dE A).length/\hd=I/\((0<=ow/\ow≠th)\/A.rv<ve))->v'= .bool true)(hF:¬((A.last=5\/A.last=6)/\0<(dE A).length/\hd=I/\((0<=ow/\ow≠th)\/A.rv<ve))->v'= .bool false):bw B 42 (max Tryd.f42.ntmps 5) fN [(.ae n o len),(.agg (bn (.ofNat 10) th tx I v x (.ofNat 5))),(.int .i64 T),(.int .i64 V),(.int .i64 S)] v':=by
 have f1:=fun h=>eT false (hF h)
 have f2:=fun h=>wI (A.rv+1) h
 have f3:=fun h=>eT true (hT h)
 exact wS mc 2000 ((fun(q1:Pl)=>((fun(q2:Pl)=>((fun(q3:Pl)=>((fun(q4:Pl)=>((fun(q5:Pl)=>((fun(q6:Pl)=>((fun(q7:Pl)=>((fun(q8:Pl)=>(gC 4 4 (.kn (.bool true) (gA 1 3 4 (.kn (.agg [(.ae (nE A.L) 0 A.L.length),(.int .i64 A.rv),(.int .i64 A.wv),(.ae (nI A.read) 0 A.read.length),(.ae (nI A.ao) 0 A.ao.length),(.ae (nI A.ax) 0 A.ax.length),(.int .i64 A.checked),(.ae (nI A.aC) 0 A.aC.length),(.int .u8 A.ab),(.int .u8 A.last)]) (gA 2 7 1 (.kn (.bool false) (gB 3 2 (.fk (.go 6 q5) (.go 3 (.fk (.go 2 q5) (gA 2 1 2 (.fk (.go 6 q8) (.go 3 (.fk (.go 2 q8) q4))))))))))))))) (gB 1 3 (.kn (.int .i64 ow) (gA 1 1 1 (.fk (.go 4 (.fk (.go 2 q7) (.go 2 q7))) (.go 7 q7))))))) (gB 40 3 (.kn (.int .i64 ve) (.go 2 (.fk q6 q6)))))) (gA 1 20 1 (.il (gC 4 4 (.vl (.int .i64 (A.rv+1)) (.fk q1 (gB 3 4 (.sf A.checked (A.read.length:Int) (.go 1 (.en (.rt 1 (.go 1 (.en (.st 1 (.rg (.go 4 (.fk (.go 3 (.bI (.bJ [(.int .i64 hd)] (.go 2 (.fk (.go 8 (.en (.rt 1 .no))) (.go 8 (.en (.rt 1 .no)))))))) (.go 16 (.en (.rt 1 .no))))))))))))))))))))) (gB 1 2 (.fk .no (.go 3 (.fk .no q4)))))) (gA 2 1 3 (.kn (.int .i64 ow) (gA 1 1 1 (.fk (.go 4 (.fk (.go 2 q3) (.go 2 q3))) (.go 7 q3))))))) (gB 40 3 (.kn (.int .i64 ve) (.go 2 (.fk q2 q2)))))) (gA 1 20 1 (.il (gC 4 4 (.vl (.int .i64 (A.rv+1)) (.fk q1 (gB 3 4 (.sf A.checked (A.read.length:Int) (.go 1 (.en (.rt 1 (.go 1 (.en (.rt 3 .no))))))))))))))) (gI 4 (gF 1 3))) (ai (jH 10 th tx I v x 5 T V S J hq) (ai (cG) (ai kP (U (A.last=1) (fun _=>U (A.last=5) aA (fun _=>U (A.last=6) aA Ht)) (fun _=>U (A.last=3) (fun _=>U (A.last=5) aA (fun _=>U (A.last=6) aA Ht)) (fun _=>U (A.last=5) OY (fun _=>U (A.last=6) OY Ht)))))))
end eP
end
section
open Go Go.Rn Go.RowKit Go.Proofs
namespace eP
open cd cj cv cD cH cI cN fx gk
theorem Sj{B:aZ}(mc:Mc (sp gY) 6 B){n o len:Nat}{th tx I v x T V S ow ve:Int}{A:bQ}{v':AV}(eJ:0<=A.rv/\A.rv<=1099511627776)(dX:1<=S)(hq:aB 10 th tx I v x 6 T V S)(cG:bj (aY (RE hU)) [.ae n o len,.int .i64 th,.int .i64 S]=some (.agg (cq A)))(cw:bj (aY (RE ia)) [.ae n o len,.int .i64 I]=some (.int .i64 ow))(cJ:bj (aY (RE iw)) [.ae n o len,.int .i64 I]=some (.int .i64 ve))(aU:¬aS A)(hT:(A.last=4)->v'= .bool true)(hF:¬(A.last=4)->v'= .bool false):bw B 42 (max Tryd.f42.ntmps 5) fN [(.ae n o len),(.agg (bn (.ofNat 10) th tx I v x (.ofNat 6))),(.int .i64 T),(.int .i64 V),(.int .i64 S)] v':=by
 have f1:=fun h=>eT false (hF h)
 have f2:=fun h=>eT true (hT h)
 exact wS mc 2000 ((fun(q1:Pl)=>((fun(q2:Pl)=>((fun(q3:Pl)=>((fun(q4:Pl)=>((fun(q5:Pl)=>((fun(q6:Pl)=>((fun(q7:Pl)=>(gC 4 4 (.kn (.bool true) (gA 1 3 4 (.kn (.agg [(.ae (nE A.L) 0 A.L.length),(.int .i64 A.rv),(.int .i64 A.wv),(.ae (nI A.read) 0 A.read.length),(.ae (nI A.ao) 0 A.ao.length),(.ae (nI A.ax) 0 A.ax.length),(.int .i64 A.checked),(.ae (nI A.aC) 0 A.aC.length),(.int .u8 A.ab),(.int .u8 A.last)]) (gA 2 7 1 (.kn (.bool false) (gB 3 2 (.fk (.go 6 q5) (.go 3 (.fk (.go 2 q5) (gA 2 1 2 (.fk (.go 6 q4) (.go 3 (.fk (.go 2 q4) (gA 2 1 3 (.kn (.int .i64 ow) (gA 1 1 1 (.fk (.go 4 (.fk (.go 2 q7) (.go 2 q7))) (.go 7 q7)))))))))))))))))))) (gB 40 3 (.kn (.int .i64 ve) (.go 2 (.fk q6 q6)))))) (gA 1 22 2 (.fk q1 q1)))) (gB 1 2 (.fk .no (.go 3 (.fk .no (.go 2 q4))))))) (gB 1 3 (.kn (.int .i64 ow) (gA 1 1 1 (.fk (.go 4 (.fk (.go 2 q3) (.go 2 q3))) (.go 7 q3))))))) (gB 40 3 (.kn (.int .i64 ve) (.go 2 (.fk q2 q2)))))) (gA 1 22 2 (.fk .no q1)))) (gF 1 1)) (ai (jH 10 th tx I v x 6 T V S J hq) (ai (cG) (ai kP (U (A.last=1) (fun _=>U (A.last=5) aA (fun _=>U (A.last=6) aA xk)) (fun _=>U (A.last=3) (fun _=>U (A.last=5) aA (fun _=>U (A.last=6) aA xk)) (fun _=>U (A.last=5) xk (fun _=>U (A.last=6) xk (fun _=>ai cw (U (ow>=0) (fun _=>U (ow≠th) Hu Hu) Hu)))))))))
end eP
end
section
open Go Go.Rn Go.RowKit Go.Proofs
namespace eP
open cd cj cv cD cH cI cN fx gk
theorem VI{B:aZ}(mc:Mc (sp gY) 6 B){n o len:Nat}{th tx I v x ab T V S ow ve:Int}{A:bQ}{v':AV}(eJ:0<=A.rv/\A.rv<=1099511627776)(dX:1<=S)(hq:aB 2 th tx I v x ab T V S)(cG:bj (aY (RE hU)) [.ae n o len,.int .i64 th,.int .i64 S]=some (.agg (cq A)))(cw:bj (aY (RE ia)) [.ae n o len,.int .i64 I]=some (.int .i64 ow))(cJ:bj (aY (RE iw)) [.ae n o len,.int .i64 I]=some (.int .i64 ve))(aU:¬aS A)(hT:((A.last=1\/A.last=3)/\ow<0/\ve<=v/\v<=A.rv)->v'= .bool true)(hF:¬((A.last=1\/A.last=3)/\ow<0/\ve<=v/\v<=A.rv)->v'= .bool false):bw B 42 (max Tryd.f42.ntmps 5) fN [(.ae n o len),(.agg (bn (.ofNat 2) th tx I v x ab)),(.int .i64 T),(.int .i64 V),(.int .i64 S)] v':=by
 have f1:=fun h=>eT false (hF h)
 have f2:=fun h=>eT true (hT h)
 exact wS mc 2000 ((fun(q1:Pl)=>((fun(q2:Pl)=>((fun(q3:Pl)=>((fun(q4:Pl)=>(gC 4 4 (.kn (.bool true) (gA 1 3 4 (.kn (.agg [(.ae (nE A.L) 0 A.L.length),(.int .i64 A.rv),(.int .i64 A.wv),(.ae (nI A.read) 0 A.read.length),(.ae (nI A.ao) 0 A.ao.length),(.ae (nI A.ax) 0 A.ax.length),(.int .i64 A.checked),(.ae (nI A.aC) 0 A.aC.length),(.int .u8 A.ab),(.int .u8 A.last)]) (gA 2 7 1 (.kn (.bool false) (gB 3 2 (.fk (.go 6 q3) (.go 3 (.fk (.go 2 q3) (gA 2 1 2 (.fk (.go 6 q4) (.go 3 (.fk (.go 2 q4) (.go 2 q4)))))))))))))))) (gB 1 3 (.kn (.int .i64 ow) (gA 1 1 1 (.fk (.go 4 (.fk (gF 2 10) (gF 2 10))) (gF 7 10))))))) (gB 1 2 (.fk .no (.go 3 (.fk .no (gA 2 1 3 (.kn (.int .i64 ow) (gA 1 1 1 (.fk (.go 4 (.fk (.go 2 q2) (.go 2 q2))) (.go 7 q2))))))))))) (gB 8 3 (.fk (.go 7 (.kn (.int .i64 ve) (.fk (.go 6 (.fk (.go 2 q1) (.go 2 q1))) (.go 9 q1)))) (.go 18 q1))))) (gG 1)) (ai (jH 2 th tx I v x ab T V S J hq) (ai (cG) (ai kP (U (A.last=1) O2 (fun _=>U (A.last=3) O2 (fun _=>U (A.last=5) xn (fun _=>U (A.last=6) xn xn)))))))
end eP
end
section
open Go Go.Rn Go.RowKit Go.Proofs
namespace eP
open cd cj cv cD cH cI cN fx gk
theorem VJ{B:aZ}(mc:Mc (sp gY) 6 B){n o len:Nat}{th tx I v x ab T V S ow ve om Av:Int}{A:bQ}{lk:Ev}{v':AV}(eJ:0<=A.rv/\A.rv<=1099511627776)(dX:1<=S)(hq:aB 3 th tx I v x ab T V S)(cG:bj (aY (RE hU)) [.ae n o len,.int .i64 th,.int .i64 S]=some (.agg (cq A)))(cw:bj (aY (RE ia)) [.ae n o len,.int .i64 I]=some (.int .i64 ow))(cJ:bj (aY (RE iw)) [.ae n o len,.int .i64 I]=some (.int .i64 ve))(aU:¬aS A)(DM:A.L.length<=1000)(xR:0<A.L.length)(I2:0<A.L.length->bM FU (nE A.L) (0+((A.L.length:Int) - 1).toNat*7) 7=some (aN lk))(Cb:bj (aY (RE ia)) [.ae n o len,.int .i64 (Int.tmod I S)]=some (.int .i64 om))(Y6:bj (aY (RE iw)) [.ae n o len,.int .i64 (Int.tmod I S)]=some (.int .i64 Av))(hT:(A.last=2/\lk.I=Int.tmod I S/\om<0/\Av=lk.v)->v'= .bool true)(hF:¬(A.last=2/\lk.I=Int.tmod I S/\om<0/\Av=lk.v)->v'= .bool false):bw B 42 (max Tryd.f42.ntmps 5) fN [(.ae n o len),(.agg (bn (.ofNat 3) th tx I v x ab)),(.int .i64 T),(.int .i64 V),(.int .i64 S)] v':=by
 have f1:=fun h=>eT false (hF h)
 have f2:=fun h=>wI ((A.L.length:Int) - 1) h
 have f3:=fun h=>c9 (I2 xR) 0 7 h
 exact wS mc 2000 ((fun(q1:Pl)=>((fun(q2:Pl)=>((fun(q3:Pl)=>((fun(q4:Pl)=>((fun(q5:Pl)=>(gC 4 4 (.kn (.bool true) (gA 1 3 4 (.kn (.agg [(.ae (nE A.L) 0 A.L.length),(.int .i64 A.rv),(.int .i64 A.wv),(.ae (nI A.read) 0 A.read.length),(.ae (nI A.ao) 0 A.ao.length),(.ae (nI A.ax) 0 A.ax.length),(.int .i64 A.checked),(.ae (nI A.aC) 0 A.aC.length),(.int .u8 A.ab),(.int .u8 A.last)]) (gA 2 7 1 (.kn (.bool false) (gB 3 2 (.fk (.go 6 q4) (.go 3 (.fk (.go 2 q4) (gA 2 1 2 (.fk (.go 6 q3) (.go 3 (.fk (.go 2 q3) (gA 2 1 3 (.kn (.int .i64 ow) (gA 1 1 1 (.fk (.go 4 (.fk (.go 2 q5) (.go 2 q5))) (.go 7 q5)))))))))))))))))))) (gB 11 3 (.rm (gA 1 1 5 (.vl (.int .i64 ((A.L.length:Int) - 1)) (.bI (.bJ (aN lk) (gA 2 1 2 (.fk (.go 4 (.fk (.go 4 (.kn (.int .i64 om) (.fk (.go 4 (.kn (.int .i64 Av) (.go 2 (.fk (.go 2 q1) (.go 2 q1))))) (.go 10 q1)))) (.go 16 q1))) (.go 21 q1))))))))))) (gB 1 2 (.fk .no (.go 3 (.fk .no (.go 2 q3))))))) (gB 1 3 (.kn (.int .i64 ow) (gA 1 1 1 (.fk (.go 4 (.fk (.go 2 q2) (.go 2 q2))) (.go 7 q2))))))) (gB 11 3 (.rm (gA 1 1 5 (.vl (.int .i64 ((A.L.length:Int) - 1)) (.bI (.bJ (aN lk) (gA 2 1 2 (.fk .no (.go 21 q1))))))))))) (gG 1)) (ai (jH 3 th tx I v x ab T V S J hq) (ai (cG) (ai kP (U (A.last=1) (fun _=>U (A.last=5) aA (fun _=>U (A.last=6) aA CZ)) (fun _=>U (A.last=3) (fun _=>U (A.last=5) aA (fun _=>U (A.last=6) aA CZ)) (fun _=>U (A.last=5) CZ (fun _=>U (A.last=6) CZ (fun _=>ai cw (U (ow>=0) (fun _=>U (ow≠th) Hq Hq) Hq)))))))))
end eP
end
section
open Go Go.Rn Go.RowKit Go.Proofs
namespace eP
open cd cj cv cD cH cI cN fx gk
theorem VK{B:aZ}(mc:Mc (sp gY) 6 B){n o len:Nat}{th tx I v x ab T V S ow ve la:Int}{A:bQ}{v':AV}(eJ:0<=A.rv/\A.rv<=1099511627776)(dX:1<=S)(hq:aB 4 th tx I v x ab T V S)(cG:bj (aY (RE hU)) [.ae n o len,.int .i64 th,.int .i64 S]=some (.agg (cq A)))(cw:bj (aY (RE ia)) [.ae n o len,.int .i64 I]=some (.int .i64 ow))(cJ:bj (aY (RE iw)) [.ae n o len,.int .i64 I]=some (.int .i64 ve))(aU:¬aS A)(DM:A.ao.length<=1000)(Qq:A.ao.length=0/\la= -1\/0<A.ao.length)(xM:0<A.ao.length->bM FU (nI A.ao) (0+((A.ao.length:Int) - 1).toNat*1) 1=some [.int .i64 la])(hT:(((A.last=1\/A.last=3)\/A.last=4)/\la<I/\ow<0)->v'= .bool true)(hF:¬(((A.last=1\/A.last=3)\/A.last=4)/\la<I/\ow<0)->v'= .bool false):bw B 42 (max Tryd.f42.ntmps 5) fN [(.ae n o len),(.agg (bn (.ofNat 4) th tx I v x ab)),(.int .i64 T),(.int .i64 V),(.int .i64 S)] v':=by
 have f1:=fun h=>eT false (hF h)
 have f2:=fun h=>eT true (hT h)
 have f3:=fun h=>wI ((A.ao.length:Int) - 1) h
 exact wS mc 2000 ((fun(q1:Pl)=>((fun(q2:Pl)=>((fun(q3:Pl)=>((fun(q4:Pl)=>((fun(q5:Pl)=>((fun(q6:Pl)=>((fun(q7:Pl)=>((fun(q8:Pl)=>(gC 4 4 (.kn (.bool true) (gA 1 3 4 (.kn (.agg [(.ae (nE A.L) 0 A.L.length),(.int .i64 A.rv),(.int .i64 A.wv),(.ae (nI A.read) 0 A.read.length),(.ae (nI A.ao) 0 A.ao.length),(.ae (nI A.ax) 0 A.ax.length),(.int .i64 A.checked),(.ae (nI A.aC) 0 A.aC.length),(.int .u8 A.ab),(.int .u8 A.last)]) (gA 2 7 1 (.kn (.bool false) (gB 3 2 (.fk (.go 6 q5) (.go 3 (.fk (.go 2 q5) (gA 2 1 2 (.fk (.go 6 q7) (.go 3 (.fk (.go 2 q7) (gA 2 1 3 (.kn (.int .i64 ow) (gA 1 1 1 (.fk (.go 4 (.fk (.go 2 q8) (.go 2 q8))) (.go 7 q8)))))))))))))))))))) (gB 14 4 (.fk (.go 6 q3) (.go 14 q1))))) (gB 1 3 (.kn (.int .i64 ow) (gA 1 1 1 (.fk (.go 4 (.fk (.go 2 q6) (.go 2 q6))) (.go 7 q6))))))) (gB 14 4 (.fk .no (.go 14 q1))))) (gB 1 2 (.fk .no (.go 3 (.fk .no (gA 2 1 3 (.kn (.int .i64 ow) (gA 1 1 1 (.fk (.go 4 (.fk (.go 2 q4) (.go 2 q4))) (.go 7 q4))))))))))) (gB 14 11 q3))) (.il (gC 4 2 (.fk (gI 4 q2) (gB 3 3 (.vl (.int .i64 ((A.ao.length:Int) - 1)) (.bI (.bJ [(.int .i64 la)] (gH 1 1 q2)))))))))) (.fk (.go 3 (.fk (.go 2 q1) (.go 2 q1))) (.go 6 q1)))) (gG 1)) (ai (jH 4 th tx I v x ab T V S J hq) (ai (cG) (ai kP (U (A.last=1) O3 (fun _=>U (A.last=3) O3 (fun _=>U (A.last=5) xm (fun _=>U (A.last=6) xm (fun _=>ai cw (U (ow>=0) (fun _=>U (ow≠th) (fun _=>U (A.last=4) xj bd) (fun _=>U (A.last=4) xj bd)) (fun _=>U (A.last=4) xj bd))))))))))
end eP
end
section
open Go Go.Rn Go.RowKit Go.Proofs
namespace eP
open cd cj cv cD cH cI cN fx gk
theorem VL{B:aZ}(mc:Mc (sp gY) 6 B){n o len:Nat}{th tx I v x ab T V S ck ow ve:Int}{A:bQ}{v':AV}(eJ:0<=A.rv/\A.rv<=1099511627776)(dX:1<=S)(hq:aB 5 th tx I v x ab T V S)(cG:bj (aY (RE hU)) [.ae n o len,.int .i64 th,.int .i64 S]=some (.agg (cq A)))(cw:bj (aY (RE ia)) [.ae n o len,.int .i64 I]=some (.int .i64 ow))(cJ:bj (aY (RE iw)) [.ae n o len,.int .i64 I]=some (.int .i64 ve))(aU:¬aS A)(xp:bj (aY (RE zO)) [.ae n o len]=some (.int .i64 ck))(hT:(A.last=4/\ck<v)->v'= .bool true)(hF:¬(A.last=4/\ck<v)->v'= .bool false):bw B 42 (max Tryd.f42.ntmps 5) fN [(.ae n o len),(.agg (bn (.ofNat 5) th tx I v x ab)),(.int .i64 T),(.int .i64 V),(.int .i64 S)] v':=by
 have f1:=fun h=>eT false (hF h)
 exact wS mc 2000 ((fun(q1:Pl)=>((fun(q2:Pl)=>((fun(q3:Pl)=>((fun(q4:Pl)=>(gC 4 4 (.kn (.bool true) (gA 1 3 4 (.kn (.agg [(.ae (nE A.L) 0 A.L.length),(.int .i64 A.rv),(.int .i64 A.wv),(.ae (nI A.read) 0 A.read.length),(.ae (nI A.ao) 0 A.ao.length),(.ae (nI A.ax) 0 A.ax.length),(.int .i64 A.checked),(.ae (nI A.aC) 0 A.aC.length),(.int .u8 A.ab),(.int .u8 A.last)]) (gA 2 7 1 (.kn (.bool false) (gB 3 2 (.fk (.go 6 q3) (.go 3 (.fk (.go 2 q3) (gA 2 1 2 (.fk (.go 6 q2) (.go 3 (.fk (.go 2 q2) (gA 2 1 3 (.kn (.int .i64 ow) (gA 1 1 1 (.fk (.go 4 (.fk (.go 2 q4) (.go 2 q4))) (.go 7 q4)))))))))))))))))))) (gB 17 2 (.fk (.go 4 (.kn (.int .i64 ck) (.fk (gF 2 1) (gF 2 1)))) (gF 8 1))))) (gB 1 2 (.fk .no (.go 3 (.fk .no (.go 2 q2))))))) (gB 1 3 (.kn (.int .i64 ow) (gA 1 1 1 (.fk (.go 4 (.fk (.go 2 q1) (.go 2 q1))) (.go 7 q1))))))) (gB 17 2 (.fk .no (gF 8 1)))) (ai (jH 5 th tx I v x ab T V S J hq) (ai (cG) (ai kP (U (A.last=1) (fun _=>U (A.last=5) aA (fun _=>U (A.last=6) aA xm)) (fun _=>U (A.last=3) (fun _=>U (A.last=5) aA (fun _=>U (A.last=6) aA xm)) (fun _=>U (A.last=5) xm (fun _=>U (A.last=6) xm (fun _=>ai cw (U (ow>=0) (fun _=>U (ow≠th) Hv Hv) Hv)))))))))
end eP
end
section
open Go Go.Rn Go.RowKit Go.Proofs
namespace eP
open cd cj cv cD cH cI cN fx gk
theorem VM{B:aZ}(mc:Mc (sp gY) 6 B){n o len:Nat}{th tx I v x ab T V S ow ve hd:Int}{A:bQ}{v':AV}(eJ:0<=A.rv/\A.rv<=1099511627776)(dX:1<=S)(hq:aB 6 th tx I v x ab T V S)(cG:bj (aY (RE hU)) [.ae n o len,.int .i64 th,.int .i64 S]=some (.agg (cq A)))(cw:bj (aY (RE ia)) [.ae n o len,.int .i64 I]=some (.int .i64 ow))(cJ:bj (aY (RE iw)) [.ae n o len,.int .i64 I]=some (.int .i64 ve))(aU:¬aS A)(gg:0<=A.checked/\A.checked<=(A.read.length:Int))(hL:A.wv=A.rv+1/\(dE A).length=0\/A.wv≠A.rv+1/\((dE A).length:Int)=(A.read.length:Int) - A.checked)(vj:A.checked<(A.read.length:Int)->bM FU (nI A.read) ((0+A.checked.toNat*1)+(0:Int).toNat*1) 1=some [.int .i64 hd])(hT:((A.last=5\/A.last=6)/\0<(dE A).length/\hd=I/\¬(0<=ow/\ow≠th)/\ve<=A.rv)->v'= .bool true)(hF:¬((A.last=5\/A.last=6)/\0<(dE A).length/\hd=I/\¬(0<=ow/\ow≠th)/\ve<=A.rv)->v'= .bool false):bw B 42 (max Tryd.f42.ntmps 5) fN [(.ae n o len),(.agg (bn (.ofNat 6) th tx I v x ab)),(.int .i64 T),(.int .i64 V),(.int .i64 S)] v':=by
 have f1:=fun h=>eT false (hF h)
 have f2:=fun h=>wI (A.rv+1) h
 exact wS mc 2000 ((fun(q1:Pl)=>((fun(q2:Pl)=>((fun(q3:Pl)=>((fun(q4:Pl)=>((fun(q5:Pl)=>((fun(q6:Pl)=>(gC 4 4 (.kn (.bool true) (gA 1 3 4 (.kn (.agg [(.ae (nE A.L) 0 A.L.length),(.int .i64 A.rv),(.int .i64 A.wv),(.ae (nI A.read) 0 A.read.length),(.ae (nI A.ao) 0 A.ao.length),(.ae (nI A.ax) 0 A.ax.length),(.int .i64 A.checked),(.ae (nI A.aC) 0 A.aC.length),(.int .u8 A.ab),(.int .u8 A.last)]) (gA 2 7 1 (.kn (.bool false) (gB 3 2 (.fk (.go 6 q4) (.go 3 (.fk (.go 2 q4) (gA 2 1 2 (.fk (.go 6 q6) (.go 3 (.fk (.go 2 q6) q3))))))))))))))) (gB 1 3 (.kn (.int .i64 ow) (gA 1 1 1 (.fk (.go 4 (.fk (gA 2 20 1 (.il (gC 4 4 (.vl (.int .i64 (A.rv+1)) (.fk q1 (gB 3 4 (.sf A.checked (A.read.length:Int) (.go 1 (.en (.rt 1 (.go 1 (.en (.st 1 (.rg (.go 4 (.fk (.go 3 (.bI (.bJ [(.int .i64 hd)] (.go 2 (.fk (.go 15 (.en (.rt 1 .no))) (.go 15 (.en (.rt 1 .no)))))))) (.go 23 (.en (.rt 1 .no))))))))))))))))))) (.go 2 q5))) (.go 7 q5))))))) (gB 20 1 (.il (gC 4 4 (.vl (.int .i64 (A.rv+1)) (.fk q1 (gB 3 4 (.sf A.checked (A.read.length:Int) (.go 1 (.en (.rt 1 (.go 1 (.en (.st 1 (.rg (.go 4 (.fk (.go 3 (.bI (.bJ [(.int .i64 hd)] (.go 2 (.fk (.go 9 (.kn (.int .i64 ve) (.go 2 (.fk (.go 2 (.en (.rt 1 .no))) (.go 2 (.en (.rt 1 .no))))))) (.go 15 (.en (.rt 1 .no)))))))) (.go 23 (.en (.rt 1 .no))))))))))))))))))))) (gB 1 2 (.fk .no (.go 3 (.fk .no q3)))))) (gA 2 1 3 (.kn (.int .i64 ow) (gA 1 1 1 (.fk (.go 4 (.fk (.go 2 q2) (.go 2 q2))) (.go 7 q2))))))) (gB 20 1 (.il (gC 4 4 (.vl (.int .i64 (A.rv+1)) (.fk q1 (gB 3 4 (.sf A.checked (A.read.length:Int) (.go 1 (.en (.rt 1 (.go 1 (.en (.rt 3 .no))))))))))))))) (gI 4 (gF 1 3))) (ai (jH 6 th tx I v x ab T V S J hq) (ai (cG) (ai kP (U (A.last=1) (fun _=>U (A.last=5) aA (fun _=>U (A.last=6) aA Hw)) (fun _=>U (A.last=3) (fun _=>U (A.last=5) aA (fun _=>U (A.last=6) aA Hw)) (fun _=>U (A.last=5) (fun _=>ai cw (U (ow>=0) (fun _=>U (ow≠th) Dz CL) CL)) (fun _=>U (A.last=6) (fun _=>ai cw (U (ow>=0) (fun _=>U (ow≠th) Dz CL) CL)) Hw)))))))
end eP
end
section
open Go Go.Rn Go.RowKit Go.Proofs
namespace eP
open cd cj cv cD cH cI cN fx gk
theorem VN{B:aZ}(mc:Mc (sp gY) 6 B){n o len:Nat}{th tx I v x ab T V S ow ve:Int}{A:bQ}{v':AV}(eJ:0<=A.rv/\A.rv<=1099511627776)(dX:1<=S)(hq:aB 7 th tx I v x ab T V S)(cG:bj (aY (RE hU)) [.ae n o len,.int .i64 th,.int .i64 S]=some (.agg (cq A)))(cw:bj (aY (RE ia)) [.ae n o len,.int .i64 I]=some (.int .i64 ow))(cJ:bj (aY (RE iw)) [.ae n o len,.int .i64 I]=some (.int .i64 ve))(aU:¬aS A)(gg:0<=A.checked/\A.checked<=(A.read.length:Int))(hL:A.wv=A.rv+1/\(dE A).length=0\/A.wv≠A.rv+1/\((dE A).length:Int)=(A.read.length:Int) - A.checked)(hT:((v=0/\(A.last=1\/A.last=3)\/v≠0/\(A.last=5\/A.last=6)/\(dE A).length=0/\v=A.wv))->v'= .bool true)(hF:¬((v=0/\(A.last=1\/A.last=3)\/v≠0/\(A.last=5\/A.last=6)/\(dE A).length=0/\v=A.wv))->v'= .bool false):bw B 42 (max Tryd.f42.ntmps 5) fN [(.ae n o len),(.agg (bn (.ofNat 7) th tx I v x ab)),(.int .i64 T),(.int .i64 V),(.int .i64 S)] v':=by
 have f1:=fun h=>eT false (hF h)
 have f2:=fun h=>eT true (hT h)
 exact wS mc 2000 ((fun(q1:Pl)=>((fun(q2:Pl)=>((fun(q3:Pl)=>((fun(q4:Pl)=>((fun(q5:Pl)=>(gC 4 4 (.kn (.bool true) (gA 1 3 4 (.kn (.agg [(.ae (nE A.L) 0 A.L.length),(.int .i64 A.rv),(.int .i64 A.wv),(.ae (nI A.read) 0 A.read.length),(.ae (nI A.ao) 0 A.ao.length),(.ae (nI A.ax) 0 A.ax.length),(.int .i64 A.checked),(.ae (nI A.aC) 0 A.aC.length),(.int .u8 A.ab),(.int .u8 A.last)]) (gA 2 7 1 (.kn (.bool false) (gB 3 2 (.fk (.go 6 q3) (.go 3 (.fk (.go 2 q3) (gA 2 1 2 (.fk (.go 6 q5) (.go 3 (.fk (.go 2 q5) q2))))))))))))))) (gB 1 3 (.kn (.int .i64 ow) (gA 1 1 1 (.fk (.go 4 (.fk (.go 2 q4) (.go 2 q4))) (.go 7 q4))))))) (gB 24 2 (.fk (gG 4) (gB 3 3 (.il (gC 4 4 (.vl (.int .i64 (A.rv+1)) (.fk (gI 4 (.go 8 (.fk (gF 2 1) (gF 2 1)))) (gB 3 4 (.sf A.checked (A.read.length:Int) (.go 1 (.en (.rt 1 (.go 1 (.fk (.go 6 (.fk (.go 2 (.en (.rt 1 .no))) (.go 2 (.en (.rt 1 .no))))) (.go 9 (.en (.rt 1 .no))))))))))))))))))) (gB 1 2 (.fk .no (.go 3 (.fk .no q2)))))) (gA 2 1 3 (.kn (.int .i64 ow) (gA 1 1 1 (.fk (.go 4 (.fk (.go 2 q1) (.go 2 q1))) (.go 7 q1))))))) (gB 24 2 (.fk (gG 4) (gG 5)))) (ai (jH 7 th tx I v x ab T V S J hq) (ai (cG) (ai kP (U (A.last=1) OX (fun _=>U (A.last=3) OX (fun _=>U (A.last=5) (fun _=>ai cw (U (ow>=0) (fun _=>U (ow≠th) xh xh) xh)) (fun _=>U (A.last=6) (fun _=>ai cw (U (ow>=0) (fun _=>U (ow≠th) xh xh) xh)) (fun _=>ai cw (U (ow>=0) (fun _=>U (ow≠th) (fun _=>U (v=0) bd bd) (fun _=>U (v=0) bd bd)) (fun _=>U (v=0) bd bd))))))))))
end eP
end
section
open Go Go.Rn Go.RowKit Go.Proofs
namespace eP
open cd cj cv cD cH cI cN fx gk
theorem VO{B:aZ}(mc:Mc (sp gY) 6 B){n o len:Nat}{th tx I v x ab T V S ow ve la om:Int}{A:bQ}{v':AV}(eJ:0<=A.rv/\A.rv<=1099511627776)(dX:1<=S)(hq:aB 8 th tx I v x ab T V S)(cG:bj (aY (RE hU)) [.ae n o len,.int .i64 th,.int .i64 S]=some (.agg (cq A)))(cw:bj (aY (RE ia)) [.ae n o len,.int .i64 I]=some (.int .i64 ow))(cJ:bj (aY (RE iw)) [.ae n o len,.int .i64 I]=some (.int .i64 ve))(aU:¬aS A)(DM:A.aC.length<=1000)(Qq:A.aC.length=0/\la= -1\/0<A.aC.length)(xM:0<A.aC.length->bM FU (nI A.aC) (0+((A.aC.length:Int) - 1).toNat*1) 1=some [.int .i64 la])(Cb:bj (aY (RE ia)) [.ae n o len,.int .i64 (Int.tmod I S)]=some (.int .i64 om))(hT:((A.last=7\/A.last=8)/\la<I/\om=th)->v'= .bool true)(hF:¬((A.last=7\/A.last=8)/\la<I/\om=th)->v'= .bool false):bw B 42 (max Tryd.f42.ntmps 5) fN [(.ae n o len),(.agg (bn (.ofNat 8) th tx I v x ab)),(.int .i64 T),(.int .i64 V),(.int .i64 S)] v':=by
 have f1:=fun h=>eT false (hF h)
 have f2:=fun h=>eT true (hT h)
 have f3:=fun h=>wI ((A.aC.length:Int) - 1) h
 exact wS mc 2000 ((fun(q1:Pl)=>((fun(q2:Pl)=>((fun(q3:Pl)=>((fun(q4:Pl)=>((fun(q5:Pl)=>((fun(q6:Pl)=>((fun(q7:Pl)=>(gC 4 4 (.kn (.bool true) (gA 1 3 4 (.kn (.agg [(.ae (nE A.L) 0 A.L.length),(.int .i64 A.rv),(.int .i64 A.wv),(.ae (nI A.read) 0 A.read.length),(.ae (nI A.ao) 0 A.ao.length),(.ae (nI A.ax) 0 A.ax.length),(.int .i64 A.checked),(.ae (nI A.aC) 0 A.aC.length),(.int .u8 A.ab),(.int .u8 A.last)]) (gA 2 7 1 (.kn (.bool false) (gB 3 2 (.fk (.go 6 q4) (.go 3 (.fk (.go 2 q4) (gA 2 1 2 (.fk (.go 6 q3) (.go 3 (.fk (.go 2 q3) (gA 2 1 3 (.kn (.int .i64 ow) (gA 1 1 1 (.fk (.go 4 (.fk (.go 2 q7) (.go 2 q7))) (.go 7 q7)))))))))))))))))))) (gB 26 2 (.fk (.go 10 q6) (.go 3 (.fk (.go 6 q6) (.go 21 q1))))))) (.il (gC 4 2 (.fk (gI 4 q5) (gB 3 3 (.vl (.int .i64 ((A.aC.length:Int) - 1)) (.bI (.bJ [(.int .i64 la)] (gH 1 1 q5)))))))))) (.fk (.go 6 (.rm (.kn (.int .i64 om) (.go 2 (.fk (.go 2 q1) (.go 2 q1)))))) (.go 13 q1)))) (gB 1 2 (.fk .no (.go 3 (.fk .no (.go 2 q3))))))) (gB 1 3 (.kn (.int .i64 ow) (gA 1 1 1 (.fk (.go 4 (.fk (.go 2 q2) (.go 2 q2))) (.go 7 q2))))))) (gB 26 2 (.fk .no (.go 3 (.fk .no (.go 21 q1))))))) (gG 1)) (ai (jH 8 th tx I v x ab T V S J hq) (ai (cG) (ai kP (U (A.last=1) (fun _=>U (A.last=5) aA (fun _=>U (A.last=6) aA CR)) (fun _=>U (A.last=3) (fun _=>U (A.last=5) aA (fun _=>U (A.last=6) aA CR)) (fun _=>U (A.last=5) CR (fun _=>U (A.last=6) CR (fun _=>ai cw (U (ow>=0) (fun _=>U (ow≠th) GA GA) GA)))))))))
end eP
end
section
open Go Go.Rn Go.RowKit Go.Proofs
namespace eP
open cd cj cv cD cH cI cN fx gk
theorem Uq{B:aZ}(mc:Mc (sp gY) 6 B){n o len:Nat}{th tx I v x ab T V S ow ve lf:Int}{A:bQ}{v':AV}(eJ:0<=A.rv/\A.rv<=1099511627776)(dX:1<=S)(hq:aB 11 th tx I v x ab T V S)(cG:bj (aY (RE hU)) [.ae n o len,.int .i64 th,.int .i64 S]=some (.agg (cq A)))(cw:bj (aY (RE ia)) [.ae n o len,.int .i64 I]=some (.int .i64 ow))(cJ:bj (aY (RE iw)) [.ae n o len,.int .i64 I]=some (.int .i64 ve))(aU:¬aS A)(vq:(A.last=10\/A.last=11)->A.ax.length<A.ao.length)(pz:A.ax.length<A.ao.length->bM FU (nI A.ao) (0+((A.ax.length:Int)).toNat*1) 1=some [.int .i64 lf])(hT:((A.last=10\/A.last=11)/\lf=I)->v'= .bool true)(hF:¬((A.last=10\/A.last=11)/\lf=I)->v'= .bool false):bw B 42 (max Tryd.f42.ntmps 5) fN [(.ae n o len),(.agg (bn (.ofNat 11) th tx I v x ab)),(.int .i64 T),(.int .i64 V),(.int .i64 S)] v':=by
 have f1:=fun h=>eT false (hF h)
 have f2:=fun h=>eT true (hT h)
 exact wS mc 2000 ((fun(q1:Pl)=>((fun(q2:Pl)=>((fun(q3:Pl)=>((fun(q4:Pl)=>((fun(q5:Pl)=>(gC 4 4 (.kn (.bool true) (gA 1 3 4 (.kn (.agg [(.ae (nE A.L) 0 A.L.length),(.int .i64 A.rv),(.int .i64 A.wv),(.ae (nI A.read) 0 A.read.length),(.ae (nI A.ao) 0 A.ao.length),(.ae (nI A.ax) 0 A.ax.length),(.int .i64 A.checked),(.ae (nI A.aC) 0 A.aC.length),(.int .u8 A.ab),(.int .u8 A.last)]) (gA 2 7 1 (.kn (.bool false) (gB 3 2 (.fk (.go 6 q3) (.go 3 (.fk (.go 2 q3) (gA 2 1 2 (.fk (.go 6 q2) (.go 3 (.fk (.go 2 q2) (gA 2 1 3 (.kn (.int .i64 ow) (gA 1 1 1 (.fk (.go 4 (.fk (.go 2 q5) (.go 2 q5))) (.go 7 q5)))))))))))))))))))) (gB 32 2 (.fk (.go 13 q4) (.go 3 (.fk (.go 9 q4) (gF 14 1))))))) (.bI (.bJ [(.int .i64 lf)] (.fk (gF 2 1) (gF 2 1)))))) (gB 1 2 (.fk .no (.go 3 (.fk .no (.go 2 q2))))))) (gB 1 3 (.kn (.int .i64 ow) (gA 1 1 1 (.fk (.go 4 (.fk (.go 2 q1) (.go 2 q1))) (.go 7 q1))))))) (gB 32 2 (.fk .no (.go 3 (.fk .no (gF 14 1)))))) (ai (jH 11 th tx I v x ab T V S J hq) (ai (cG) (ai kP (U (A.last=1) (fun _=>U (A.last=5) aA (fun _=>U (A.last=6) aA CQ)) (fun _=>U (A.last=3) (fun _=>U (A.last=5) aA (fun _=>U (A.last=6) aA CQ)) (fun _=>U (A.last=5) CQ (fun _=>U (A.last=6) CQ (fun _=>ai cw (U (ow>=0) (fun _=>U (ow≠th) Hx Hx) Hx)))))))))
end eP
end
section

end
