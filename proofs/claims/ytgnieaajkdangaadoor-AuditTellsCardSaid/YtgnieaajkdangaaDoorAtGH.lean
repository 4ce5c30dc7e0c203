import Derived.Test.YtgnieaajkdangaaDoorRnGF
import Derived.KernelRfl
import Derived.Test.YtgnieaajkdangaaDoorProg
import Derived.Test.YtgnieaajkdangaaDoorRnGG
import Derived.Test.YtgnieaajkdangaaDoorRnGE
set_option maxRecDepth 100000
set_option maxHeartbeats 8000000
set_option linter.unusedSimpArgs false
section
namespace Go.Rn
variable {P:Prop}
theorem bd(h:P:=by exact fun _=>f1 J):P:=h
theorem aw(h:P:=by exact fun _=>f1 jv):P:=h
theorem aA(h:P:=by exact fun _=>oF J):P:=h
theorem Zm3(h:P:=by exact fun _=>ai (show A.checked=A.checked from rfl) (ai (show(A.read.length:Int)=(A.read.length:Int) from rfl) (ai (dB (A.read.map aK).flatten) (ai (show(0:Int)<=A.checked from J) (ai (show A.checked<=(A.read.length:Int) from J) (ai (show(A.read.length:Int)<=(A.read.length:Int) from J) fM)))))):P:=h
theorem Qe(h:P:=by exact fun _=>ai (show(0:Int)=(0:Int) from rfl) (ai (show k=k from rfl) (ai (dB (l.map aK).flatten) (ai (show(0:Int)<=(0:Int) from J) (ai (show(0:Int)<=k from J) (ai (show k<=(l.length:Int) from J) (vi aK [] (l.take k.toNat) (K:=1) (gO:=8) (j9 l k.toNat J) (fun x=>⟨rfl,rfl⟩) mY mZ (nj aK ([]++(l.take k.toNat)) s (K:=1) (gO:=8) (fun x=>⟨rfl,rfl⟩) mY mZ (ai (show k=k from rfl) (ai (show(l.length:Int)=(l.length:Int) from rfl) (ai (dB (l.map aK).flatten) (ai (show(0:Int)<=k from J) (ai (show k<=(l.length:Int) from J) (ai (show(l.length:Int)<=(l.length:Int) from J) (vi aK (([]++(l.take k.toNat))++[s]) (l.drop k.toNat) (K:=1) (gO:=8) (Y5 l k.toNat J) (fun x=>⟨rfl,rfl⟩) mY mZ (rtP l s c k (cP l s) 274 275 ((([]++(l.take k.toNat))++[s])++(l.drop k.toNat)) J J qZ (Au J))))))))))))))))):P:=h
theorem dh(h:P:=by exact fun _=>f2 J):P:=h
theorem dp(h:P:=by exact fun _=>oj false (hF (fun z=>by have z:=z.2;omega))):P:=h
theorem Dy(h:P:=by exact fun _=>ai (f2 J) (U (A.wv=(A.rv+1)) bd (fun _=>ai (show A.checked=A.checked from rfl) (ai (show(A.read.length:Int)=(A.read.length:Int) from rfl) (ai (dB (A.read.map aK).flatten) (ai (show(0:Int)<=A.checked from J) (ai (show A.checked<=(A.read.length:Int) from J) (ai (show(A.read.length:Int)<=(A.read.length:Int) from J) (U ((((A.read.length - A.checked.toNat):Nat):Int)>0) (fun _=>aV (0:Int) (((A.read.length - A.checked.toNat):Nat):Int) J J (ai (dB (A.read.map aK).flatten) (ai (vj J) (U (hd=I) (fun _=>f3 J) bd)))) bd))))))))):P:=h
theorem IM(h:P:=by exact fun _=>ai cJ (U (ve>A.rv) (fun _=>ai fM (aV ((A.L.length:Int) - 1) (A.L.length:Int) J J (ai (dB (A.L.map aN).flatten) (ai (f3 ar) (U (A.last=2) aA dh))))) (fun _=>ai fM (aV ((A.L.length:Int) - 1) (A.L.length:Int) J J (ai (dB (A.L.map aN).flatten) (ai (f3 ar) (U (A.last=2) aA dh))))))):P:=h
theorem Dz(h:P:=by exact fun _=>ai (f2 J) (U (A.wv=(A.rv+1)) bd (fun _=>ai (show A.checked=A.checked from rfl) (ai (show(A.read.length:Int)=(A.read.length:Int) from rfl) (ai (dB (A.read.map aK).flatten) (ai (show(0:Int)<=A.checked from J) (ai (show A.checked<=(A.read.length:Int) from J) (ai (show(A.read.length:Int)<=(A.read.length:Int) from J) (U ((((A.read.length - A.checked.toNat):Nat):Int)>0) (fun _=>aV (0:Int) (((A.read.length - A.checked.toNat):Nat):Int) J J (ai (dB (A.read.map aK).flatten) (ai (vj J) (U (hd=I) bd bd)))) bd))))))))):P:=h
theorem xg(h:P:=by exact fun _=>U ((A.ao.length:Int)=0) (fun _=>U (I>(-1)) bd bd) (fun _=>ai (f2 J) (aV ((A.ao.length:Int) - 1) (A.ao.length:Int) J J (ai (dB (A.ao.map aK).flatten) (ai (xM J) (U (I>la) bd bd)))))):P:=h
theorem xh(h:P:=by exact fun _=>U (v=0) bd (fun _=>ai (wI (A.rv+1) J) (U (A.wv=(A.rv+1)) (fun _=>U (v=A.wv) dh bd) (fun _=>ai (show A.checked=A.checked from rfl) (ai (show(A.read.length:Int)=(A.read.length:Int) from rfl) (ai (dB (A.read.map aK).flatten) (ai (show(0:Int)<=A.checked from J) (ai (show A.checked<=(A.read.length:Int) from J) (ai (show(A.read.length:Int)<=(A.read.length:Int) from J) (U ((((A.read.length - A.checked.toNat):Nat):Int)=0) (fun _=>U (v=A.wv) dh bd) bd)))))))))):P:=h
theorem xj(h:P:=by exact fun _=>U ((A.ao.length:Int)=0) (fun _=>U (I>(-1)) (fun _=>U (ow<0) dh bd) bd) (fun _=>ai (f3 J) (aV ((A.ao.length:Int) - 1) (A.ao.length:Int) J J (ai (dB (A.ao.map aK).flatten) (ai (xM J) (U (I>la) (fun _=>U (ow<0) dh bd) bd)))))):P:=h
theorem Hg(h:P:=by exact fun _=>ai (show S≠0 from by omega) (ai (f2 J) (aV ((A.L.length:Int) - 1) (A.L.length:Int) J J (ai (dB (A.L.map aN).flatten) (ai (f3 ar) (U (A.last=2) aA bd)))))):P:=h
theorem CL(h:P:=by exact fun _=>ai (f2 J) (U (A.wv=(A.rv+1)) bd (fun _=>ai (show A.checked=A.checked from rfl) (ai (show(A.read.length:Int)=(A.read.length:Int) from rfl) (ai (dB (A.read.map aK).flatten) (ai (show(0:Int)<=A.checked from J) (ai (show A.checked<=(A.read.length:Int) from J) (ai (show(A.read.length:Int)<=(A.read.length:Int) from J) (U ((((A.read.length - A.checked.toNat):Nat):Int)>0) (fun _=>aV (0:Int) (((A.read.length - A.checked.toNat):Nat):Int) J J (ai (dB (A.read.map aK).flatten) (ai (vj J) (U (hd=I) (fun _=>ai cJ (U (ve<=A.rv) (fun _=>eT true (hT J)) bd)) bd)))) bd))))))))):P:=h
theorem OB(h:P:=by exact fun _=>U ((A.aC.length:Int)=0) (fun _=>U (I>(-1)) (fun _=>ai (show S≠0 from by omega) (ai Cb (U (om=th) dh bd))) bd) (fun _=>ai (f3 J) (aV ((A.aC.length:Int) - 1) (A.aC.length:Int) J J (ai (dB (A.aC.map aK).flatten) (ai (xM J) (U (I>la) (fun _=>ai (show S≠0 from by omega) (ai Cb (U (om=th) dh bd))) bd)))))):P:=h
theorem Hi(h:P:=by exact fun _=>ai cw (U (ow>=0) (fun _=>U (ow≠th) (fun _=>vp (mP n o len th tx I v x ab A 0) True trivial) (fun _=>vp (mP n o len th tx I v x ab A 0) True trivial)) (fun _=>vp (mP n o len th tx I v x ab A 0) True trivial))):P:=h
theorem zD(h:P:=by exact fun _=>ai (f2 J) (Gx hn hm aH bA (M5 n o len m p lo nT nS T V S nn eq fu oe aj ah c ak an tr ov tn) ⟨by omega,rfl,rfl⟩)):P:=h
theorem xk(h:P:=by exact fun _=>ai cw (U (ow>=0) (fun _=>U (ow≠th) (fun _=>ai cJ (U (ve>A.rv) (fun _=>U (A.last=4) aA bd) (fun _=>U (A.last=4) aA bd))) (fun _=>ai cJ (U (ve>A.rv) (fun _=>U (A.last=4) aA bd) (fun _=>U (A.last=4) aA bd)))) (fun _=>ai cJ (U (ve>A.rv) (fun _=>U (A.last=4) aA bd) (fun _=>U (A.last=4) aA bd))))):P:=h
theorem Hj(h:P:=by exact fun _=>U (oe=42) (fun _=>ai (f4 J) (U ((ot.length:Int)≠((ov.length:Int)+1)) dh (fun _=>U (oe≠0) dh (fun _=>U ((ot.length:Int)≠(ov.length:Int)) dh (fun _=>ai (f3 J) fM))))) (fun _=>U (oe≠0) dh (fun _=>U ((ot.length:Int)≠(ov.length:Int)) dh (fun _=>ai (f3 J) fM)))):P:=h
theorem OC(h:P:=by exact fun _=>ai fM (aV ((A.L.length:Int) - 1) (A.L.length:Int) J J (ai (dB (A.L.map aN).flatten) (ai (f3 ar) (U (A.last=2) (fun _=>U (lk.I=I) (fun _=>U (ow>=0) (fun _=>f4 J) (fun _=>ai cJ (U (ve≠lk.v) (fun _=>f4 J) dh))) dh) dh))))):P:=h
theorem CN(h:P:=by exact fun _=>U ((A.ao.length:Int)=0) (fun _=>U (I>(-1)) (fun _=>f3 J) bd) (fun _=>ai (f2 J) (aV ((A.ao.length:Int) - 1) (A.ao.length:Int) J J (ai (dB (A.ao.map aK).flatten) (ai (xM J) (U (I>la) (fun _=>f3 J) bd)))))):P:=h
theorem eU(h:P:=by simp only[List.length_set];exact aH):P:=h
theorem cS(h:P:=by exact wI (i+1) J):P:=h
theorem ra(h:P:=by exact fun _=>ai (f2 J) (U (A.wv=(A.rv+1)) bd Zm3)):P:=h
theorem Hk(h:P:=by exact fun _=>U (oe=41) bd (fun _=>U (oe=42) (fun _=>U ((IntKind.wrap .i64 ((tn.length:Int) - (ov.length:Int)))≠1) bd (fun _=>U (oe≠0) bd aA)) (fun _=>U (oe≠0) bd (fun _=>U ((IntKind.wrap .i64 ((tn.length:Int) - (ov.length:Int)))≠0) bd (fun _=>U (oe≠0) aA (fun _=>ai (wI (nn+1) J) (Gx hn hm aH bA (M6 n o len m p lo nT nS T V S nn eq fu oe aj ah c ak an tr ov tn) ⟨by omega,rfl,rfl⟩))))))):P:=h
theorem qZ(h:P:=by simp only[List.length_append,List.length_take,List.length_drop,List.length_cons,List.length_nil];omega):P:=h
theorem Hm(h:P:=by exact fun _=>ai cw (U (ow>=0) (fun _=>U (ow≠th) (fun _=>IN th tx I v x ab A S) (fun _=>IN th tx I v x ab A S)) (fun _=>IN th tx I v x ab A S))):P:=h
theorem mY(h:P:=by simp only[List.length_append,List.length_take,List.length_drop,List.length_cons,List.length_nil];unfold room;omega):P:=h
theorem mZ(h:P:=by simp only[List.length_append,List.length_take,List.length_drop,List.length_cons,List.length_nil];unfold top;omega):P:=h
theorem Hn(h:P:=by exact fun _=>U (oe=42) (fun _=>ai (f4 J) (U ((ot.length:Int)≠((ov.length:Int)+1)) dh (fun _=>ai (f3 J) fM))) (fun _=>ai (f3 J) fM)):P:=h
theorem OD(h:P:=by exact fun _=>ai (bN bc.len aH (hC J) 10 1 rfl) (U (I<=c.ao) dp (fun _=>aV I (nS:Int) J J (ai (bN fh.len bA (hQ J) 0 1 rfl) (U (q.owner=(-1)) (fun _=>ai (fR bc.len aH (hC J) (c':={c with I:=3}) (r:=[(.int .i64 (.ofNat 3))]) 0 rfl rfl rfl) (ai (fH bc.len aH (hC J) (c:={c with I:=3}) (c':={c with I:=3,ao:=I}) (r:=[(.int .i64 I)]) 10 rfl rfl rfl) (ai (iO bc.len aH (hC J) (c:={c with I:=3,ao:=I}) 7 1 rfl) (ai (show(0:Int)<=I from J) (ai (fH bc.len aH (hC J) (c:={c with I:=3,ao:=I}) (c':={c with I:=3,au:=(aq .or .u32 c.au (aq .shl .u32 1 I)),ao:=I}) (r:=[(.int .u32 ((aq .or .u32 c.au (aq .shl .u32 1 I))))]) 7 rfl rfl rfl) (aV I (nS:Int) J J (ai (fR fh.len bA (hQ J) (c':={q with owner:=th}) (r:=[(.int .i64 th)]) 0 rfl rfl rfl) (ai eV (ai cS (eK hn bu eU rb (OE n o len m p lo nT nS T V S aj ah c q ak an i th tx I v x ab) (⟨⟨h3,by omega⟩,rfl,rfl⟩))))))))))) dp))))):P:=h
theorem OF(h:P:=by exact fun _=>aV (A.ax.length:Int) (A.ao.length:Int) J (by have:=vq J;omega) (ai (dB (A.ao.map aK).flatten) (ai (pz (vq J)) (U (I=lf) dh bd)))):P:=h
theorem Ho(h:P:=by exact fun _=>U (oe=41) bd (fun _=>U (oe=42) (fun _=>U ((IntKind.wrap .i64 ((tn.length:Int) - (ov.length:Int)))≠1) bd (fun _=>U (oe≠0) (fun _=>U (oe≠41) (fun _=>U (oe≠42) aA zD) aA) aA)) (fun _=>U (oe≠0) (fun _=>U (oe≠41) (fun _=>U (oe≠42) bd aA) aA) zD))):P:=h
theorem xl(h:P:=by exact fun _=>ai cw (U (ow>=0) (fun _=>U (ow≠th) (fun _=>ai cJ (U (ve>A.rv) bd bd)) (fun _=>ai cJ (U (ve>A.rv) bd bd))) (fun _=>ai cJ (U (ve>A.rv) bd bd)))):P:=h
theorem OG(h:P:=by exact fun _=>aV i (len:Int) J J (ai hn (ai (c9 he 3 1 ar) (U (e.I=s) (fun _=>aV i (len:Int) J J (ai hn (ai (c9 he 0 1 ar) (U (e.kind=9) (fun _=>ai (show(0:Int)=(0:Int) from rfl) (ai (show i=i from rfl) (ai hn (ai (show(0:Int)<=(0:Int) from J) (ai (show(0:Int)<=i from J) (ai (show i<=(len:Int) from J) (aV i (len:Int) J J (ai hn (ai (c9 he 1 1 ar) (ai (WO e.az hm (fun x hx=>qi x hx) J) (Km b r s e (kN m.reverse e.az) CO))))))))))) (fun _=>ai (wI (i - 1) J) (f1 CO)))))) (fun _=>ai (wI (i - 1) J) (f1 CO)))))):P:=h
theorem OH(h:P:=by exact fun _=>ai fM (ai (show(0:Int)=(0:Int) from rfl) (ai (show(i+1)=(i+1) from rfl) (ai hn (ai (show(0:Int)<=(0:Int) from J) (ai (show(0:Int)<=(i+1) from J) (ai (show(i+1)<=(len:Int) from J) (ai (BG th S hm qi J J) (ai (yE (aG m.reverse th S)) (U (aS (aG m.reverse th S)) (fun _=>ai (wI (c+1) J) (ai fM (IP n o len th S (c+1) (i+1) (p7 e th (aS (aG m.reverse th S)) c) OI))) Hp)))))))))):P:=h
theorem xm(h:P:=by exact fun _=>ai cw (U (ow>=0) (fun _=>U (ow≠th) (fun _=>U (A.last=4) aA bd) (fun _=>U (A.last=4) aA bd)) (fun _=>U (A.last=4) aA bd))):P:=h
theorem jj(h:P:=by exact fun h3=>oj false (hF (fun z=>h3 z.1))):P:=h
theorem CQ(h:P:=by exact fun _=>ai cw (U (ow>=0) (fun _=>U (ow≠th) (fun _=>U (A.last=10) aA (fun _=>U (A.last=11) aA bd)) (fun _=>U (A.last=10) aA (fun _=>U (A.last=11) aA bd))) (fun _=>U (A.last=10) aA (fun _=>U (A.last=11) aA bd)))):P:=h
theorem CR(h:P:=by exact fun _=>ai cw (U (ow>=0) (fun _=>U (ow≠th) (fun _=>U (A.last=7) aA (fun _=>U (A.last=8) aA bd)) (fun _=>U (A.last=7) aA (fun _=>U (A.last=8) aA bd))) (fun _=>U (A.last=7) aA (fun _=>U (A.last=8) aA bd)))):P:=h
theorem Hq(h:P:=by exact fun _=>ai (show S≠0 from by omega) (ai (f2 J) (aV ((A.L.length:Int) - 1) (A.L.length:Int) J J (ai (dB (A.L.map aN).flatten) (ai (f3 ar) (U (A.last=2) (fun _=>U (lk.I=(Int.tmod I S)) (fun _=>ai Cb (U (om<0) (fun _=>ai Y6 (U (Av=lk.v) (fun _=>eT true (hT J)) bd)) bd)) bd) bd)))))):P:=h
theorem nV(h:P:=by exact fun fr s1 p hC=>by obtain⟨h1,rfl,rfl⟩:=hC;exact H h1):P:=h
theorem eV(h:P:=by exact wI (an+1) J):P:=h
theorem m7(h:P:=by exact fun fr s p hC=>by obtain⟨rfl,rfl⟩:=hC;exact H):P:=h
theorem fX(h:P:=by exact fun r hr=>FJ hr):P:=h
theorem mj(h:P:=by first|exact .head _|exact .tail _ (.head _)):P:=h
theorem OJ(h:P:=by exact fun _=>ai nL (U (fu=1) (fun _=>ai kW (U (eq=1) (fun _=>U (nn<0) aA (fun _=>U (nn>=(nT:Int)) aA (fun _=>aV nn (nT:Int) J J (ai (bN bc.len aH hC 1 1 rfl) (U ((ov.length:Int)≠c.cc) bd (fun _=>U (oe=41) (fun _=>U (oe=42) aA (fun _=>U (oe≠0) (fun _=>U (oe≠41) aA zD) aA)) bd)))))) bd)) (fun _=>ai kW (U (eq=1) (fun _=>U (nn<0) aA (fun _=>U (nn>=(nT:Int)) aA (fun _=>aV nn (nT:Int) J J (ai (bN bc.len aH hC 1 1 rfl) (U ((ov.length:Int)≠c.cc) bd Ho))))) bd)))):P:=h
theorem OK(h:P:=by exact fun _=>ai DA (ai DA (U ((tr.length:Int)≠(tr.length:Int)) aA (fun _=>jB (pe n o len n' o' eM T V S T' V' S' tr 0) (NL n o len n' o' eM T V S T' V' S' tr) (⟨trivial,rfl,rfl⟩))))):P:=h
theorem OL(h:P:=by exact fun _=>ai nL (U (fu=1) (fun _=>ai kW (U (eq=1) (fun _=>U (nn<0) aA (fun _=>U (nn>=(nT:Int)) aA (fun _=>aV nn (nT:Int) J J (ai (bN bc.len aH hC 1 1 rfl) (U ((ov.length:Int)≠c.cc) bd (fun _=>U (oe=41) (fun _=>U (oe=42) aA (fun _=>U (oe≠0) bd aA)) bd)))))) bd)) (fun _=>ai kW (U (eq=1) (fun _=>U (nn<0) aA (fun _=>U (nn>=(nT:Int)) aA (fun _=>aV nn (nT:Int) J J (ai (bN bc.len aH hC 1 1 rfl) (U ((ov.length:Int)≠c.cc) bd Hk))))) bd)))):P:=h
theorem p8(h:P:=by exact fun fr s1 p hC=>by obtain⟨rfl,rfl,h3⟩:=hC;exact H h3):P:=h
theorem Hr(h:P:=by exact fun _=>U (ow<0) (fun _=>ai cJ (U (v>=ve) (fun _=>U (v<=A.rv) dh bd) bd)) bd):P:=h
theorem Hs(h:P:=by exact fun _=>ai cJ (U (ve>A.rv) (fun _=>U (ow<0) dh bd) (fun _=>U (ow<0) bd bd))):P:=h
theorem uq(h:P:=by exact IQ (fun r h=>aJ.ae (h nm dT) h) J ar (low 272) rfl):P:=h
theorem Ht(h:P:=by exact fun _=>ai cw (U (ow>=0) (fun _=>U (ow≠th) (fun _=>ai cJ (U (ve>A.rv) ra ra)) (fun _=>ai cJ (U (ve>A.rv) ra ra))) (fun _=>ai cJ (U (ve>A.rv) ra ra)))):P:=h
theorem OM(h:P:=by exact fun _=>aV I (nS:Int) J J (ai (bN fh.len bA (hQ J) 1 1 rfl) (ai (bN bc.len aH (hC J) 2 1 rfl) (U (q.version>c.rv) dp (fun _=>ai (bN bc.len aH (hC J) 9 1 rfl) (ai (show(0:Int)<=I from J) (ai (fR bc.len aH (hC J) (c':={c with check:=(aq .andNot .u32 c.check (aq .shl .u32 1 I))}) (r:=[(.int .u32 ((aq .andNot .u32 c.check (aq .shl .u32 1 I))))]) 9 rfl rfl rfl) (ai eV (ai cS (eK hn bu eU gd (ON n o len m p lo nT nS T V S aj ah c q ak an i th tx I v x ab) (⟨⟨h3,by omega⟩,rfl,rfl⟩))))))))))):P:=h
theorem CS(h:P:=by exact fun _=>ai cS (SN n o len T V S nn i W l hW hL hn (FK n o len T V S nn i e W l) (.inr (⟨J,rfl,rfl⟩)))):P:=h
theorem OO(h:P:=by exact fun _=>ai kW (U (eq=1) (fun _=>U (nn<0) aA (fun _=>U (nn>=(nT:Int)) aA (fun _=>aV nn (nT:Int) J J (ai (bN bc.len aH hC 1 1 rfl) (U ((ov.length:Int)≠c.cc) bd (fun _=>U (oe=41) bd (fun _=>U (oe=42) bd (fun _=>U (oe≠0) (fun _=>U (oe≠41) (fun _=>U (oe≠42) bd aA) aA) zD)))))))) bd)):P:=h
theorem jv(h:P:=by unfold aB;omega):P:=h
theorem CT(h:P:=by exact fun _=>ai cS (SO n o len T V S nn i W hW hn (FL n o len T V S nn i e W) (.inr (⟨J,rfl,rfl⟩)))):P:=h
theorem CU(h:P:=by exact fun _=>ai cS (TW n o len T V S nn i l hL hn (FM n o len T V S nn i e l) (.inr (⟨J,rfl,rfl⟩)))):P:=h
theorem xn(h:P:=by exact fun _=>ai cw (U (ow>=0) (fun _=>U (ow≠th) bd bd) bd)):P:=h
theorem CV(h:P:=by exact fun _=>ai cS (TX n o len T V S nn i hn (FN n o len T V S nn i e) (.inr (⟨J,rfl,rfl⟩)))):P:=h
theorem OP(h:P:=by exact fun _=>U (A.last=5) aA (fun _=>U (A.last=6) aA (fun _=>ai cw (U (ow>=0) (fun _=>U (ow≠th) (fun _=>ai cJ (U (ve>A.rv) (fun _=>eT true (hT J)) (fun _=>eT true (hT J)))) (fun _=>ai cJ (U (ve>A.rv) bd bd))) (fun _=>ai cJ (U (ve>A.rv) bd bd)))))):P:=h
theorem p9(h:P:=by exact fun _=>M7 false (hF J)):P:=h
theorem fM(h:P:=by exact f1 J):P:=h
theorem OQ(h:P:=by exact fun _=>ai kW (U (eq=1) (fun _=>U (nn<0) aA (fun _=>U (nn>=(nT:Int)) aA (fun _=>aV nn (nT:Int) J J (ai (bN bc.len aH hC 1 1 rfl) (U ((ov.length:Int)≠c.cc) bd (fun _=>U (oe=41) bd (fun _=>U (oe=42) bd bd))))))) bd)):P:=h
theorem gd(h:P:=by exact bA):P:=h
theorem xo(h:P:=by exact fun fr s1 p hC=>by obtain⟨rfl,rfl⟩:=hC;exact H):P:=h
theorem rb(h:P:=by simp only[List.length_set];exact bA):P:=h
theorem CW(h:P:=by(try simp only[List.length_append,List.length_cons,List.length_nil]);unfold room;omega):P:=h
theorem CY(h:P:=by(try simp only[List.length_append,List.length_cons,List.length_nil]);unfold top;omega):P:=h
theorem zE(h:P:=by exact U (i<(la:Int)) aA (fun _=>M7 true rfl (v:=.bool true))):P:=h
theorem OS(h:P:=by exact fun _=>aV (A.ax.length:Int) (A.ao.length:Int) J (by have:=vq J;omega) (ai (dB (A.ao.map aK).flatten) (ai (pz (vq J)) (U (I=lf) (fun _=>eT true (hT J)) (fun _=>eT false (hF J)))))):P:=h
theorem OT(h:P:=by exact fun _=>U (A.last=5) aA (fun _=>U (A.last=6) aA (fun _=>ai cw (U (ow>=0) (fun _=>U (ow≠th) (fun _=>ai cJ (U (ve>A.rv) CN CN)) (fun _=>ai cJ (U (ve>A.rv) xg xg))) (fun _=>ai cJ (U (ve>A.rv) xg xg)))))):P:=h
theorem OU(h:P:=by exact fun _=>ai (wI ab J) (ai (congrArg (AV.int .u8) (show IntKind.wrap .u8 ab=ab from RX J)) (ai (wI ab J) (jk 10 10 th th tx 0 I I v 0 x 0 ab ab (fun _=>jb 10 th tx I v x ab T V S jv) aw)))):P:=h
theorem OW(h:P:=by exact fun _=>U (k<(l.length:Int)) (fun _=>aV k (l.length:Int) J J (ai (dB (l.map aK).flatten) (ai (vr (l:=l) (Qf J)) (U (c=s) (fun _=>lfP l s (hA J J)) Qe)))) Qe):P:=h
theorem CZ(h:P:=by exact fun _=>ai cw (U (ow>=0) (fun _=>U (ow≠th) Hg Hg) Hg)):P:=h
theorem zF(h:P:=by exact Qg 276 (([]++A.L)++[e]) J J qZ):P:=h
theorem OX(h:P:=by exact fun _=>U (A.last=5) aA (fun _=>U (A.last=6) aA (fun _=>ai cw (U (ow>=0) (fun _=>U (ow≠th) (fun _=>U (v=0) dh bd) (fun _=>U (v=0) dh bd)) (fun _=>U (v=0) dh bd))))):P:=h
theorem C0(h:P:=by exact fun _=>ai cw (U (ow>=0) (fun _=>U (ow≠th) IM IM) IM)):P:=h
theorem Hu(h:P:=by exact fun _=>ai cJ (U (ve>A.rv) (fun _=>U (A.last=4) dh bd) (fun _=>U (A.last=4) dh bd))):P:=h
theorem ur(h:P:=by unfold aS;omega):P:=h
theorem kP(h:P:=by exact TY A aU):P:=h
theorem Hv(h:P:=by exact fun _=>U (A.last=4) (fun _=>ai xp (U (v>ck) (fun _=>eT true (hT J)) bd)) bd):P:=h
theorem C1(h:P:=by exact fun fr s p hC=>by obtain⟨rfl,rfl,h3⟩:=hC;rw[h3];exact H):P:=h
theorem uu(h:P:=by exact fun _=>oj false (hF J)):P:=h
theorem Hp(h:P:=by exact fun _=>ai fM (IP n o len th S c (i+1) (p7 e th (aS (aG m.reverse th S)) c) OI)):P:=h
theorem OY(h:P:=by exact fun _=>ai cw (U (ow>=0) (fun _=>U (ow≠th) (fun _=>ai cJ (U (ve>A.rv) Dy Dy)) (fun _=>ai cJ (U (ve>A.rv) Dy Dz))) (fun _=>ai cJ (U (ve>A.rv) Dy Dz)))):P:=h
theorem uv(h:P:=by exact wI ((len:Int) - 1) J):P:=h
theorem C2(h:P:=by exact fun fr s1 p hC=>by obtain⟨_,rfl,rfl⟩:=hC;exact H):P:=h
theorem OZ(h:P:=by exact fun _=>U ((ov.length:Int)≠0) bd (fun _=>U (oe=41) (fun _=>U (oe=42) aA (fun _=>U (oe≠0) (fun _=>U (oe≠41) aA zD) aA)) bd)):P:=h
theorem xq(h:P:=by exact fun _=>f1 (by unfold iq;omega)):P:=h
theorem zG(h:P:=by unfold iu;(repeat' split)<;>omega):P:=h
theorem O0(h:P:=by exact fun _=>aV i (len:Int) J J (ai hn (ai (c9 he 4 1 ar) (TZ r e e.v (by unfold o8;(repeat' split)<;>omega))))):P:=h
theorem Hw(h:P:=by exact fun _=>ai cw (U (ow>=0) (fun _=>U (ow≠th) ra ra) ra)):P:=h
theorem O1(h:P:=by exact fun _=>U (A.last=5) aA (fun _=>U (A.last=6) aA (fun _=>ai cw (U (ow>=0) (fun _=>U (ow≠th) Hs Hs) Hs)))):P:=h
theorem O2(h:P:=by exact fun _=>U (A.last=5) aA (fun _=>U (A.last=6) aA (fun _=>ai cw (U (ow>=0) (fun _=>U (ow≠th) Hr Hr) Hr)))):P:=h
theorem O3(h:P:=by exact fun _=>U (A.last=5) aA (fun _=>U (A.last=6) aA (fun _=>ai cw (U (ow>=0) (fun _=>U (ow≠th) xj xj) xj)))):P:=h
theorem Hx(h:P:=by exact fun _=>U (A.last=10) OF (fun _=>U (A.last=11) OF bd)):P:=h
theorem NM(h:P:=by exact fun _=>U (A.last=5) aA (fun _=>U (A.last=6) aA (fun _=>ai cw (U (ow>=0) (fun _=>U (ow≠th) dh dh) dh)))):P:=h
theorem Gy(h:P:=by exact fun _=>U (A.last=5) Hm (fun _=>U (A.last=6) Hm Hm)):P:=h
theorem Gz(h:P:=by exact fun _=>U (A.last=5) Hi (fun _=>U (A.last=6) Hi Hi)):P:=h
theorem NN(h:P:=by exact fun _=>U ((ov.length:Int)≠0) bd (fun _=>U (oe=41) (fun _=>U (oe=42) aA (fun _=>U (oe≠0) bd aA)) bd)):P:=h
theorem GA(h:P:=by exact fun _=>U (A.last=7) OB (fun _=>U (A.last=8) OB bd)):P:=h
theorem ud(h:P:=by exact wI (k+1) J):P:=h
theorem o9(h:P:=by exact oF J):P:=h
theorem GB(h:P:=by exact fun _=>U (oe=42) dh (fun _=>ai (f3 J) fM)):P:=h
theorem GC(h:P:=by exact fun _=>eT false (hF (fun z=>by have z:=z.2;omega))):P:=h
theorem NO(h:P:=by exact fun _=>ai (wI (i - 1) J) (SP n o len s r (i - 1) e hn (by unfold mQ;(repeat' split)<;>omega))):P:=h
theorem NP(h:P:=by exact IS 276 (([]++A.L)++[e]) J J qZ 280 (([]++A.ax)++[e.I]) J J qZ):P:=h
theorem NQ(h:P:=by exact fun _=>ai DB (U (ft=1) (fun _=>ai pz (U (ft=1) OK aA)) (fun _=>ai pz (U (ft=1) aA OK)))):P:=h
theorem NR(h:P:=by(try simp only[List.length_append,List.length_map,List.length_cons,List.length_nil]);unfold room;omega):P:=h
theorem NS(h:P:=by(try simp only[List.length_append,List.length_map,List.length_cons,List.length_nil]);unfold top;omega):P:=h
theorem NT(h:P:=by exact fun _=>ai cJ (U (ve>A.rv) (fun _=>U (A.last=4) xg bd) (fun _=>U (A.last=4) xg bd))):P:=h
theorem NU(h:P:=by exact fun _=>U ((A.ax.length:Int)=(A.ao.length:Int)) (fun _=>DC A ur) (fun _=>IT A ur)):P:=h
theorem wW(h:P:=by exact fun _=>oj false rfl):P:=h
theorem NV(h:P:=by exact fun _=>ai cS (vp (mP n o len th tx I v x ab A (i+1)) (¬(ow<0/\A.rv<ve)) J)):P:=h
theorem wX(h:P:=by exact wI (T - 1) J):P:=h
theorem NW(h:P:=by exact fun _=>U (oe≠0) (fun _=>U (oe≠41) (fun _=>U (oe≠42) dh Hn) Hn) Hn):P:=h
theorem NX(h:P:=by exact fun _=>U (oe≠0) (fun _=>U (oe≠41) (fun _=>U (oe≠42) dh Hj) Hj) Hj):P:=h
theorem GD(h:P:=by exact fun _=>ai cJ (U (ve>A.rv) OC OC)):P:=h
theorem NY(h:P:=by exact fun _=>U ((A.ao.length:Int)=0) (fun _=>DC A ur) (fun _=>IT A ur)):P:=h
theorem NZ(h:P:=by exact jt 13 th tx I v x ab (nT:Int) V (nS:Int) ⟨ho,by unfold bL;omega⟩):P:=h
theorem J(h:P:=by omega):P:=h
theorem ar(h:P:=by decide):P:=h
theorem bx(h:P:=by kernel_rfl):P:=h
theorem dJ(h:P:=by unfold aB;omega):P:=h
theorem sS(h:P:=by rw[eI.length];unfold top;(try simp only[List.length_append,List.length_cons,List.length_nil,List.length_set]);omega):P:=h
theorem iA(h:P:=by rw[r.ck];exact T0 (by simp)):P:=h
theorem dW(h:P:=by unfold top;omega):P:=h
theorem cR(h:P:=by simp):P:=h
theorem vt(h:P:=by rw[eC.length];unfold top;(try simp only[List.length_append,List.length_cons,List.length_nil]);omega):P:=h
theorem jl(h:P:=by as_aux_lemma=>kernel_rfl):P:=h
theorem Hy(h:P:=by rw[Cc (.inr rfl),if_pos rfl];show _=Sr.mk _ (if I=I/\(11:Int)=2 then v else if I=I/\(11:Int)=9 then _ else _);rw[if_neg (by simp),if_neg (by simp)]):P:=h
theorem qa(h:P:=by rw[Int.toNat_natCast];exact cF k e he):P:=h
theorem O4(h:P:=by rw[Cc (.inl rfl),if_pos rfl];show _=Sr.mk _ (if I=I/\(9:Int)=2 then v else if I=I/\(9:Int)=9 then _ else _);rw[if_neg (by simp),if_pos ⟨rfl,rfl⟩,r'.wv (O5 m),d.wv (O5 m)]):P:=h
theorem C3(h:P:=by rw[List.drop_of_length_le (l:=a) (by omega)];rw[List.drop_of_length_le (by omega)]):P:=h
theorem qb(h:P:=by have:=d.wh (by omega);omega):P:=h
theorem m8(h:P:=by have:=m.2.1;omega):P:=h
theorem C4(h:P:=by rw[List.length_append,List.length_cons,List.length_nil];omega):P:=h
theorem sw(h:P:=by unfold top at hk;omega):P:=h
theorem OI(h:P:=by unfold p7;first|rw[if_pos ⟨by omega,by omega,by assumption⟩]|rw[if_neg (by simp_all)]):P:=h
theorem zH(h:P:=by rw[Int.toNat_natCast];exact e3):P:=h
theorem CO(h:P:=by unfold mf;(repeat' split)<;>omega):P:=h
theorem Hz(h:P:=by rw[List.length_append,List.length_singleton];omega):P:=h
theorem C5(h:P:=by rw[oD];unfold top;omega):P:=h
theorem xr(h:P:=by rw[←w];exact z):P:=h
end Go.Rn
end
section
open Go Go.Rn Go.RowKit Go.Proofs
namespace cd
variable {n nt f:Nat} {t:Tr AV} {l:List (Nat×AV)} {T A:Prop} {L:gn} {K:List Item} {C:bz}
def BX:List (List UInt8×List FuncId):=[([],[]),([98,101,103,105,110],[88,89]),([108,111,111,107],[86,89]),([108,111,97,100],[86,90]),([108,111,99,107],[86]),([98,117,109,112],[89]),([99,104,101,99,107],[86]),([99,111,109,109,105,116],[89]),([115,116,111,114,101],[86,90]),([102,114,101,101],[86]),([97,98,111,114,116],[91,86]),([117,110,100,111],[86]),([119,97,105,116],[]),([119,97,107,101],[])]
def Y9:List Int:=[0,1,28,2,29,14,24,3,30,22,20,15,25,17,4,8,31,27,13,23,21,19,16,7,26,12,18,6,11,5,10,9]
noncomputable section
def K2:List AV:=Y9.map fun n=>AV.int .u8 n
def K3:List AV:=BX.map fun p=>AV.str ⟨p.1.toArray⟩
def Za:Tr aE:=(Bt fb (BX.map (·.2)) .nil).put 0 (some (.ro (nw fb BX).length (Tr.fill (nw fb BX) 0 .nil)))
def Zb:Tr aE:=Za.put 1 (some (.ro K2.length (Tr.fill K2 0 .nil)))
def eD:Tr aE:=Zb.put 2 (some (.ro K3.length (Tr.fill K3 0 .nil)))
end
def eg:List Nat:=[2,1,0,256,257,258,259,260,261,262,263,264,265,266,267,268,269]
theorem fq:Tryd.prog.follows .mixedOrders=true:=by kernel_rfl
theorem v7:fb<=270:=bH.1 bx
theorem WT:270<=top:=bH.1 bx
noncomputable def ay:List (Nat×Option aE):=eg.map fun n=>(n,eD.get n)
theorem Lq:nU ay=eD:=by kernel_rfl
theorem Na:aM ay 270=⟨eD,270,0,[],[]⟩:=by
 show(⟨nU ay,270,0,[],[]⟩:AS)=_
 rw[Lq]
theorem Zc(n:Nat)(o:aE)(hn:n<top)(h:eD.get n=some o):n∈eg:=by
 rw[←Lq] at h
 have hm:=tu (l:=ay) (fun p hp=>by
  obtain⟨k,hk,rfl⟩:=List.mem_map.1 hp
  have:=A3 (m:=top) (l:=eg) bx k hk
  exact this) h
 obtain⟨k,hk,e⟩:=List.mem_map.1 hm
 injection e with e1 _
 rw[←e1];exact hk
theorem aaC:∀n∈eg,n<270:=fun n hn=>A3 (m:=270) (l:=eg) bx n hn
structure Ev where
 kind:Int
 az:Int
 tx:Int
 I:Int
 v:Int
 x:Int
 ab:Int
deriving DecidableEq,Inhabited
def dF(e:Ev):Prop:=(0<=e.kind/\e.kind<=255)/\bL e.az/\bL e.tx/\bL e.I/\bL e.v/\bL e.x/\(0<=e.ab/\e.ab<=255)
def eR(l:List Ev):Prop:=∀e∈l,dF e
def aN(e:Ev):List AV:=[(.int .u8 (e.kind)),(.int .i64 (e.az)),(.int .i64 (e.tx)),(.int .i64 (e.I)),(.int .i64 (e.v)),(.int .i64 (e.x)),(.int .u8 (e.ab))]
def aK(n:Int):List AV:=[.int .i64 n]
theorem eE:lv 7 aN:=⟨fun _=>rfl,fun _=>rfl⟩
theorem eI:lv 1 aK:=⟨fun _=>rfl,fun _=>rfl⟩
theorem qy(x y:Ev)(h:aN x=aN y):x=y:=by
 obtain⟨a1,a2,a3,a4,a5,a6,a7⟩:=x
 obtain⟨b1,b2,b3,b4,b5,b6,b7⟩:=y
 simp only[aN,List.cons.injEq,AV.int.injEq,true_and,_root_.and_true] at h
 obtain⟨rfl,rfl,rfl,rfl,rfl,rfl,rfl⟩:=h
 rfl
theorem pJ(x y:Int)(h:aK x=aK y):x=y:=by
 simp only[aK,List.cons.injEq,AV.int.injEq,true_and,_root_.and_true] at h
 exact h
noncomputable abbrev en(L:gn):Env:=O6 Tryd.prog 270 eg eD L
noncomputable abbrev sp(L:gn):Sp:=kX 270 eg eD L
abbrev bw(B:aZ)(g nt:Nat)(rs:List ResultVar)(args:List AV)(v:AV):Prop:=cM Tryd.prog B 270 (Fin Tryd.prog rs fun y _=>y=v) ⟨g,iD args,nt,[.code (aO Tryd.prog g [])],[],none⟩ (aM ay 270)
abbrev Hc(s:Sp)(n:Nat)(B:aZ):Prop:=hJ Tryd.prog B (bV Tryd.prog s FU n)
abbrev Hl(s:Sp)(n:Nat):Prop:=∀t a,Local (bV Tryd.prog s FU n t a)
abbrev Sm(B:aZ)(rs:List ResultVar)(v:AV)(fr:AF)(s:AS):Prop:=cM Tryd.prog B 270 (Fin Tryd.prog rs fun y _=>y=v) fr s
noncomputable abbrev kO(o:List (Nat×Option aE))(n:Nat):AS:=aM (ay++o) n
abbrev bK(T V S:Int)(n o len:Nat):List AV:=[(.int .i64 T),(.int .i64 V),(.int .i64 S),(.ae n o len)]
abbrev bn(k a b c d e w:Int):List AV:=[(.int .u8 k),(.int .i64 a),(.int .i64 b),(.int .i64 c),(.int .i64 d),(.int .i64 e),(.int .u8 w)]
abbrev fx(f:AF)(s:AS)(fr:AF)(s1:AS):Prop:=fr=f/\s1=s
theorem wI(z:Int)(h: -9223372036854775808<=z/\z<=9223372036854775807):AV.int .i64 (IntKind.wrap .i64 z)=AV.int .i64 z:=congrArg (AV.int .i64) (JY h)
theorem aV(z n:Int)(h1:0<=z)(h2:z<n)(x:A):0<=z/\z<n/\A:=⟨h1,h2,x⟩
theorem ai{B:Prop}(a:A)(b:B):A/\B:=⟨a,b⟩
theorem oF(h:False):False:=h
abbrev WkS(bp:Nat)(l0:List (Nat×AV))(o0:List (Nat×Option aE))(l:List (Nat×AV))(o:List (Nat×Option aE))(nx:Nat)(C:bz)(fr:AF):Prop:=(l0.map (fun q=>some q.2)=l0.map (fun q=>some q.2))/\((ay++o0).map (fun q=>q.2)=(ay++o0).map (fun q=>q.2))/\fC FU 270 bp l0 (ay++o0) l (ay++o) nx/\C fr (kO o nx) .no
abbrev LsS(l:List (Nat×AV))(o:List (Nat×Option aE))(nx:Nat)(C:bz)(fr:AF):Prop:=(l.map (fun q=>some q.2)=l.map (fun q=>some q.2))/\((ay++o).map (fun q=>q.2)=(ay++o).map (fun q=>q.2))/\C fr (kO o nx) .no
structure Fm where
 f:Nat
 l:List (Nat×AV)
 t:Nat
 K:List Item
 o:List (Nat×Option aE)
 x:Nat
noncomputable abbrev Fm.r(F:Fm):AF:=⟨F.f,eS F.l,F.t,F.K,[],none⟩
noncomputable abbrev Fm.s(F:Fm):AS:=kO F.o F.x
abbrev FSQ(B:aZ)(v:AV)(rs:List ResultVar)(F:Fm):Prop:=Sm B rs v F.r F.s
abbrev FC(F:Fm)(fr:AF)(s:AS):Prop:=fr=F.r/\s=F.s
abbrev FH(C:bz)(F:Fm):Prop:=C F.r F.s .no
abbrev FW(n:Nat)(l:List (Nat×AV))(o:List (Nat×Option aE))(F:Fm)(C:bz):Prop:=WkS n l o F.l F.o F.x C F.r
theorem jB(F:Fm)(C:bz)(h:FH C F):LsS F.l F.o F.x C F.r:=⟨rfl,rfl,h⟩
theorem vp(F:Fm)(P:Prop)(h:P):(F.l.map (fun q=>some q.2)=F.l.map (fun q=>some q.2))/\((ay++F.o).map (fun q=>q.2)=(ay++F.o).map (fun q=>q.2))/\(P/\F.r=F.r/\F.s=F.s):=⟨rfl,rfl,h,rfl,rfl⟩
noncomputable abbrev iT(F:Fm):Pl:=.ls F.l (ay++F.o) F.x .no
noncomputable abbrev fO(l:List (Nat×AV))(o:List (Nat×Option aE))(F:Fm)(n:Nat):Pl:=.rn l (ay++o) F.l (ay++F.o) n F.x .no
def gA(n k m:Nat)(p:Pl):Pl:=.go n (.en (.st k (.rg (.go m p))))
def gB(k m:Nat)(p:Pl):Pl:=.en (.st k (.rg (.go m p)))
def gC(k m:Nat)(p:Pl):Pl:=.st k (.rg (.go m p))
def gD(n k:Nat)(p:Pl):Pl:=.go n (.en (.st k (.rg p)))
def gE(k:Nat)(p:Pl):Pl:=.en (.st k (.rg p))
def gF(n k:Nat):Pl:=.go n (.en (.rt k .no))
def gG(k:Nat):Pl:=.en (.rt k .no)
def gH(n k:Nat)(p:Pl):Pl:=.go n (.en (.rt k p))
def gI(k:Nat)(p:Pl):Pl:=.en (.rt k p)
def gJ(k:Nat)(p:Pl):Pl:=.st k (.rg p)
def gK(n k:Nat)(p:Pl):Pl:=.go n (.en (.st k p))
def gL(k:Nat)(p:Pl):Pl:=.en (.st k p)
noncomputable abbrev sV:List ResultVar:=Tryd.f3.results.toList
noncomputable abbrev lA:List ResultVar:=Tryd.f4.results.toList
noncomputable abbrev gp:List ResultVar:=Tryd.f5.results.toList
noncomputable abbrev vw:List ResultVar:=Tryd.f6.results.toList
noncomputable abbrev Qj:List ResultVar:=Tryd.f7.results.toList
noncomputable abbrev vx:List ResultVar:=Tryd.f8.results.toList
noncomputable abbrev cg:List ResultVar:=Tryd.f9.results.toList
noncomputable abbrev qc:List ResultVar:=Tryd.f10.results.toList
noncomputable abbrev eN:List ResultVar:=Tryd.f11.results.toList
noncomputable abbrev dm:List ResultVar:=Tryd.f12.results.toList
noncomputable abbrev uz:List ResultVar:=Tryd.f13.results.toList
noncomputable abbrev uA:List ResultVar:=Tryd.f14.results.toList
noncomputable abbrev zM:List ResultVar:=Tryd.f18.results.toList
noncomputable abbrev uB:List ResultVar:=Tryd.f19.results.toList
noncomputable abbrev uC:List ResultVar:=Tryd.f21.results.toList
noncomputable abbrev aaD:List ResultVar:=Tryd.f22.results.toList
noncomputable abbrev uD:List ResultVar:=Tryd.f23.results.toList
noncomputable abbrev uE:List ResultVar:=Tryd.f24.results.toList
noncomputable abbrev aaE:List ResultVar:=Tryd.f25.results.toList
noncomputable abbrev ph:List ResultVar:=Tryd.f26.results.toList
noncomputable abbrev C7:List ResultVar:=Tryd.f39.results.toList
noncomputable abbrev aaF:List ResultVar:=Tryd.f41.results.toList
noncomputable abbrev fN:List ResultVar:=Tryd.f42.results.toList
noncomputable abbrev aaG:List ResultVar:=Tryd.f43.results.toList
noncomputable abbrev sA:List ResultVar:=Tryd.f44.results.toList
noncomputable abbrev jw:List ResultVar:=Tryd.f56.results.toList
noncomputable abbrev lx:List ResultVar:=Tryd.f57.results.toList
noncomputable abbrev uF:List ResultVar:=Tryd.f58.results.toList
noncomputable abbrev uG:List ResultVar:=Tryd.f59.results.toList
noncomputable abbrev uH:List ResultVar:=Tryd.f60.results.toList
noncomputable abbrev uI:List ResultVar:=Tryd.f68.results.toList
abbrev Mc(s:Sp)(n:Nat)(B:aZ):Prop:=B.F=FU/\Hc s n B/\Hl s n
theorem wS{B:aZ}(mc:Mc (sp L) n B){s:AS}{rs:List ResultVar}{R:AV->AS->Prop}(fuel:Nat)(p:Pl)(x:T)(h:T=wp (en L) fuel n (.fr f nt K t s) p rs (fun v s _=>R v s) (fun _ _ _=>False):=by as_aux_lemma=>kernel_rfl)(h0:Nat.ble 270 s.nx=true:=by as_aux_lemma=>kernel_rfl):cM Tryd.prog B 270 (Fin Tryd.prog rs R) ⟨f,t,nt,K,[],none⟩ s:=
 WN (E:=en L) tK rfl fq mc.2.1 mc.2.2 fuel p x h h0
theorem wC{B:aZ}(mc:Mc (sp L) n B){s:AS}{rs:List ResultVar}{R:AV->AS->Prop}(hC:∀fr s p,C fr s p->cM Tryd.prog B 270 (Fin Tryd.prog rs R) fr s)(fuel:Nat)(p:Pl)(x:T)(h:T=wp (en L) fuel n (.fr f nt K t s) p rs (fun v s _=>R v s) C:=by as_aux_lemma=>kernel_rfl)(h0:Nat.ble 270 s.nx=true:=by as_aux_lemma=>kernel_rfl):cM Tryd.prog B 270 (Fin Tryd.prog rs R) ⟨f,t,nt,K,[],none⟩ s:=
 wL (E:=en L) tK rfl fq mc.2.1 mc.2.2 v7 rfl mc.1 hC fuel p x h h0
section
variable {B:aZ} {rs:List ResultVar} {R:AV->AS->Prop} {P0 P1 P2:Prop} {f0 f1 f2:AF} {m0 m1 m2:AS} (H0:P0->cM Tryd.prog B 270 (Fin Tryd.prog rs R) f0 m0) (H1:P1->cM Tryd.prog B 270 (Fin Tryd.prog rs R) f1 m1) (H2:P2->cM Tryd.prog B 270 (Fin Tryd.prog rs R) f2 m2)
include H0
theorem gj:∀fr s1,Pl->P0/\fr=f0/\s1=m0->cM Tryd.prog B 270 (Fin Tryd.prog rs R) fr s1:=fun fr s1 _ h=>by rcases h with⟨h,rfl,rfl⟩;exact H0 h
include H1
theorem lP:∀fr s1,Pl->(P0/\fr=f0/\s1=m0)\/(P1/\fr=f1/\s1=m1)->cM Tryd.prog B 270 (Fin Tryd.prog rs R) fr s1:=fun fr s1 _ h=>by rcases h with⟨h,rfl,rfl⟩|⟨h,rfl,rfl⟩;exact H0 h;exact H1 h
include H2
theorem zN:∀fr s1,Pl->(P0/\fr=f0/\s1=m0)\/(P1/\fr=f1/\s1=m1)\/(P2/\fr=f2/\s1=m2)->cM Tryd.prog B 270 (Fin Tryd.prog rs R) fr s1:=fun fr s1 _ h=>by rcases h with⟨h,rfl,rfl⟩|⟨h,rfl,rfl⟩|⟨h,rfl,rfl⟩;exact H0 h;exact H1 h;exact H2 h
end
theorem wN{nx:Nat}(h:∀r:Nat->Nat,(∀k,top<=k->r k=k)->∀p∈l,aJ r p.2 p.2)(hn:Nat.ble 270 nx=true):mX nx l ay:=by
 intro r r1 r2
 exact⟨h r r2,fun p hp x hx=>yu (nx:=270) (fun k hk=>r1 k (Nat.lt_of_lt_of_le hk (bH.1 hn))) jl p hp x hx⟩
theorem bk1{fr:AF}{nx:Nat}(h:∀r:Nat->Nat,(∀k,top<=k->r k=k)->∀p∈l,aJ r p.2 p.2)(hn:Nat.ble 270 nx=true)(hc:C fr (aM ay nx) .no):
  l.map (fun q=>some q.2)=l.map (fun q=>some q.2)/\ay.map (fun q=>q.2)=ay.map (fun q=>q.2)/\mX nx l ay/\C fr (aM ay nx) .no:=⟨rfl,rfl,wN h hn,hc⟩
theorem aeA{o len:Nat}{l:List Ev}(h:bt aN 7 (.ae n o len) l){i:Nat}{e:Ev}(he:l[i]? =some e):bM FU n (o+i*7) 7=some (aN e):=h.len.2.2 i e he
end cd
end
section
open Go Go.Rn Go.RowKit Go.Proofs
namespace cj
open cd
variable {l:List Ev} {n:Nat} {f:List Ev->List AV->Option AV}
def iu(e:Ev)(s r:Int):Int:=if e.I≠s then r else if e.kind=4 then e.az else if e.kind=9\/e.kind=11 then -1 else r
def bo:List Ev->Int->Int
 |[],_=> -1
 |e::l,s=>iu e s (bo l s)
def mQ(e:Ev)(th r:Int):Int:=if e.kind=5/\e.az=th then e.v else r
def kN:List Ev->Int->Int
 |[],_=>0
 |e::l,s=>mQ e s (kN l s)
def mf(e:Ev)(s b r:Int):Int:=if e.I=s/\e.kind=2 then e.v else if e.I=s/\e.kind=9 then b else r
def cx:List Ev->Int->Int
 |[],_=>0
 |e::l,s=>mf e s (kN l e.az) (cx l s)
def o8(e:Ev)(r:Int):Int:=if e.kind=1\/e.kind=5 then e.v else r
def ml:List Ev->Int
 |[]=>0
 |e::l=>o8 e (ml l)
def RE(f:List Ev->List AV->Option AV):List AV->AV->Prop:=fun args v=>∃n o len l rest,args= .ae n o len::rest/\bt aN 7 (.ae n o len) l/\eR l/\len<=1000/\f l rest=some v
theorem WU(args:List AV)(v v':AV)(h:RE f args v)(h':RE f args v'):v=v':=by
 obtain⟨n,o,len,l,rest,rfl,h1,_,_,h2⟩:=h
 obtain⟨n',o',eM,l',aev,e,gX,_,_,lS⟩:=h'
 injection e with e1 e2
 injection e1 with e3 e4 e5
 subst e3;subst e4;subst e5;subst e2
 rw[h1.inj qy gX] at h2
 rw[h2] at lS;injection lS
theorem sC{o len:Nat}{rest:List AV}{v:AV}(h:bt aN 7 (.ae n o len) l)(aT:eR l)(hlen:len<=1000)(hf:f l rest=some v)(hr:rest.all AV.hi=true)(hv:v.hi=true):bj (aY (RE f)) (.ae n o len::rest)=some v:=
 l3 (mF WU ⟨n,o,len,l,rest,rfl,h,aT,hlen,hf⟩) (by rw[List.all_cons,hr,h.hi];rfl) hv
theorem F9(h:eR l)(k:Nat):eR (l.take k):=fun e he=>h e (List.mem_of_mem_take he)
def ia:List Ev->List AV->Option AV
 |l,[.int .i64 s]=>some (.int .i64 (bo l.reverse s))
 |_,_=>none
def HC:List Ev->List AV->Option AV
 |l,[.int .i64 s]=>some (.int .i64 (kN l.reverse s))
 |_,_=>none
def iw:List Ev->List AV->Option AV
 |l,[.int .i64 s]=>some (.int .i64 (cx l.reverse s))
 |_,_=>none
def zO:List Ev->List AV->Option AV
 |l,[]=>some (.int .i64 (ml l.reverse))
 |_,_=>none
theorem GH{o len:Nat}(h:bt aN 7 (.ae n o len) l){k:Nat}(hk:k<=len):bt aN 7 (.ae n o k) (l.take k):=by
 have:=h.part (Nat.zero_le k) hk
 rw[Nat.zero_mul,Nat.add_zero,Nat.sub_zero,List.drop_zero] at this;exact this
theorem WO{o len:Nat}(s:Int)(h:bt aN 7 (.ae n o len) l)(aT:eR l)(hlen:len<=1000):bj (aY (RE HC)) [.ae n o len,.int .i64 s]=some (.int .i64 (kN l.reverse s)):=sC h aT hlen rfl rfl rfl
noncomputable def O8:FuncId×(List AV->Option AV):=(59,aY (RE ia))
noncomputable def zP:FuncId×(List AV->Option AV):=(68,aY (RE HC))
noncomputable def O9:FuncId×(List AV->Option AV):=(60,aY (RE iw))
noncomputable def Pa:FuncId×(List AV->Option AV):=(58,aY (RE zO))
end cj
end
section
open Go Go.Rn Go.RowKit Go.Proofs
namespace cv
open cd cj
variable {α:Type} {K bp n:Nat} {enc:α->List AV}
noncomputable abbrev nI(l:List Int):Nat:=nm (l.map aK).flatten
noncomputable abbrev nE(l:List Ev):Nat:=nm (l.map aN).flatten
theorem Bu(he:lv K enc)(l:List α){lo hi:Nat}(h1:lo<=hi)(h2:hi<=l.length):bM FU (nm (l.map enc).flatten) (lo*K) ((hi - lo)*K)=some (((l.drop lo).take (hi - lo)).map enc).flatten:=by
  have hm:hi*K<=l.length*K:=Nat.mul_le_mul_right K h2
  have hs:lo*K+(hi - lo)*K=hi*K:=by rw[←Nat.add_mul];congr 1;omega
  rw[M9 (he.all l) (by rw[hs,he.length];exact hm)]
  congr 1
  have hd:∀(j:Nat) (l:List α),((l.map enc).flatten.drop (j*K))=((l.drop j).map enc).flatten:=by
    intro j
    induction j with
    |zero=>intro l;simp
    | succ j ih=>
      intro l
      cases l with
      |nil=>simp
      | cons a l=>
        rw[List.map_cons,List.flatten_cons,List.drop_succ_cons, ←ih l,Nat.succ_mul,Nat.add_comm (j*K) K, ←List.drop_drop,List.drop_left' (he.len a)]
  have ht:∀(j:Nat) (l:List α),((l.map enc).flatten.take (j*K))=((l.take j).map enc).flatten:=by
    intro j
    induction j with
    |zero=>intro l;simp
    | succ j ih=>
      intro l
      cases l with
      |nil=>simp
      | cons a l=>
        rw[List.map_cons,List.flatten_cons,List.take_succ_cons,List.map_cons,List.flatten_cons, ←ih l,Nat.succ_mul,Nat.add_comm (j*K) K,List.take_append,he.len a,List.take_of_length_le (by rw[he.len a];omega),Nat.add_sub_cancel_left]
  rw[hd,ht]
theorem vi(enc:α->List AV)(l L:List α){gO o len:Nat}{X:Prop}(hf:top<=n/\bM FU n o (len*K)=some (L.map enc).flatten/\len=L.length)(h1:∀x,(enc x).length=K/\(enc x).all AV.ct=true)(h2:2*(l.length+L.length)*gO+4096*gO<=room)(h3:(l.length+L.length)*K<=Rn.top)(x:X):
  l.length=l.length/\some (aD enc l)=some (aD enc l)/\top<=n/\bM FU n o (len*K)=some (L.map enc).flatten/\len=L.length/\(∀x,(enc x).length=K/\(enc x).all AV.ct=true)/\2*(l.length+L.length)*gO+4096*gO<=room/\(l.length+L.length)*K<=Rn.top/\X:=
 ⟨rfl,rfl,hf.1,hf.2.1,hf.2.2,h1,h2,h3,x⟩
def uJ(bp k:Nat):Nat:=if k<270\/top<=k then k else max k bp
theorem yv{k:Nat}(h:top<=k):uJ bp k=k:=if_pos (.inr h)
theorem BY(he:lv K enc)(l:List α){j:Nat}(hl:l.length*K<=top)(hj:j<top)(hn:n<top)(hs:bp<top):fC FU 270 bp [(j,.slice (some (n,0)) l.length (.aX l.length K))] [(n,some (aD enc l))] [(j,aL enc l)] [] 270:=by
 refine⟨[(n,nm (l.map enc).flatten,(l.map enc).flatten)],uJ bp,fun k hk=>if_pos (.inl hk),fun k h1 h2=>?_,fun k hk=>yv hk,by unfold top;decide,fun p hp=>?_,fun p hp=>(by cases hp),fun p hp=>(by cases hp),fun p hp=>?_,fun p _ q hq=>(by cases hq)⟩
 ·unfold uJ;rw[if_neg J];omega
 ·rw[List.mem_singleton] at hp;subst hp
  exact⟨hj,_,List.mem_singleton.2 rfl,jI (List.mem_singleton.2 rfl) (fun k hk=>yv hk) rfl⟩
 ·rw[List.mem_singleton] at hp;subst hp
  exact rO he hl n hn (List.mem_singleton.2 rfl)
def cP:List Int->Int->List Int
 |[],s=>[s]
 |x::l,s=>if x<s then x::cP l s else if x=s then x::l else s::x::l
end cv
end
section
open Go Go.Rn Go.RowKit Go.Proofs
namespace cD
open cd cj cv
variable {bp k:Nat}
def xO(nx bp k:Nat):Nat:=if k<nx\/top<=k then k else max k bp
theorem L8{nx:Nat}(h:k<nx):xO nx bp k=k:=if_pos (.inl h)
theorem Vq{nx:Nat}(h:top<=k):xO nx bp k=k:=if_pos (.inr h)
theorem sa{p:Nat×Option aE}(hp:p∈ay):p.1<270/\∀y,p.2=some y->y.plain=true:=by
 have h:(ay.all fun q=>Nat.blt q.1 270&&(match q.2 with|some y=>y.plain|none=>true))=true:=by kernel_rfl
 have:=List.all_eq_true.1 h p hp
 obtain⟨a,b⟩:=and_true.1 this
 refine⟨(blt_eq _ _).mp a,fun y e=>?_⟩
 rw[e] at b;exact b
theorem Qk(fz:iW){nx:Nat}{l0:List (Nat×AV)}{jT:List (Nat×Option aE)}{l:List (Nat×AV)}{os:List (Nat×Option aE)}(h1:270<=nx)(h2:nx<=bp)(h3:bp<top)(hl:∀r:Nat->Nat,(∀k,k<nx->r k=k)->(∀k,top<=k->r k=k)->∀p∈l,p.1<top/\∃x,(p.1,x)∈l0/\jh fz r x p.2)(ho:∀r:Nat->Nat,(∀k,k<nx->r k=k)->(∀k,top<=k->r k=k)->∀p∈os,p.1<nx/\∀y,p.2=some y->y.plain=true/\∃x,(p.1,some x)∈jT/\(y.du=false->x.du=false)/\iH fz r x y)(rh:∀p∈fz,nx<=p.1/\p.1<top/\FU p.2.1=some p.2.2/\∃N t z,(p.1,some (.cells N t z))∈jT/\∀i x,p.2.2[i]? =some x->i<N/\cellAt t z i=some x/\x.ct=true/\x.gN=true):
  fC FU 270 bp l0 (ay++jT) l (ay++os) nx:=by
 have r1:∀k,k<nx->xO nx bp k=k:=fun k hk=>L8 hk
 have r2:∀k,top<=k->xO nx bp k=k:=fun k hk=>Vq hk
 have eF:∀p∈ay++os,p.1<nx:=by
  intro p hp
  rcases List.mem_append.1 hp with hp|hp
  ·exact Nat.lt_of_lt_of_le (sa hp).1 h1
  ·exact(ho _ r1 r2 p hp).1
 refine⟨fz,xO nx bp,fun k hk=>L8 (Nat.lt_of_lt_of_le hk h1),fun k k1 k2=>?_,r2,by omega,hl _ r1 r2,fun p hp=>?_,fun p hp q hq _ _ e=>?_,fun p hp=>?_,fun p hp q hq _ e=>?_⟩
 ·unfold xO;rw[if_neg J];omega
 ·have rp:=eF p hp
  refine⟨by omega,fun y hy=>⟨by rw[r1 _ rp];omega,?_⟩⟩
  rcases List.mem_append.1 hp with hp|hp
  ·have he:=yu (nx:=270) (fun k hk=>r1 k (Nat.lt_of_lt_of_le hk h1)) jl p hp y hy
   refine⟨(sa hp).2 y hy,y,?_,fun h=>h,he.z⟩
   rw[r1 _ rp, ←hy]
   exact List.mem_append_left _ hp
  ·obtain⟨_,h⟩:=ho _ r1 r2 p hp
   obtain⟨a,x,b,c,d⟩:=h y hy
   exact⟨a,x,by rw[r1 _ rp];exact List.mem_append_right _ b,c,d⟩
 ·rw[r1 _ (eF p hp),r1 _ (eF q hq)] at e;exact e
 ·obtain⟨_,a,b,N,t,z,c,d⟩:=rh p hp
  exact⟨a,b,N,t,z,List.mem_append_right _ c,d⟩
 ·obtain⟨a,_⟩:=rh p hp
  have:=eF q hq
  rw[r1 _ this] at e
  omega
structure bQ where
 L:List Ev
 rv:Int
 wv:Int
 read:List Int
 ao:List Int
 ax:List Int
 checked:Int
 aC:List Int
 ab:Int
 last:Int
deriving Inhabited
noncomputable def cq(a:bQ):List AV:=[aL aN a.L,.int .i64 a.rv,.int .i64 a.wv,aL aK a.read,aL aK a.ao,aL aK a.ax,.int .i64 a.checked,aL aK a.aC,.int .u8 a.ab,.int .u8 a.last]
def gU:bQ:=⟨[],0,0,[],[],[],0,[],0,0⟩
def fc(e:Ev)(S:Int)(a:bQ):bQ:=
 let a:={a with L:=a.L++[e],last:=e.kind}
 if e.kind=3 then{a with read:=cP a.read (Int.tmod e.I S)}
 else if e.kind=4 then{a with ao:=a.ao++[e.I]}
 else if e.kind=5 then{a with wv:=e.v}
 else if e.kind=6 then{a with checked:=a.checked+1}
 else if e.kind=8 then{a with aC:=a.aC++[e.I]}
 else if e.kind=9\/e.kind=11 then{a with ax:=a.ax++[e.I]}
 else if e.kind=10 then{a with ab:=e.ab}
 else a
def bR(e:Ev)(S:Int)(a:bQ):bQ:=fc e S (if e.kind=1 then{gU with rv:=e.v} else a)
def aG:List Ev->Int->Int->bQ
 |[],_,_=>gU
 |e::l,th,S=>if e.az≠th then aG l th S else bR e S (aG l th S)
end cD
end
section
open Go Go.Rn Go.RowKit Go.Proofs
namespace mz
open cd cj cv
variable {l:List Int} {B:aZ} {k c:Int}
noncomputable def rr(l:List Int)(s k:Int):List (Nat×AV):=[(0,(.ae (nI l) 0 l.length)),(1,(.int .i64 s)),(5,(.int .i64 k))]
noncomputable def ru(l:List Int)(s k:Int):AF:=⟨44,eS (rr l s k),47,[.code (aO Tryd.prog 44 [1,1,0,0,0]),.inLoop (aO Tryd.prog 44 [1,1,0,0,0]),.inBlock 0,.code (aO Tryd.prog 44 [1,1,1])],[],none⟩
noncomputable def C8(W:List Int):AF:=⟨44,eS [(4,aL aK W)],47,[.code (aO Tryd.prog 44 [1,1,1,1,1,1])],[],none⟩
def CP(l:List Int)(s k c:Int)(W:List Int):bz:=fun fr s1 _=>(fr=ru l s (k+1)/\s1=aM ay 270/\k<(l.length:Int)/\c<s)\/(fr=C8 W/\s1=aM [] 270)
theorem lfP(l:List Int)(s:Int)(h:cP l s=l):AV.ae (nI l) 0 l.length=aL aK (cP l s):=by rw[h];rfl
theorem bkP(l:List Int)(s c k:Int)(W:List Int)(h1:k<(l.length:Int))(h2:c<s):((rr l s (k+1)).map (fun q=>some q.2)=(rr l s (k+1)).map (fun q=>some q.2))/\(ay.map (fun q=>q.2)=ay.map (fun q=>q.2))/\mX 270 (rr l s (k+1)) ay/\CP l s k c W (ru l s (k+1)) (aM ay 270) .no:=
 ⟨rfl,rfl,wN (fun r r2 p hp=>by simp only[rr,List.mem_cons,List.not_mem_nil,or_false] at hp;rcases hp with rfl|rfl|rfl<;>first|exact aJ.int _ _|exact aJ.ae (r2 _ (dB _)) r2) rfl,.inl ⟨rfl,rfl,h1,h2⟩⟩
theorem rtP(l:List Int)(s c k:Int)(W:List Int)(N bp:Nat)(L:List Int)(hN:N<300)(hs:bp<300)(hL:L.length<=2000)(h:W=L):
  ([(4,AV.slice (some (N,0)) L.length (.aX L.length 1))].map (fun q=>some q.2)=[(4,AV.slice (some (N,0)) L.length (.aX L.length 1))].map (fun q=>some q.2))/\([(N,some (aD aK L))].map (fun q=>q.2)=[(N,some (aD aK L))].map (fun q=>q.2))/\
  fC FU 270 bp [(4,.slice (some (N,0)) L.length (.aX L.length 1))] [(N,some (aD aK L))] [(4,aL aK L)] [] 270/\CP l s k c W (C8 L) (aM [] 270) .no:=
 ⟨rfl,rfl,BY eI L dW dW dW dW,.inr ⟨by rw[h],rfl⟩⟩
theorem vr(h:l[k.toNat]? =some c):bM FU (nI l) (0+k.toNat*1) 1=some [.int .i64 c]:=by
 have:=wM eI h 0 1 J
 rw[Nat.zero_add]
 exact this
theorem j9(l:List Int)(k:Nat)(h:k<=l.length):top<=nI l/\bM FU (nI l) 0 (k*1)=some ((l.take k).map aK).flatten/\k=(l.take k).length:=by
 refine⟨dB _,?_,by rw[List.length_take];omega⟩
 have:=Bu eI l (Nat.zero_le k) h
 rw[Nat.zero_mul,Nat.sub_zero,List.drop_zero] at this;exact this
theorem Y5(l:List Int)(k:Nat)(h:k<=l.length):top<=nI l/\bM FU (nI l) (0+k*1) ((l.length - k)*1)=some ((l.drop k).map aK).flatten/\l.length - k=(l.drop k).length:=by
 refine⟨dB _,?_,by rw[List.length_drop]⟩
 have:=Bu eI l h (Nat.le_refl _)
 rw[List.take_of_length_le (by rw[List.length_drop];omega)] at this
 rw[Nat.zero_add];exact this
theorem Ql(mc:Mc (sp []) 6 B){s:Int}(xN:l.length<=1000)(h0:0<=k)(h1:k<=(l.length:Int))(Qf:k<(l.length:Int)->l[k.toNat]? =some c)(hA:k<(l.length:Int)->c=s->cP l s=l)(Au:¬(k<(l.length:Int)/\c<=s)->cP l s=((([]++(l.take k.toNat))++[s])++(l.drop k.toNat)))(H:k<(l.length:Int)->c<s->Sm B sA (aL aK (cP l s)) (ru l s (k+1)) (aM ay 270))(H2:Sm B sA (aL aK (cP l s)) (C8 (cP l s)) (aM [] 270)):Sm B sA (aL aK (cP l s)) (ru l s k) (aM ay 270):=by
 exact wC mc (C:=(CP l s k c (cP l s))) (fun fr s1 p hC=>by rcases hC with⟨rfl,rfl,h3,h4⟩|⟨rfl,rfl⟩;exact H h3 h4;exact H2) 900 ((fun(q1:Pl)=>((fun(q2:Pl)=>(gC 2 3 (.fk (.go 3 (.bI (.bJ [(.int .i64 c)] (.go 1 (.fk (gA 1 3 1 (.vl (.int .i64 (k+1)) (gK 1 2 (.bk (rr l s (k+1)) ay 270 .no)))) (.go 1 q2)))))) (.go 8 q2)))) (gB 4 3 (.fk (.go 3 (.bI (.bJ [(.int .i64 c)] (.go 1 (.fk (gF 1 4) (.go 1 q1)))))) (.go 8 q1))))) (gB 3 3 (.sf (0:Int) k (.al Int aK [] (l.take k.toNat) (.go 2 (.ap Int aK ([]++(l.take k.toNat)) s (.go 1 (.en (.st 1 (.rg (.go 3 (.sf k (l.length:Int) (.al Int aK (([]++(l.take k.toNat))++[s]) (l.drop k.toNat) (.go 1 (.en (.rn [(4,(.slice (some (274,0)) (((([]++(l.take k.toNat))++[s])++(l.drop k.toNat)).length) (.aX ((([]++(l.take k.toNat))++[s])++(l.drop k.toNat)).length 1)))] [(274,some (aD aK ((([]++(l.take k.toNat))++[s])++(l.drop k.toNat))))] [(4,aL aK ((([]++(l.take k.toNat))++[s])++(l.drop k.toNat)))] [] 275 270 .no)))))))))))))))) (U (k<(l.length:Int)) (fun _=>aV k (l.length:Int) J J (ai (dB (l.map aK).flatten) (ai (vr (l:=l) (Qf J)) (U (c<s) (fun _=>ai ud (bkP l s c k (cP l s) J J)) OW)))) OW)
theorem rfP(W:List Int):aL aK W=aL aK W:=rfl
theorem Qm(mc:Mc (sp []) 6 B){W:List Int}:Sm B sA (aL aK W) (C8 W) (aM [] 270):=by
 exact wS mc 900 (.rt 1 .no) (rfP W)
theorem lsP(l:List Int)(s:Int):((rr l s 0).map (fun q=>some q.2)=(rr l s 0).map (fun q=>some q.2))/\(ay.map (fun q=>q.2)=ay.map (fun q=>q.2))/\(ru l s 0=ru l s 0/\aM ay 270=aM ay 270):=⟨rfl,rfl,rfl,rfl⟩
theorem IF(mc:Mc (sp []) 6 B){s:Int}{v:AV}(H:Sm B sA v (ru l s 0) (aM ay 270)):bw B 44 (max Tryd.f44.ntmps 2) sA [(.ae (nI l) 0 l.length),(.int .i64 s)] v:=by
 exact wC mc (C:=(fun fr s1 _=>fr=ru l s 0/\s1=aM ay 270)) xo 900 (.st 7 (.ls (rr l s 0) ay 270 .no)) (lsP l s)
theorem alP(mc:Mc (sp []) 6 B){s:Int}(xN:l.length<=1000):bw B 44 (max Tryd.f44.ntmps 2) sA [aL aK l,.int .i64 s] (aL aK (cP l s)):=by
  have key:∀m k:Nat,k+m=l.length->cP l s=l.take k++cP (l.drop k) s->Sm B sA (aL aK (cP l s)) (ru l s k) (aM ay 270):=by
    intro m
    induction m with
    | zero=>
      intro k hk hi
      rw[List.take_of_length_le J,List.drop_of_length_le J] at hi
      refine Ql (c:=0) mc xN J J (fun h=>absurd h J) (fun h=>absurd h J) (fun _=>?_) (fun h=>absurd h J) (Qm mc)
      rw[Int.toNat_natCast,List.take_of_length_le J,List.drop_of_length_le J,hi]
      simp[cP]
    | succ m ih=>
      intro k hk hi
      obtain⟨c,he⟩:∃c,l[k]? =some c:=⟨_,List.getElem?_eq_getElem J⟩
      have hd:l.drop k=c::l.drop (k+1):=by
        rw[List.drop_eq_getElem_cons J]
        rw[List.getElem?_eq_getElem J] at he
        injection he with he;rw[he]
      have ht:l.take (k+1)=l.take k++[c]:=by rw[List.take_add_one,he];rfl
      refine Ql (c:=c) mc xN J J (fun _=>by rw[Int.toNat_natCast];exact he) (fun _ h=>?_) (fun h=>?_) (fun _ h=>?_) (Qm mc)
      · rw[hd] at hi
        rw[hi]
        unfold cP
        rw[if_neg J,if_pos h, ←hd,List.take_append_drop]
      · rw[hd] at hi
        rw[hi,Int.toNat_natCast,hd]
        unfold cP
        rw[if_neg J,if_neg J]
        simp
      · have e2:((k:Int)+1)=((k+1:Nat):Int):=by omega
        rw[e2]
        refine ih (k+1) J ?_
        rw[hd] at hi
        rw[hi,ht]
        conv=>lhs;unfold cP
        rw[if_pos h]
        simp
  exact IF mc (key l.length 0 J cR)
end mz
end
section
open Go Go.Rn Go.RowKit Go.Proofs
namespace cH
open cd cj cv cD
variable {th S i:Int} {n k:Nat} {A:bQ} {fz:iW} {B:aZ} {v:AV} {rows:List (Nat×Option aE)}
def fE(n o len:Nat)(th S i:Int):List (Nat×AV):=[(0,(.ae n o len)),(1,(.int .i64 th)),(2,(.int .i64 S)),(6,(.ptr (some (270,0)))),(7,(.ptr (some (271,0)))),(8,(.int .i64 i))]
noncomputable def sW(n o len:Nat)(th S i:Int):AF:=⟨23,eS (fE n o len th S i),104,[.code (aO Tryd.prog 23 [1,1,0,1,0,0]),.inLoop (aO Tryd.prog 23 [1,1,0,1,0,0]),.inBlock 0,.code (aO Tryd.prog 23 [1,1,1])],[],none⟩
def ze:List AV:=[(.slice none 0 (.known 0)),(.int .i64 (.ofNat 0)),(.int .i64 (.ofNat 0)),(.slice none 0 (.known 0)),(.slice none 0 (.known 0)),(.slice none 0 (.known 0)),(.int .i64 (.ofNat 0)),(.slice none 0 (.known 0)),(.int .u8 (.ofNat 0)),(.int .u8 (.ofNat 0))]
noncomputable def oC(c:List AV):List (Nat×Option aE):=[(270,some (.cells 10 (Tr.fill ze 0 .nil) [])),(271,some (.cells 10 (Tr.fill c 0 .nil) []))]
noncomputable def CM(n o len:Nat)(th S i:Int)(A:bQ):bz:=fun fr s1 _=>fr=sW n o len th S i/\s1=aM (ay++oC (cq A)) 272
theorem Vr{o len:Nat}(hn:top<=n)(r:Nat->Nat)(r1:∀k,k<272->r k=k)(r2:∀k,top<=k->r k=k):∀p∈fE n o len th S i,p.1<top/\∃x,(p.1,x)∈fE n o len th S i/\jh fz r x p.2:=by
 intro p hp
 refine⟨?_,p.2,hp,?_⟩
 ·simp only[fE,List.mem_cons,List.not_mem_nil,or_false] at hp
  rcases hp with rfl|rfl|rfl|rfl|rfl|rfl<;>(unfold top;omega)
 ·simp only[fE,List.mem_cons,List.not_mem_nil,or_false] at hp
  rcases hp with rfl|rfl|rfl|rfl|rfl|rfl
  ·exact mK hn r2
  ·exact(aJ.int _ _).z
  ·exact(aJ.int _ _).z
  ·exact(aJ.ptr (r1 _ J)).z
  ·exact(aJ.ptr (r1 _ J)).z
  ·exact(aJ.int _ _).z
theorem aeB{r:Nat->Nat}{x y:AV}(_:jh fz r x y)(h:y.ct=true):y.ct=true:=h
theorem pj(n o len:Nat)(th S i:Int)(A':bQ)(fz:iW)(bp:Nat)(rows:List (Nat×Option aE))(x1 x4 x5 x6 x8:AV)(A2:bQ)(hA:A'=A2)(h1:∀r:Nat->Nat,(∀k,top<=k->r k=k)->jh fz r x1 (aL aN A2.L))(h4:∀r:Nat->Nat,(∀k,top<=k->r k=k)->jh fz r x4 (aL aK A2.read))(h5:∀r:Nat->Nat,(∀k,top<=k->r k=k)->jh fz r x5 (aL aK A2.ao))(h6:∀r:Nat->Nat,(∀k,top<=k->r k=k)->jh fz r x6 (aL aK A2.ax))(h8:∀r:Nat->Nat,(∀k,top<=k->r k=k)->jh fz r x8 (aL aK A2.aC))(hn:top<=n)(IH:272<=bp)(pv:bp<1000)(hz:∀p∈fz,272<=p.1/\p.1<top/\FU p.2.1=some p.2.2/\∃N t z,(p.1,some (.cells N t z))∈rows/\∀i x,p.2.2[i]? =some x->i<N/\cellAt t z i=some x/\x.ct=true/\x.gN=true):
  ((fE n o len th S i).map (fun q=>some q.2)=(fE n o len th S i).map (fun q=>some q.2))/\((ay++(oC [x1,.int .i64 A2.rv,.int .i64 A2.wv,x4,x5,x6,.int .i64 A2.checked,x8,.int .u8 A2.ab,.int .u8 A2.last]++rows)).map (fun q=>q.2)=(ay++(oC [x1,.int .i64 A2.rv,.int .i64 A2.wv,x4,x5,x6,.int .i64 A2.checked,x8,.int .u8 A2.ab,.int .u8 A2.last]++rows)).map (fun q=>q.2))/\fC FU 270 bp (fE n o len th S i) (ay++(oC [x1,.int .i64 A2.rv,.int .i64 A2.wv,x4,x5,x6,.int .i64 A2.checked,x8,.int .u8 A2.ab,.int .u8 A2.last]++rows)) (fE n o len th S i) (ay++oC (cq A')) 272/\CM n o len th S i A' (sW n o len th S i) (aM (ay++oC (cq A')) 272) .no:=by
 subst hA
 refine⟨rfl,rfl,Qk fz J IH dW (fun r r1 r2=>Vr hn r r1 r2) (fun r r1 r2 p hp=>?_) (fun p hp=>?_),rfl,rfl⟩
 ·simp only[oC,List.mem_cons,List.not_mem_nil,or_false] at hp
  rcases hp with rfl|rfl
  ·refine⟨by omega,fun y hy=>?_⟩
   injection hy with hy;subst hy
   exact⟨rfl,_,List.mem_append_left _ (.head _),fun h=>h,(c8.cells (l:=ze) (m:=ze) (by unfold top;decide) ⟨aJ.lY,aJ.int _ _,aJ.int _ _,aJ.lY,aJ.lY,aJ.lY,aJ.int _ _,aJ.lY,aJ.int _ _,aJ.int _ _,trivial⟩ rfl).z⟩
  ·refine⟨by omega,fun y hy=>?_⟩
   injection hy with hy;subst hy
   exact⟨rfl,_,List.mem_append_left _ (.tail _ (.head _)),fun h=>h,iH.cells (l:=[x1,.int .i64 A'.rv,.int .i64 A'.wv,x4,x5,x6,.int .i64 A'.checked,x8,.int .u8 A'.ab,.int .u8 A'.last]) (m:=cq A') (by show 10<=top;unfold top;omega) ⟨h1 r r2,(aJ.int _ _).z,(aJ.int _ _).z,h4 r r2,h5 r r2,h6 r r2,(aJ.int _ _).z,h8 r r2,(aJ.int _ _).z,(aJ.int _ _).z,trivial⟩ rfl⟩
 ·obtain⟨a,b,c,N,t,z,d,e⟩:=hz p hp
  exact⟨a,b,c,N,t,z,List.mem_append_right _ d,e⟩
theorem Qg(n:Nat)(l:List Ev)(h1:272<=n)(h2:n<1000)(h3:l.length<=2000)(hf:fz=[(n,nm (l.map aN).flatten,(l.map aN).flatten)]:=by rfl)(hr:rows=[(n,some (aD aN l))]:=by rfl):∀p∈fz,272<=p.1/\p.1<top/\FU p.2.1=some p.2.2/\∃N t z,(p.1,some (.cells N t z))∈rows/\∀i x,p.2.2[i]? =some x->i<N/\cellAt t z i=some x/\x.ct=true/\x.gN=true:=by
 subst hf;subst hr
 intro p hp
 rw[List.mem_singleton] at hp;subst hp
 obtain⟨a,b,c⟩:=rO eE (l:=l) dW n dW (.head _)
 exact⟨h1,a,b,c⟩
theorem IS(n:Nat)(l:List Ev)(h1:272<=n)(h2:n<1000)(h3:l.length<=2000)(m:Nat)(k:List Int)(k1:272<=m)(k2:m<1000)(k3:k.length<=2000)(hf:fz=[(n,nm (l.map aN).flatten,(l.map aN).flatten),(m,nm (k.map aK).flatten,(k.map aK).flatten)]:=by rfl)(hr:rows=[(n,some (aD aN l)),(m,some (aD aK k))]:=by rfl):∀p∈fz,272<=p.1/\p.1<top/\FU p.2.1=some p.2.2/\∃N t z,(p.1,some (.cells N t z))∈rows/\∀i x,p.2.2[i]? =some x->i<N/\cellAt t z i=some x/\x.ct=true/\x.gN=true:=by
 subst hf;subst hr
 intro p hp
 simp only[List.mem_cons,List.not_mem_nil,or_false] at hp
 rcases hp with rfl|rfl
 ·obtain⟨a,b,c⟩:=rO eE (l:=l) dW n dW (.head _)
  exact⟨h1,a,b,c⟩
 ·obtain⟨a,b,c⟩:=rO eI (l:=k) dW m dW (.tail _ (.head _))
  exact⟨k1,a,b,c⟩
theorem WV(r:Nat->Nat)(r1:∀k,k<272->r k=k)(r2:∀k,top<=k->r k=k):∀p∈oC (cq A),∀x,p.2=some x->c8 r x x:=by
 intro p hp x hx
 simp only[oC,List.mem_cons,List.not_mem_nil,or_false] at hp
 rcases hp with rfl|rfl
 ·injection hx with hx;subst hx
  exact c8.cells (l:=ze) (m:=ze) (by unfold top;decide) ⟨aJ.lY,aJ.int _ _,aJ.int _ _,aJ.lY,aJ.lY,aJ.lY,aJ.int _ _,aJ.lY,aJ.int _ _,aJ.int _ _,trivial⟩ rfl
 ·injection hx with hx;subst hx
  have q:∀{α:Type} (enc:α->List AV) (l:List α),aJ r (aL enc l) (aL enc l):=fun enc l=>aJ.ae (r2 _ (dB _)) r2
  exact c8.cells (l:=cq A) (m:=cq A) (by show 10<=top;unfold top;omega) ⟨q _ _,aJ.int _ _,aJ.int _ _,q _ _,q _ _,q _ _,aJ.int _ _,q _ _,aJ.int _ _,aJ.int _ _,trivial⟩ rfl
theorem bkM(n o len:Nat)(th S i:Int)(A A':bQ)(hn:top<=n)(h:A'=A):((fE n o len th S i).map (fun q=>some q.2)=(fE n o len th S i).map (fun q=>some q.2))/\((ay++oC (cq A)).map (fun q=>q.2)=(ay++oC (cq A)).map (fun q=>q.2))/\mX 272 (fE n o len th S i) (ay++oC (cq A))/\CM n o len th S i A' (sW n o len th S i) (aM (ay++oC (cq A)) 272) .no:=by
 subst h
 refine⟨rfl,rfl,fun r r1 r2=>⟨fun p hp=>?_,fun p hp x hx=>?_⟩,rfl,rfl⟩
 ·simp only[fE,List.mem_cons,List.not_mem_nil,or_false] at hp
  rcases hp with rfl|rfl|rfl|rfl|rfl|rfl<;>first|exact aJ.int _ _|exact aJ.ae (r2 _ hn) r2|exact aJ.ptr (r1 _ J)
 ·rcases List.mem_append.1 hp with hp|hp
  ·exact yu (nx:=270) (fun k hk=>r1 k J) jl p hp x hx
  ·exact WV r r1 r2 p hp x hx
theorem aaH(l:List Ev):top<=nE l/\bM FU (nE l) 0 (l.length*7)=some (l.map aN).flatten/\l.length=l.length:=by
 have:=Bu eE l (Nat.zero_le l.length) (Nat.le_refl _)
 rw[Nat.zero_mul,Nat.sub_zero,List.drop_zero,List.take_length] at this
 exact⟨dB _,this,rfl⟩
theorem allI(l:List Int):top<=nI l/\bM FU (nI l) 0 (l.length*1)=some (l.map aK).flatten/\l.length=l.length:=by
 have:=Bu eI l (Nat.zero_le l.length) (Nat.le_refl _)
 rw[Nat.zero_mul,Nat.sub_zero,List.drop_zero,List.take_length] at this
 exact⟨dB _,this,rfl⟩
def C9(args:List AV)(v:AV):Prop:=∃(l:List Int) (s:Int),args=[aL aK l,.int .i64 s]/\l.length<=1000/\v=aL aK (cP l s)
theorem T8(args:List AV)(v v':AV)(h:C9 args v)(h':C9 args v'):v=v':=by
 obtain⟨l,s,rfl,_,rfl⟩:=h
 obtain⟨l',s',e,_,rfl⟩:=h'
 injection e with e1 e2
 injection e2 with e3 _
 injection e3 with _ e4
 subst e4
 rw[(bt.aL eI l).inj pJ (by rw[e1];exact bt.aL eI l')]
noncomputable def xu:FuncId×(List AV->Option AV):=(44,aY C9)
theorem Nb(l:List Int)(s:Int)(h:l.length<=1000):bj (aY C9) [aL aK l,.int .i64 s]=some (aL aK (cP l s)):=
 l3 (mF T8 ⟨l,s,rfl,h,rfl⟩) (by rw[List.all_cons,(bt.aL eI l).hi];rfl) (bt.aL eI _).hi
theorem stM(mc:Mc (sp [xu]) 6 B){o len:Nat}{A':bQ}{e:Ev}(hn:top<=n)(hlen:len<=1000)(he:bM FU n (o+i.toNat*7) 7=some (aN e))(hS:1<=S)(h0:0<=i)(h1:i<(len:Int))(hbL:A.L.length<=1000)(Qn:A.read.length<=1000)(xJ:A.ao.length<=1000)(hb3:A.ax.length<=1000)(hb4:A.aC.length<=1000)(gg:0<=A.checked/\A.checked<=1000)(hA:e.az=th->A'=bR e S A)(hN:e.az≠th->A'=A)(H:Sm B uD v (sW n o len th S (i+1)) (aM (ay++oC (cq A')) 272)):Sm B uD v (sW n o len th S i) (aM (ay++oC (cq A)) 272):=by
 have f1:=fun h=>wI (i+1) h
 exact wC mc (C:=(CM n o len th S (i+1) A')) xo 2000 (gC 2 3 (.fk (gB 5 2 (.bI (.bJ (aN e) (gA 2 2 3 (.fk (gB 2 1 (.vl (.int .i64 (i+1)) (gK 1 1 (.bk (fE n o len th S (i+1)) (ay++oC (cq A)) 272 .no)))) (gB 4 2 (.fk (gE 10 (.fk .no (gD 1 2 (.fk .no (gD 1 2 (.fk .no (gD 1 2 (.fk .no (gD 1 2 (.fk .no (gD 1 3 (.fk .no (gD 1 1 (.fk .no (gD 1 2 (.fk .no (gA 1 4 1 (.vl (.int .i64 (i+1)) (gK 1 1 (.rn (fE n o len th S (i+1)) (ay++(oC [(.slice (some (275,0)) (1) (.aX 1 7)),(.int .i64 e.v),(.int .i64 (.ofNat 0)),(.slice none 0 (.known 0)),(.slice none 0 (.known 0)),(.slice none 0 (.known 0)),(.int .i64 (.ofNat 0)),(.slice none 0 (.known 0)),(.int .u8 (.ofNat 0)),(.int .u8 e.kind)]++[(275,some (aD aN [e]))])) (fE n o len th S (i+1)) (ay++oC (cq A')) 276 272 .no)))))))))))))))))))) (gB 3 3 (.al Ev aN [] A.L (.go 2 (.ap Ev aN ([]++A.L) e (gD 2 6 (.fk (gA 1 1 5 (.rm (.kn (.ae (nI (cP A.read (Int.tmod e.I S))) 0 (cP A.read (Int.tmod e.I S)).length) (gA 2 2 1 (.vl (.int .i64 (i+1)) (gK 1 1 (.rn (fE n o len th S (i+1)) (ay++(oC [(.slice (some (276,0)) ((([]++A.L)++[e]).length) (.aX (([]++A.L)++[e]).length 7)),(.int .i64 A.rv),(.int .i64 A.wv),(.ae (nI (cP A.read (Int.tmod e.I S))) 0 (cP A.read (Int.tmod e.I S)).length),(.ae (nI A.ao) 0 A.ao.length),(.ae (nI A.ax) 0 A.ax.length),(.int .i64 A.checked),(.ae (nI A.aC) 0 A.aC.length),(.int .u8 A.ab),(.int .u8 e.kind)]++[(276,some (aD aN (([]++A.L)++[e])))])) (fE n o len th S (i+1)) (ay++oC (cq A')) 277 272 .no))))))) (gD 1 2 (.fk (gA 1 1 3 (.al Int aK [] A.ao (.go 3 (.ap Int aK ([]++A.ao) e.I (gA 2 2 1 (.vl (.int .i64 (i+1)) (gK 1 1 (.rn (fE n o len th S (i+1)) (ay++(oC [(.slice (some (276,0)) ((([]++A.L)++[e]).length) (.aX (([]++A.L)++[e]).length 7)),(.int .i64 A.rv),(.int .i64 A.wv),(.ae (nI A.read) 0 A.read.length),(.slice (some (280,0)) ((([]++A.ao)++[e.I]).length) (.aX (([]++A.ao)++[e.I]).length 1)),(.ae (nI A.ax) 0 A.ax.length),(.int .i64 A.checked),(.ae (nI A.aC) 0 A.aC.length),(.int .u8 A.ab),(.int .u8 e.kind)]++[(276,some (aD aN (([]++A.L)++[e]))),(280,some (aD aK (([]++A.ao)++[e.I])))])) (fE n o len th S (i+1)) (ay++oC (cq A')) 281 272 .no)))))))) (gD 1 2 (.fk (gA 1 4 1 (.vl (.int .i64 (i+1)) (gK 1 1 (.rn (fE n o len th S (i+1)) (ay++(oC [(.slice (some (276,0)) ((([]++A.L)++[e]).length) (.aX (([]++A.L)++[e]).length 7)),(.int .i64 A.rv),(.int .i64 e.v),(.ae (nI A.read) 0 A.read.length),(.ae (nI A.ao) 0 A.ao.length),(.ae (nI A.ax) 0 A.ax.length),(.int .i64 A.checked),(.ae (nI A.aC) 0 A.aC.length),(.int .u8 A.ab),(.int .u8 e.kind)]++[(276,some (aD aN (([]++A.L)++[e])))])) (fE n o len th S (i+1)) (ay++oC (cq A')) 277 272 .no)))) (gD 1 2 (.fk (gA 1 1 2 (.vl (.int .i64 (A.checked+1)) (gA 2 2 1 (.vl (.int .i64 (i+1)) (gK 1 1 (.rn (fE n o len th S (i+1)) (ay++(oC [(.slice (some (276,0)) ((([]++A.L)++[e]).length) (.aX (([]++A.L)++[e]).length 7)),(.int .i64 A.rv),(.int .i64 A.wv),(.ae (nI A.read) 0 A.read.length),(.ae (nI A.ao) 0 A.ao.length),(.ae (nI A.ax) 0 A.ax.length),(.int .i64 ((A.checked+1))),(.ae (nI A.aC) 0 A.aC.length),(.int .u8 A.ab),(.int .u8 e.kind)]++[(276,some (aD aN (([]++A.L)++[e])))])) (fE n o len th S (i+1)) (ay++oC (cq A')) 277 272 .no)))))) (gD 1 2 (.fk (gA 1 1 3 (.al Int aK [] A.aC (.go 3 (.ap Int aK ([]++A.aC) e.I (gA 2 2 1 (.vl (.int .i64 (i+1)) (gK 1 1 (.rn (fE n o len th S (i+1)) (ay++(oC [(.slice (some (276,0)) ((([]++A.L)++[e]).length) (.aX (([]++A.L)++[e]).length 7)),(.int .i64 A.rv),(.int .i64 A.wv),(.ae (nI A.read) 0 A.read.length),(.ae (nI A.ao) 0 A.ao.length),(.ae (nI A.ax) 0 A.ax.length),(.int .i64 A.checked),(.slice (some (280,0)) ((([]++A.aC)++[e.I]).length) (.aX (([]++A.aC)++[e.I]).length 1)),(.int .u8 A.ab),(.int .u8 e.kind)]++[(276,some (aD aN (([]++A.L)++[e]))),(280,some (aD aK (([]++A.aC)++[e.I])))])) (fE n o len th S (i+1)) (ay++oC (cq A')) 281 272 .no)))))))) (gD 1 3 (.fk (gA 1 3 3 (.al Int aK [] A.ax (.go 3 (.ap Int aK ([]++A.ax) e.I (gA 2 2 1 (.vl (.int .i64 (i+1)) (gK 1 1 (.rn (fE n o len th S (i+1)) (ay++(oC [(.slice (some (276,0)) ((([]++A.L)++[e]).length) (.aX (([]++A.L)++[e]).length 7)),(.int .i64 A.rv),(.int .i64 A.wv),(.ae (nI A.read) 0 A.read.length),(.ae (nI A.ao) 0 A.ao.length),(.slice (some (280,0)) ((([]++A.ax)++[e.I]).length) (.aX (([]++A.ax)++[e.I]).length 1)),(.int .i64 A.checked),(.ae (nI A.aC) 0 A.aC.length),(.int .u8 A.ab),(.int .u8 e.kind)]++[(276,some (aD aN (([]++A.L)++[e]))),(280,some (aD aK (([]++A.ax)++[e.I])))])) (fE n o len th S (i+1)) (ay++oC (cq A')) 281 272 .no)))))))) (gD 1 1 (.fk (gA 1 1 3 (.al Int aK [] A.ax (.go 3 (.ap Int aK ([]++A.ax) e.I (gA 2 2 1 (.vl (.int .i64 (i+1)) (gK 1 1 (.rn (fE n o len th S (i+1)) (ay++(oC [(.slice (some (276,0)) ((([]++A.L)++[e]).length) (.aX (([]++A.L)++[e]).length 7)),(.int .i64 A.rv),(.int .i64 A.wv),(.ae (nI A.read) 0 A.read.length),(.ae (nI A.ao) 0 A.ao.length),(.slice (some (280,0)) ((([]++A.ax)++[e.I]).length) (.aX (([]++A.ax)++[e.I]).length 1)),(.int .i64 A.checked),(.ae (nI A.aC) 0 A.aC.length),(.int .u8 A.ab),(.int .u8 e.kind)]++[(276,some (aD aN (([]++A.L)++[e]))),(280,some (aD aK (([]++A.ax)++[e.I])))])) (fE n o len th S (i+1)) (ay++oC (cq A')) 281 272 .no)))))))) (gD 1 2 (.fk (gA 1 4 1 (.vl (.int .i64 (i+1)) (gK 1 1 (.rn (fE n o len th S (i+1)) (ay++(oC [(.slice (some (276,0)) ((([]++A.L)++[e]).length) (.aX (([]++A.L)++[e]).length 7)),(.int .i64 A.rv),(.int .i64 A.wv),(.ae (nI A.read) 0 A.read.length),(.ae (nI A.ao) 0 A.ao.length),(.ae (nI A.ax) 0 A.ax.length),(.int .i64 A.checked),(.ae (nI A.aC) 0 A.aC.length),(.int .u8 e.ab),(.int .u8 e.kind)]++[(276,some (aD aN (([]++A.L)++[e])))])) (fE n o len th S (i+1)) (ay++oC (cq A')) 277 272 .no)))) (gA 1 4 1 (.vl (.int .i64 (i+1)) (gK 1 1 (.rn (fE n o len th S (i+1)) (ay++(oC [(.slice (some (276,0)) ((([]++A.L)++[e]).length) (.aX (([]++A.L)++[e]).length 7)),(.int .i64 A.rv),(.int .i64 A.wv),(.ae (nI A.read) 0 A.read.length),(.ae (nI A.ao) 0 A.ao.length),(.ae (nI A.ax) 0 A.ax.length),(.int .i64 A.checked),(.ae (nI A.aC) 0 A.aC.length),(.int .u8 A.ab),(.int .u8 e.kind)]++[(276,some (aD aN (([]++A.L)++[e])))])) (fE n o len th S (i+1)) (ay++oC (cq A')) 277 272 .no))))))))))))))))))))))))))))))) .no)) (U (i<(len:Int)) (fun _=>aV i (len:Int) J J (ai hn (ai (c9 he 0 7 ar) (U (e.az≠th) (fun _=>ai fM (bkM n o len th S (i+1) A A' hn (hN J))) (fun _=>U (e.kind=1) (fun h3=>U (e.kind=3) aA (fun h4=>U (e.kind=4) aA (fun h5=>U (e.kind=5) aA (fun h6=>U (e.kind=6) aA (fun h7=>U (e.kind=8) aA (fun h8=>U (e.kind=9) aA (fun h9=>U (e.kind=11) aA (fun eA=>U (e.kind=10) aA (fun nf=>ai fM (pj n o len th S (i+1) A' [(275,nm ([e].map aN).flatten,([e].map aN).flatten)] 276 [(275,some (aD aN [e]))] (.slice (some (275,0)) [e].length (.aX [e].length 7)) (.slice none 0 (.known 0)) (.slice none 0 (.known 0)) (.slice none 0 (.known 0)) (.slice none 0 (.known 0)) (⟨[e],e.v,0,[],[],[],0,[],0,e.kind⟩:bQ) ((hA J).trans (show bR e S A=(⟨[e],e.v,0,[],[],[],0,[],0,e.kind⟩:bQ) from by unfold bR fc;simp[h3,h4,h5,h6,h7,h8,h9,eA,nf,gU])) (fun r hr=>jI mj hr rfl) (fun r hr=>l4) (fun r hr=>l4) (fun r hr=>l4) (fun r hr=>l4) hn J J (Qg 275 [e] J J qZ))))))))))) (fun h3=>vi aN [] A.L (K:=7) (gO:=56) (aaH A.L) (fun x=>⟨rfl,rfl⟩) mY mZ (nj aN ([]++A.L) e (K:=7) (gO:=56) (fun x=>⟨rfl,rfl⟩) mY mZ (U (e.kind=3) (fun ij=>ai (show S≠0 from by omega) (ai (Nb A.read (Int.tmod e.I S) J) (ai fM (pj n o len th S (i+1) A' [(276,nm ((([]++A.L)++[e]).map aN).flatten,((([]++A.L)++[e]).map aN).flatten)] 277 [(276,some (aD aN (([]++A.L)++[e])))] (.slice (some (276,0)) (([]++A.L)++[e]).length (.aX (([]++A.L)++[e]).length 7)) (.ae (nI (cP A.read (Int.tmod e.I S))) 0 (cP A.read (Int.tmod e.I S)).length) (.ae (nI A.ao) 0 A.ao.length) (.ae (nI A.ax) 0 A.ax.length) (.ae (nI A.aC) 0 A.aC.length) (⟨(([]++A.L)++[e]),A.rv,A.wv,(cP A.read (Int.tmod e.I S)),A.ao,A.ax,A.checked,A.aC,A.ab,e.kind⟩:bQ) ((hA J).trans (show bR e S A=(⟨(([]++A.L)++[e]),A.rv,A.wv,(cP A.read (Int.tmod e.I S)),A.ao,A.ax,A.checked,A.aC,A.ab,e.kind⟩:bQ) from by unfold bR fc;simp[h3,ij,gU])) (fun r hr=>jI mj hr rfl) fX fX fX fX hn J J zF)))) (fun ij=>U (e.kind=4) (fun np=>vi aK [] A.ao (K:=1) (gO:=8) (allI A.ao) (fun x=>⟨rfl,rfl⟩) mY mZ (nj aK ([]++A.ao) e.I (K:=1) (gO:=8) (fun x=>⟨rfl,rfl⟩) mY mZ (ai fM (pj n o len th S (i+1) A' [(276,nm ((([]++A.L)++[e]).map aN).flatten,((([]++A.L)++[e]).map aN).flatten),(280,nm ((([]++A.ao)++[e.I]).map aK).flatten,((([]++A.ao)++[e.I]).map aK).flatten)] 281 [(276,some (aD aN (([]++A.L)++[e]))),(280,some (aD aK (([]++A.ao)++[e.I])))] (.slice (some (276,0)) (([]++A.L)++[e]).length (.aX (([]++A.L)++[e]).length 7)) (.ae (nI A.read) 0 A.read.length) (.slice (some (280,0)) (([]++A.ao)++[e.I]).length (.aX (([]++A.ao)++[e.I]).length 1)) (.ae (nI A.ax) 0 A.ax.length) (.ae (nI A.aC) 0 A.aC.length) (⟨(([]++A.L)++[e]),A.rv,A.wv,A.read,(([]++A.ao)++[e.I]),A.ax,A.checked,A.aC,A.ab,e.kind⟩:bQ) ((hA J).trans (show bR e S A=(⟨(([]++A.L)++[e]),A.rv,A.wv,A.read,(([]++A.ao)++[e.I]),A.ax,A.checked,A.aC,A.ab,e.kind⟩:bQ) from by unfold bR fc;simp[h3,ij,np,gU])) (fun r hr=>jI mj hr rfl) fX (fun r hr=>jI mj hr rfl) fX fX hn J J (IS 276 (([]++A.L)++[e]) J J qZ 280 (([]++A.ao)++[e.I]) J J qZ))))) (fun np=>U (e.kind=5) (fun sX=>ai fM (pj n o len th S (i+1) A' [(276,nm ((([]++A.L)++[e]).map aN).flatten,((([]++A.L)++[e]).map aN).flatten)] 277 [(276,some (aD aN (([]++A.L)++[e])))] (.slice (some (276,0)) (([]++A.L)++[e]).length (.aX (([]++A.L)++[e]).length 7)) (.ae (nI A.read) 0 A.read.length) (.ae (nI A.ao) 0 A.ao.length) (.ae (nI A.ax) 0 A.ax.length) (.ae (nI A.aC) 0 A.aC.length) (⟨(([]++A.L)++[e]),A.rv,e.v,A.read,A.ao,A.ax,A.checked,A.aC,A.ab,e.kind⟩:bQ) ((hA J).trans (show bR e S A=(⟨(([]++A.L)++[e]),A.rv,e.v,A.read,A.ao,A.ax,A.checked,A.aC,A.ab,e.kind⟩:bQ) from by unfold bR fc;simp[h3,ij,np,sX,gU])) (fun r hr=>jI mj hr rfl) fX fX fX fX hn J J zF)) (fun sX=>U (e.kind=6) (fun vy=>ai (wI (A.checked+1) J) (ai fM (pj n o len th S (i+1) A' [(276,nm ((([]++A.L)++[e]).map aN).flatten,((([]++A.L)++[e]).map aN).flatten)] 277 [(276,some (aD aN (([]++A.L)++[e])))] (.slice (some (276,0)) (([]++A.L)++[e]).length (.aX (([]++A.L)++[e]).length 7)) (.ae (nI A.read) 0 A.read.length) (.ae (nI A.ao) 0 A.ao.length) (.ae (nI A.ax) 0 A.ax.length) (.ae (nI A.aC) 0 A.aC.length) (⟨(([]++A.L)++[e]),A.rv,A.wv,A.read,A.ao,A.ax,(A.checked+1),A.aC,A.ab,e.kind⟩:bQ) ((hA J).trans (show bR e S A=(⟨(([]++A.L)++[e]),A.rv,A.wv,A.read,A.ao,A.ax,(A.checked+1),A.aC,A.ab,e.kind⟩:bQ) from by unfold bR fc;simp[h3,ij,np,sX,vy,gU])) (fun r hr=>jI mj hr rfl) fX fX fX fX hn J J zF))) (fun vy=>U (e.kind=8) (fun xP=>vi aK [] A.aC (K:=1) (gO:=8) (allI A.aC) (fun x=>⟨rfl,rfl⟩) mY mZ (nj aK ([]++A.aC) e.I (K:=1) (gO:=8) (fun x=>⟨rfl,rfl⟩) mY mZ (ai fM (pj n o len th S (i+1) A' [(276,nm ((([]++A.L)++[e]).map aN).flatten,((([]++A.L)++[e]).map aN).flatten),(280,nm ((([]++A.aC)++[e.I]).map aK).flatten,((([]++A.aC)++[e.I]).map aK).flatten)] 281 [(276,some (aD aN (([]++A.L)++[e]))),(280,some (aD aK (([]++A.aC)++[e.I])))] (.slice (some (276,0)) (([]++A.L)++[e]).length (.aX (([]++A.L)++[e]).length 7)) (.ae (nI A.read) 0 A.read.length) (.ae (nI A.ao) 0 A.ao.length) (.ae (nI A.ax) 0 A.ax.length) (.slice (some (280,0)) (([]++A.aC)++[e.I]).length (.aX (([]++A.aC)++[e.I]).length 1)) (⟨(([]++A.L)++[e]),A.rv,A.wv,A.read,A.ao,A.ax,A.checked,(([]++A.aC)++[e.I]),A.ab,e.kind⟩:bQ) ((hA J).trans (show bR e S A=(⟨(([]++A.L)++[e]),A.rv,A.wv,A.read,A.ao,A.ax,A.checked,(([]++A.aC)++[e.I]),A.ab,e.kind⟩:bQ) from by unfold bR fc;simp[h3,ij,np,sX,vy,xP,gU])) (fun r hr=>jI mj hr rfl) fX fX fX (fun r hr=>jI mj hr rfl) hn J J (IS 276 (([]++A.L)++[e]) J J qZ 280 (([]++A.aC)++[e.I]) J J qZ))))) (fun xP=>U (e.kind=9) (fun Ay=>vi aK [] A.ax (K:=1) (gO:=8) (allI A.ax) (fun x=>⟨rfl,rfl⟩) mY mZ (nj aK ([]++A.ax) e.I (K:=1) (gO:=8) (fun x=>⟨rfl,rfl⟩) mY mZ (ai fM (pj n o len th S (i+1) A' [(276,nm ((([]++A.L)++[e]).map aN).flatten,((([]++A.L)++[e]).map aN).flatten),(280,nm ((([]++A.ax)++[e.I]).map aK).flatten,((([]++A.ax)++[e.I]).map aK).flatten)] 281 [(276,some (aD aN (([]++A.L)++[e]))),(280,some (aD aK (([]++A.ax)++[e.I])))] (.slice (some (276,0)) (([]++A.L)++[e]).length (.aX (([]++A.L)++[e]).length 7)) (.ae (nI A.read) 0 A.read.length) (.ae (nI A.ao) 0 A.ao.length) (.slice (some (280,0)) (([]++A.ax)++[e.I]).length (.aX (([]++A.ax)++[e.I]).length 1)) (.ae (nI A.aC) 0 A.aC.length) (⟨(([]++A.L)++[e]),A.rv,A.wv,A.read,A.ao,(([]++A.ax)++[e.I]),A.checked,A.aC,A.ab,e.kind⟩:bQ) ((hA J).trans (show bR e S A=(⟨(([]++A.L)++[e]),A.rv,A.wv,A.read,A.ao,(([]++A.ax)++[e.I]),A.checked,A.aC,A.ab,e.kind⟩:bQ) from by unfold bR fc;simp[h3,ij,np,sX,vy,xP,Ay,gU])) (fun r hr=>jI mj hr rfl) fX fX (fun r hr=>jI mj hr rfl) fX hn J J NP)))) (fun Ay=>U (e.kind=11) (fun DG=>vi aK [] A.ax (K:=1) (gO:=8) (allI A.ax) (fun x=>⟨rfl,rfl⟩) mY mZ (nj aK ([]++A.ax) e.I (K:=1) (gO:=8) (fun x=>⟨rfl,rfl⟩) mY mZ (ai fM (pj n o len th S (i+1) A' [(276,nm ((([]++A.L)++[e]).map aN).flatten,((([]++A.L)++[e]).map aN).flatten),(280,nm ((([]++A.ax)++[e.I]).map aK).flatten,((([]++A.ax)++[e.I]).map aK).flatten)] 281 [(276,some (aD aN (([]++A.L)++[e]))),(280,some (aD aK (([]++A.ax)++[e.I])))] (.slice (some (276,0)) (([]++A.L)++[e]).length (.aX (([]++A.L)++[e]).length 7)) (.ae (nI A.read) 0 A.read.length) (.ae (nI A.ao) 0 A.ao.length) (.slice (some (280,0)) (([]++A.ax)++[e.I]).length (.aX (([]++A.ax)++[e.I]).length 1)) (.ae (nI A.aC) 0 A.aC.length) (⟨(([]++A.L)++[e]),A.rv,A.wv,A.read,A.ao,(([]++A.ax)++[e.I]),A.checked,A.aC,A.ab,e.kind⟩:bQ) ((hA J).trans (show bR e S A=(⟨(([]++A.L)++[e]),A.rv,A.wv,A.read,A.ao,(([]++A.ax)++[e.I]),A.checked,A.aC,A.ab,e.kind⟩:bQ) from by unfold bR fc;simp[h3,ij,np,sX,vy,xP,Ay,DG,gU])) (fun r hr=>jI mj hr rfl) fX fX (fun r hr=>jI mj hr rfl) fX hn J J NP)))) (fun DG=>U (e.kind=10) (fun IX=>ai fM (pj n o len th S (i+1) A' [(276,nm ((([]++A.L)++[e]).map aN).flatten,((([]++A.L)++[e]).map aN).flatten)] 277 [(276,some (aD aN (([]++A.L)++[e])))] (.slice (some (276,0)) (([]++A.L)++[e]).length (.aX (([]++A.L)++[e]).length 7)) (.ae (nI A.read) 0 A.read.length) (.ae (nI A.ao) 0 A.ao.length) (.ae (nI A.ax) 0 A.ax.length) (.ae (nI A.aC) 0 A.aC.length) (⟨(([]++A.L)++[e]),A.rv,A.wv,A.read,A.ao,A.ax,A.checked,A.aC,e.ab,e.kind⟩:bQ) ((hA J).trans (show bR e S A=(⟨(([]++A.L)++[e]),A.rv,A.wv,A.read,A.ao,A.ax,A.checked,A.aC,e.ab,e.kind⟩:bQ) from by unfold bR fc;simp[h3,ij,np,sX,vy,xP,Ay,DG,IX,gU])) (fun r hr=>jI mj hr rfl) fX fX fX fX hn J J zF)) (fun IX=>ai fM (pj n o len th S (i+1) A' [(276,nm ((([]++A.L)++[e]).map aN).flatten,((([]++A.L)++[e]).map aN).flatten)] 277 [(276,some (aD aN (([]++A.L)++[e])))] (.slice (some (276,0)) (([]++A.L)++[e]).length (.aX (([]++A.L)++[e]).length 7)) (.ae (nI A.read) 0 A.read.length) (.ae (nI A.ao) 0 A.ao.length) (.ae (nI A.ax) 0 A.ax.length) (.ae (nI A.aC) 0 A.aC.length) (⟨(([]++A.L)++[e]),A.rv,A.wv,A.read,A.ao,A.ax,A.checked,A.aC,A.ab,e.kind⟩:bQ) ((hA J).trans (show bR e S A=(⟨(([]++A.L)++[e]),A.rv,A.wv,A.read,A.ao,A.ax,A.checked,A.aC,A.ab,e.kind⟩:bQ) from by unfold bR fc;simp[h3,ij,np,sX,vy,xP,Ay,DG,IX,gU])) (fun r hr=>jI mj hr rfl) fX fX fX fX hn J J zF))))))))))))))))) aA)
theorem rfM(A:bQ):AV.agg [(.ae (nE A.L) 0 A.L.length),(.int .i64 A.rv),(.int .i64 A.wv),(.ae (nI A.read) 0 A.read.length),(.ae (nI A.ao) 0 A.ao.length),(.ae (nI A.ax) 0 A.ax.length),(.int .i64 A.checked),(.ae (nI A.aC) 0 A.aC.length),(.int .u8 A.ab),(.int .u8 A.last)]=AV.agg (cq A):=rfl
theorem enM(mc:Mc (sp [xu]) 6 B){o len:Nat}(hi:(len:Int)<=i):Sm B uD (AV.agg (cq A)) (sW n o len th S i) (aM (ay++oC (cq A)) 272):=by
 exact wS mc 900 (gC 2 3 (.fk .no (gG 5))) (U (i<(len:Int)) aA (fun _=>rfM A))
theorem goM(mc:Mc (sp [xu]) 6 B){o len:Nat}(hn:top<=n)(H:Sm B uD v (sW n o len th S 0) (aM (ay++oC (cq gU)) 272)):bw B 23 (max Tryd.f23.ntmps 3) uD [(.ae n o len),(.int .i64 th),(.int .i64 S)] v:=by
 exact wC mc (C:=(CM n o len th S 0 gU)) xo 900 (.st 9 (.rn (fE n o len th S 0) (ay++(oC [(.slice none 0 (.known 0)),(.int .i64 (.ofNat 0)),(.int .i64 (.ofNat 0)),(.slice none 0 (.known 0)),(.slice none 0 (.known 0)),(.slice none 0 (.known 0)),(.int .i64 (.ofNat 0)),(.slice none 0 (.known 0)),(.int .u8 (.ofNat 0)),(.int .u8 (.ofNat 0))]++[])) (fE n o len th S 0) (ay++oC (cq gU)) 272 272 .no)) (pj n o len th S 0 gU [] 272 [] (.slice none 0 (.known 0)) (.slice none 0 (.known 0)) (.slice none 0 (.known 0)) (.slice none 0 (.known 0)) (.slice none 0 (.known 0)) gU rfl (fun r hr=>l4) (fun r hr=>l4) (fun r hr=>l4) (fun r hr=>l4) (fun r hr=>l4) hn J J (fun p hp=>by cases hp))
theorem Lr(l:List Int)(s:Int):(cP l s).length<=l.length+1:=by
  induction l with
  |nil=>simp[cP]
  | cons x l ih=>
    unfold cP
    split
    · simp only[List.length_cons];omega
    · split<;>simp
def Bd(k:Nat)(A:bQ):Prop:=A.L.length<=k/\A.read.length<=k/\A.ao.length<=k/\A.ax.length<=k/\A.aC.length<=k/\0<=A.checked/\A.checked<=(k:Int)
theorem Bd.up{m:Nat}(h:Bd k A)(hk:k<=m):Bd m A:=by
 obtain⟨a,b,c,d,e,f,g⟩:=h
 exact⟨by omega,by omega,by omega,by omega,by omega,f,by omega⟩
theorem Bd.step(h:Bd k A)(e:Ev)(S:Int):Bd (k+1) (bR e S A):=by
 have key:∀a:bQ,Bd k a->Bd (k+1) (fc e S a):=by
  intro a ha
  obtain⟨b0,b1,b2,b3,b4,b5,b6⟩:=ha
  have hp:=Lr a.read (Int.tmod e.I S)
  unfold fc
  simp only
  repeat' split
  all_goals (refine⟨?_,?_,?_,?_,?_,?_,?_⟩<;>simp only[List.length_append,List.length_cons,List.length_nil]<;>omega)
 unfold bR
 refine key _ ?_
 split
 ·exact⟨Nat.zero_le _,Nat.zero_le _,Nat.zero_le _,Nat.zero_le _,Nat.zero_le _,Int.le_refl 0,Int.natCast_nonneg k⟩
 ·exact h
theorem BI:∀(l:List Ev) (th S:Int),Bd l.length (aG l th S)
  |[],_,_=>⟨Nat.le_refl _,Nat.le_refl _,Nat.le_refl _,Nat.le_refl _,Nat.le_refl _,Int.le_refl _,Int.le_refl _⟩
  | e::l,th,S=>by
    unfold aG
    split
    · exact(BI l th S).up (Nat.le_succ _)
    · exact(BI l th S).step e S
theorem alM(mc:Mc (sp [xu]) 6 B){o len:Nat}{l:List Ev}(h:bt aN 7 (.ae n o len) l)(hlen:len<=1000)(hS:1<=S):bw B 23 (max Tryd.f23.ntmps 3) uD [.ae n o len,.int .i64 th,.int .i64 S] (.agg (cq (aG l.reverse th S))):=by
  obtain⟨dS,hn,cF⟩:=h.len
  refine goM mc hn ?_
  have key:∀m k:Nat,k+m=len->Sm B uD (AV.agg (cq (aG l.reverse th S))) (sW n o len th S k) (aM (ay++oC (cq (aG (l.take k).reverse th S))) 272):=by
    intro m
    induction m with
    | zero=>
      intro k hk
      rw[List.take_of_length_le J]
      exact enM mc J
    | succ m ih=>
      intro k hk
      obtain⟨e,he⟩:∃e,l[k]? =some e:=⟨_,List.getElem?_eq_getElem J⟩
      have e1:(l.take (k+1)).reverse=e::(l.take k).reverse:=by rw[List.take_add_one,he];simp
      have e2:((k:Int)+1)=((k+1:Nat):Int):=by omega
      have e3:=cF k e he
      have hb:=(BI (l.take k).reverse th S).up (m:=1000) (by rw[List.length_reverse,List.length_take];omega)
      obtain⟨b0,b1,b2,b3,b4,b5,b6⟩:=hb
      refine stM (A':=aG (l.take (k+1)).reverse th S) mc hn hlen zH hS J J b0 b1 b2 b3 b4 ⟨b5,b6⟩ (fun q=>?_) (fun q=>?_) (by rw[e2];exact ih (k+1) J)
      · rw[e1];conv=>lhs;unfold aG
        rw[if_neg (by simp[q])]
      · rw[e1];conv=>lhs;unfold aG
        rw[if_pos q]
  exact key len 0 J
noncomputable def hU:List Ev->List AV->Option AV
 |l,[.int .i64 th,.int .i64 S]=>if 1<=S then some (.agg (cq (aG l.reverse th S))) else none
 |_,_=>none
end cH
end
section
open Go Go.Rn Go.RowKit Go.Proofs
namespace cI
open cd cj cv cD cH
variable {n:Nat} {B:aZ} {th S i c:Int} {l:List Ev} {v:AV} {A:bQ}
def aS(A:bQ):Prop:=A.last=0\/A.last=13\/(A.last=7/\A.ao.length=0)\/((A.last=9\/A.last=11)/\A.ax.length=A.ao.length)\/(A.last=10/\A.ao.length=0)
instance (A:bQ):Decidable (aS A):=by unfold aS;infer_instance
theorem DC(A:bQ)(h:aS A):AV.bool true= .bool (decide (aS A)):=by rw[decide_eq_true h]
theorem IT(A:bQ)(h:¬aS A):AV.bool false= .bool (decide (aS A)):=by rw[decide_eq_false h]
theorem alO(mc:Mc (sp []) 6 B):bw B 43 (max Tryd.f43.ntmps 1) aaG [(.agg [(.ae (nE A.L) 0 A.L.length),(.int .i64 A.rv),(.int .i64 A.wv),(.ae (nI A.read) 0 A.read.length),(.ae (nI A.ao) 0 A.ao.length),(.ae (nI A.ax) 0 A.ax.length),(.int .i64 A.checked),(.ae (nI A.aC) 0 A.aC.length),(.int .u8 A.ab),(.int .u8 A.last)])] (.bool (decide (aS A))):=by
 exact wS mc 900 ((fun(q1:Pl)=>((fun(q2:Pl)=>(gJ 8 (.fk (gF 1 6) (gD 1 1 (.fk (gF 1 4) (gD 1 2 (.fk q2 (gD 1 3 (.fk (gA 1 4 6 q1) (gD 1 1 (.fk (gA 1 2 6 q1) (gD 1 2 (.fk q2 (gF 1 6)))))))))))))) (gA 1 2 3 q1))) (.fk (gF 1 1) (gF 1 1))) (U (A.last=0) (fun _=>DC A ur) (fun _=>U (A.last=13) (fun _=>DC A ur) (fun _=>U (A.last=7) NY (fun _=>U (A.last=9) NU (fun _=>U (A.last=11) NU (fun _=>U (A.last=10) NY (fun _=>IT A ur)))))))
theorem T9{B:bQ}(h:cq A=cq B):A=B:=by
 obtain⟨a1,a2,a3,a4,a5,a6,a7,a8,a9,DH⟩:=A
 obtain⟨b1,b2,b3,b4,b5,b6,b7,b8,b9,IY⟩:=B
 simp only[cq,List.cons.injEq,AV.int.injEq,true_and,_root_.and_true] at h
 obtain⟨h1,rfl,rfl,h4,h5,h6,rfl,h8,rfl,rfl⟩:=h
 rw[(bt.aL eE a1).inj qy (by rw[h1];exact bt.aL eE b1),(bt.aL eI a4).inj pJ (by rw[h4];exact bt.aL eI b4),(bt.aL eI a5).inj pJ (by rw[h5];exact bt.aL eI b5),(bt.aL eI a6).inj pJ (by rw[h6];exact bt.aL eI b6),(bt.aL eI a8).inj pJ (by rw[h8];exact bt.aL eI b8)]
theorem FQ{α:Type}{enc:α->List AV}{l:List α}:(aL enc l).gN=true:=bH.2 (dB _)
theorem L9(A:bQ):(AV.agg (cq A)).hi=true:=by
 show(cq A).all AV.gN=true
 simp only[cq,List.all_cons,List.all_nil,FQ]
 rfl
def wY(args:List AV)(v:AV):Prop:=∃A:bQ,args=[.agg (cq A)]/\v= .bool (decide (aS A))
theorem SU(args:List AV)(v v':AV)(h:wY args v)(h':wY args v'):v=v':=by
 obtain⟨A,rfl,rfl⟩:=h
 obtain⟨A',e,rfl⟩:=h'
 injection e with e1 _
 injection e1 with e1
 rw[T9 e1]
noncomputable def uf:FuncId×(List AV->Option AV):=(43,aY wY)
noncomputable def si:FuncId×(List AV->Option AV):=(23,aY (RE hU))
theorem yE(A:bQ):bj (aY wY) [.agg (cq A)]=some (.bool (decide (aS A))):=l3 (mF SU ⟨A,rfl,rfl⟩) (by rw[List.all_cons,L9];rfl) rfl
theorem BG{o len:Nat}(th S:Int)(h:bt aN 7 (.ae n o len) l)(aT:eR l)(hlen:len<=1000)(hS:1<=S):bj (aY (RE hU)) [.ae n o len,.int .i64 th,.int .i64 S]=some (.agg (cq (aG l.reverse th S))):=
 sC h aT hlen (if_pos hS) rfl (L9 _)
theorem opT(A:bQ)(h:aS A):AV.bool false= .bool (decide (¬aS A)):=by rw[decide_eq_false (fun q=>q h)]
theorem opF(A:bQ)(h:¬aS A):AV.bool true= .bool (decide (¬aS A)):=by rw[decide_eq_true h]
def p7(e:Ev)(th:Int)(ov:Prop) [Decidable ov](r:Int):Int:=if e.az=th/\(e.kind=7\/e.kind=9)/\ov then r+1 else r
def bZ:List Ev->Int->Int->Int
 |[],_,_=>0
 |e::l,th,S=>p7 e th (aS (aG (e::l) th S)) (bZ l th S)
theorem aaI(mc:Mc (sp [uf,si]) 6 B){o len:Nat}(h:bt aN 7 (.ae n o len) l)(aT:eR l)(hlen:len<=1000)(hS:1<=S):bw B 22 (max Tryd.f22.ntmps 3) aaD [(.ae n o len),(.int .i64 th),(.int .i64 S)] (.bool (decide (¬aS (aG l.reverse th S)))):=by
 exact wS mc 900 (gC 3 3 (.kn (.agg [(.ae (nE (aG l.reverse th S).L) 0 (aG l.reverse th S).L.length),(.int .i64 ((aG l.reverse th S).rv)),(.int .i64 ((aG l.reverse th S).wv)),(.ae (nI (aG l.reverse th S).read) 0 (aG l.reverse th S).read.length),(.ae (nI (aG l.reverse th S).ao) 0 (aG l.reverse th S).ao.length),(.ae (nI (aG l.reverse th S).ax) 0 (aG l.reverse th S).ax.length),(.int .i64 ((aG l.reverse th S).checked)),(.ae (nI (aG l.reverse th S).aC) 0 (aG l.reverse th S).aC.length),(.int .u8 ((aG l.reverse th S).ab)),(.int .u8 ((aG l.reverse th S).last))]) (.kp (aS (aG l.reverse th S)) inferInstance (gF 2 1) (gF 2 1)))) (ai (BG th S h aT J J) (ai (yE (aG l.reverse th S)) (U (aS (aG l.reverse th S)) (fun h1=>opT (aG l.reverse th S) h1) (fun h1=>opF (aG l.reverse th S) h1))))
def vA(n o len:Nat)(th S c i:Int):List (Nat×AV):=[(0,(.ae n o len)),(1,(.int .i64 th)),(2,(.int .i64 S)),(7,(.int .i64 c)),(8,(.int .i64 i))]
noncomputable def vB(n o len:Nat)(th S c i:Int):AF:=⟨24,eS (vA n o len th S c i),49,[.code (aO Tryd.prog 24 [1,1,0,1,0,0]),.inLoop (aO Tryd.prog 24 [1,1,0,1,0,0]),.inBlock 0,.code (aO Tryd.prog 24 [1,1,1])],[],none⟩
def CC(n o len:Nat)(th S c i:Int):bz:=fun fr s1 _=>fr=vB n o len th S c i/\s1=aM ay 270
theorem IP(n o len:Nat)(th S c i:Int)(c':Int)(h:c'=c):((vA n o len th S c i).map (fun q=>some q.2)=(vA n o len th S c i).map (fun q=>some q.2))/\(ay.map (fun q=>q.2)=ay.map (fun q=>q.2))/\CC n o len th S c' i (vB n o len th S c i) (aM ay 270) .no:=by subst h;exact⟨rfl,rfl,rfl,rfl⟩
theorem rfC(c:Int):AV.int .i64 c=AV.int .i64 c:=rfl
theorem stC(mc:Mc (sp [uf,si]) 6 B){o len:Nat}{e:Ev}{m:List Ev}(hn:top<=n)(hlen:len<=1000)(he:bM FU n (o+i.toNat*7) 7=some (aN e))(hm:bt aN 7 (.ae n o (i+1).toNat) m)(qi:eR m)(hS:1<=S)(h0:0<=i)(h1:i<(len:Int))(iz:0<=c/\c<=1000)(H:Sm B uE v (vB n o len th S (p7 e th (aS (aG m.reverse th S)) c) (i+1)) (aM ay 270)):Sm B uE v (vB n o len th S c i) (aM ay 270):=by
 have f1:=fun h=>wI (i+1) h
 exact wC mc (C:=(CC n o len th S (p7 e th (aS (aG m.reverse th S)) c) (i+1))) xo 2000 ((fun(q1:Pl)=>((fun(q2:Pl)=>(gC 2 3 (.fk (gB 6 2 (.bI (.go 1 (.bJ [(.int .i64 e.az)] (.go 1 (.fk (.go 16 q1) (.go 3 (.bI (.go 1 (.bJ [(.int .u8 e.kind)] (.fk (.go 3 (.bI (.go 1 (.bJ [(.int .u8 e.kind)] (.fk (.go 2 q1) (.go 2 q2)))))) (.go 9 q2)))))))))))) .no))) (gB 3 2 (.vl (.int .i64 (i+1)) (.sf (0:Int) (i+1) (.go 2 (.kn (.agg [(.ae (nE (aG m.reverse th S).L) 0 (aG m.reverse th S).L.length),(.int .i64 ((aG m.reverse th S).rv)),(.int .i64 ((aG m.reverse th S).wv)),(.ae (nI (aG m.reverse th S).read) 0 (aG m.reverse th S).read.length),(.ae (nI (aG m.reverse th S).ao) 0 (aG m.reverse th S).ao.length),(.ae (nI (aG m.reverse th S).ax) 0 (aG m.reverse th S).ax.length),(.int .i64 ((aG m.reverse th S).checked)),(.ae (nI (aG m.reverse th S).aC) 0 (aG m.reverse th S).aC.length),(.int .u8 ((aG m.reverse th S).ab)),(.int .u8 ((aG m.reverse th S).last))]) (.kp (aS (aG m.reverse th S)) inferInstance (.en (.st 1 (.rg (.go 1 (.vl (.int .i64 (c+1)) (.go 1 (.en (.st 1 (.rg (.go 1 (.vl (.int .i64 (i+1)) (.go 1 (.en (.st 1 (.ls (vA n o len th S (c+1) (i+1)) ay 270 .no))))))))))))))) (.en (.st 3 (.rg (.go 1 (.vl (.int .i64 (i+1)) (.go 1 (.en (.st 1 (.ls (vA n o len th S c (i+1)) ay 270 .no))))))))))))))))) (gB 2 1 (.vl (.int .i64 (i+1)) (gK 1 1 (.ls (vA n o len th S c (i+1)) ay 270 .no))))) (U (i<(len:Int)) (fun _=>aV i (len:Int) J J (ai hn (ai (c9 he 1 1 ar) (U (e.az≠th) Hp (fun _=>aV i (len:Int) J J (ai hn (ai (c9 he 0 1 ar) (U (e.kind≠7) (fun _=>aV i (len:Int) J J (ai hn (ai (c9 he 0 1 ar) (U (e.kind≠9) Hp OH)))) OH)))))))) aA)
theorem enC(mc:Mc (sp [uf,si]) 6 B){o len:Nat}(hi:(len:Int)<=i):Sm B uE (.int .i64 c) (vB n o len th S c i) (aM ay 270):=by
 exact wS mc 900 (gC 2 3 (.fk .no (gG 5))) (U (i<(len:Int)) aA (fun _=>rfC c))
theorem IZ(mc:Mc (sp [uf,si]) 6 B){o len:Nat}(H:Sm B uE v (vB n o len th S 0 0) (aM ay 270)):bw B 24 (max Tryd.f24.ntmps 3) uE [(.ae n o len),(.int .i64 th),(.int .i64 S)] v:=by
 exact wC mc (C:=(CC n o len th S 0 0)) xo 900 (.st 9 (.ls (vA n o len th S 0 0) ay 270 .no)) (IP n o len th S 0 0 0 rfl)
theorem Ga:∀(l:List Ev) (th S:Int),0<=bZ l th S/\bZ l th S<=(l.length:Int)
  |[],_,_=>⟨Int.le_refl 0,Int.le_refl 0⟩
  | e::l,th,S=>by
    have:=Ga l th S
    unfold bZ p7
    rw[List.length_cons]
    split<;>omega
theorem alC(mc:Mc (sp [uf,si]) 6 B){o len:Nat}(h:bt aN 7 (.ae n o len) l)(aT:eR l)(hlen:len<=1000)(hS:1<=S):bw B 24 (max Tryd.f24.ntmps 3) uE [.ae n o len,.int .i64 th,.int .i64 S] (.int .i64 (bZ l.reverse th S)):=by
  obtain⟨dS,hn,cF⟩:=h.len
  refine IZ mc ?_
  have key:∀m k:Nat,k+m=len->Sm B uE (.int .i64 (bZ l.reverse th S)) (vB n o len th S (bZ (l.take k).reverse th S) k) (aM ay 270):=by
    intro m
    induction m with
    | zero=>
      intro k hk
      rw[List.take_of_length_le J]
      exact enC mc J
    | succ m ih=>
      intro k hk
      obtain⟨e,he⟩:∃e,l[k]? =some e:=⟨_,List.getElem?_eq_getElem J⟩
      have e1:(l.take (k+1)).reverse=e::(l.take k).reverse:=by rw[List.take_add_one,he];simp
      have e2:((k:Int)+1)=((k+1:Nat):Int):=by omega
      have hb:=Ga (l.take k).reverse th S
      rw[List.length_reverse,List.length_take] at hb
      have hI:=GH h (k:=k+1) J
      have H:=ih (k+1) J
      rw[e1] at H
      conv at H=>arg 5;unfold bZ
      refine stC (m:=l.take (k+1)) mc hn hlen qa (by rw[e2,Int.toNat_natCast];exact hI) (F9 aT (k+1)) hS J J ⟨hb.1,by omega⟩ ?_
      rw[e1,e2];exact H
  exact key len 0 J
noncomputable def uK:List Ev->List AV->Option AV
 |l,[.int .i64 th,.int .i64 S]=>if 1<=S then some (.int .i64 (bZ l.reverse th S)) else none
 |_,_=>none
noncomputable def HD:FuncId×(List AV->Option AV):=(24,aY (RE uK))
end cI
end
section
open Go Go.Rn Go.RowKit Go.Proofs
namespace cN
open cd cj cv cD cH cI
variable {V T S x ab v tx th k:Int} {B:aZ}
def aB(k th tx I v x ab T V S:Int):Prop:=(1<=T/\T<=6)/\(1<=V/\V<=32)/\(1<=S/\S<=V)/\1<=k/\k<=13/\(k≠10\/(1<=ab/\ab<=6))/\0<=th/\th<T/\0<=tx/\tx<=5/\0<=v/\v<=1099511627776/\(k≠5\/1<=v)/\0<=I/\(k=3\/k=8\/I<S)/\((k≠3/\k≠8)\/I<V)/\(k≠10\/ab≠6\/I<=0)/\(k=1\/tx=0)/\((k≠1/\k≠5/\k≠7/\k≠12/\k≠13)\/I=0)/\(k=1\/k=2\/k=5\/k=7\/v=0)/\(k=3\/k=8\/x=0)/\(k=10\/ab=0)
instance (k th tx I v x ab T V S:Int):Decidable (aB k th tx I v x ab T V S):=by unfold aB;infer_instance
theorem jb(k th tx I v x ab T V S:Int)(h:aB k th tx I v x ab T V S):AV.bool true= .bool (decide (aB k th tx I v x ab T V S)):=by rw[decide_eq_true h]
theorem iB(k th tx I v x ab T V S:Int)(h:¬aB k th tx I v x ab T V S):AV.bool false= .bool (decide (aB k th tx I v x ab T V S)):=by rw[decide_eq_false h]
theorem Zd(mc:Mc (sp []) 6 B){I:Int}:bw B 57 (max Tryd.f57.ntmps 4) lx [(.agg (bn (.ofNat 0) th tx I v x ab)),(.int .i64 T),(.int .i64 V),(.int .i64 S)] (.bool (decide (aB 0 th tx I v x ab T V S))):=by
 have f1:=fun h=>iB 0 th tx I v x ab T V S h
 exact wS mc 2000 ((fun(q1:Pl)=>(gC 4 1 (.fk (.go 21 q1) (.go 2 (.fk (.go 18 q1) (.go 3 (.fk (.go 14 q1) (.go 3 (.fk (.go 10 q1) (.go 3 (.fk (.go 6 q1) (.go 4 (.fk (.go 1 q1) (gA 1 4 2 (.il (.rt 10 (.go 43 q1))))))))))))))))) (gG 4)) (U (T<1) aw (fun _=>U (T>6) aw (fun _=>U (V<1) aw (fun _=>U (V>32) aw (fun _=>U (S<1) aw (fun _=>U (S>V) aw aw))))))
theorem Ch(mc:Mc (sp []) 6 B){I:Int}:bw B 57 (max Tryd.f57.ntmps 4) lx [(.agg (bn (.ofNat 1) th tx I v x ab)),(.int .i64 T),(.int .i64 V),(.int .i64 S)] (.bool (decide (aB 1 th tx I v x ab T V S))):=by
 have f1:=fun h=>iB 1 th tx I v x ab T V S h
 exact wS mc 2000 ((fun(q1:Pl)=>(gC 4 1 (.fk (.go 21 q1) (.go 2 (.fk (.go 18 q1) (.go 3 (.fk (.go 14 q1) (.go 3 (.fk (.go 10 q1) (.go 3 (.fk (.go 6 q1) (.go 4 (.fk (.go 1 q1) (gA 1 4 2 (.il (.rt 10 (.go 4 (.fk (.go 38 q1) (.go 5 (.fk (.go 32 q1) (.go 3 (.il (.rt 16 (.go 1 (.ef (.go 4 (.fk (.go 21 q1) (.go 4 (.fk (.go 16 q1) (.go 4 (.fk (.go 11 q1) (.go 4 (.fk (.go 6 q1) (.go 4 (.fk (.go 1 q1) (gA 1 21 3 (.fk (gF 1 1) (gF 1 1))))))))))))) (.go 26 q1)))))))))))))))))))))))))) (gG 4)) (U (T<1) aw (fun _=>U (T>6) aw (fun _=>U (V<1) aw (fun _=>U (V>32) aw (fun _=>U (S<1) aw (fun _=>U (S>V) aw (fun _=>U (th<0) aw (fun _=>U (th>=T) aw (fun _=>jk 1 1 th th tx tx 0 I v v 0 x 0 ab (fun _=>U (tx<0) aw (fun _=>U (tx>=6) aw (fun _=>U (v<0) aw (fun _=>U (v>1099511627776) aw (fun _=>U (I<0) aw (fun _=>U (I<S) (fun _=>jb 1 th tx I v x ab T V S jv) aw)))))) aw)))))))))
theorem Ci(mc:Mc (sp []) 6 B){I:Int}:bw B 57 (max Tryd.f57.ntmps 4) lx [(.agg (bn (.ofNat 2) th tx I v x ab)),(.int .i64 T),(.int .i64 V),(.int .i64 S)] (.bool (decide (aB 2 th tx I v x ab T V S))):=by
 have f1:=fun h=>iB 2 th tx I v x ab T V S h
 exact wS mc 2000 ((fun(q1:Pl)=>(gC 4 1 (.fk (.go 21 q1) (.go 2 (.fk (.go 18 q1) (.go 3 (.fk (.go 14 q1) (.go 3 (.fk (.go 10 q1) (.go 3 (.fk (.go 6 q1) (.go 4 (.fk (.go 1 q1) (gA 1 4 2 (.il (.rt 10 (.go 4 (.fk (.go 38 q1) (.go 5 (.fk (.go 32 q1) (.go 3 (.il (.rt 19 (.go 1 (.ef (.go 4 (.fk (.go 21 q1) (.go 4 (.fk (.go 16 q1) (.go 4 (.fk (.go 11 q1) (.go 4 (.fk (.go 6 q1) (.go 4 (.fk (.go 1 q1) (gA 1 21 3 (.fk (gF 1 1) (gF 1 1))))))))))))) (.go 26 q1)))))))))))))))))))))))))) (gG 4)) (U (T<1) aw (fun _=>U (T>6) aw (fun _=>U (V<1) aw (fun _=>U (V>32) aw (fun _=>U (S<1) aw (fun _=>U (S>V) aw (fun _=>U (th<0) aw (fun _=>U (th>=T) aw (fun _=>jk 2 2 th th 0 tx I I v v 0 x 0 ab (fun _=>U (tx<0) aw (fun _=>U (tx>=6) aw (fun _=>U (v<0) aw (fun _=>U (v>1099511627776) aw (fun _=>U (I<0) aw (fun _=>U (I<S) (fun _=>jb 2 th tx I v x ab T V S jv) aw)))))) aw)))))))))
theorem Cj(mc:Mc (sp []) 6 B){I:Int}:bw B 57 (max Tryd.f57.ntmps 4) lx [(.agg (bn (.ofNat 3) th tx I v x ab)),(.int .i64 T),(.int .i64 V),(.int .i64 S)] (.bool (decide (aB 3 th tx I v x ab T V S))):=by
 have f1:=fun h=>iB 3 th tx I v x ab T V S h
 exact wS mc 2000 ((fun(q1:Pl)=>(gC 4 1 (.fk (.go 21 q1) (.go 2 (.fk (.go 18 q1) (.go 3 (.fk (.go 14 q1) (.go 3 (.fk (.go 10 q1) (.go 3 (.fk (.go 6 q1) (.go 4 (.fk (.go 1 q1) (gA 1 4 2 (.il (.rt 10 (.go 4 (.fk (.go 38 q1) (.go 5 (.fk (.go 32 q1) (.go 3 (.il (.rt 25 (.go 1 (.ef (.go 4 (.fk (.go 21 q1) (.go 4 (.fk (.go 16 q1) (.go 4 (.fk (.go 11 q1) (.go 4 (.fk (.go 6 q1) (.go 4 (.fk (.go 1 q1) (gA 1 13 3 (.fk (gF 1 1) (gF 1 1))))))))))))) (.go 26 q1)))))))))))))))))))))))))) (gG 4)) (U (T<1) aw (fun _=>U (T>6) aw (fun _=>U (V<1) aw (fun _=>U (V>32) aw (fun _=>U (S<1) aw (fun _=>U (S>V) aw (fun _=>U (th<0) aw (fun _=>U (th>=T) aw (fun _=>jk 3 3 th th 0 tx I I 0 v x x 0 ab (fun _=>U (tx<0) aw (fun _=>U (tx>=6) aw (fun _=>U (v<0) aw (fun _=>U (v>1099511627776) aw (fun _=>U (I<0) aw (fun _=>U (I<V) (fun _=>jb 3 th tx I v x ab T V S jv) aw)))))) aw)))))))))
theorem Cl(mc:Mc (sp []) 6 B){I:Int}:bw B 57 (max Tryd.f57.ntmps 4) lx [(.agg (bn (.ofNat 4) th tx I v x ab)),(.int .i64 T),(.int .i64 V),(.int .i64 S)] (.bool (decide (aB 4 th tx I v x ab T V S))):=by
 have f1:=fun h=>iB 4 th tx I v x ab T V S h
 exact wS mc 2000 ((fun(q1:Pl)=>(gC 4 1 (.fk (.go 21 q1) (.go 2 (.fk (.go 18 q1) (.go 3 (.fk (.go 14 q1) (.go 3 (.fk (.go 10 q1) (.go 3 (.fk (.go 6 q1) (.go 4 (.fk (.go 1 q1) (gA 1 4 2 (.il (.rt 10 (.go 4 (.fk (.go 38 q1) (.go 5 (.fk (.go 32 q1) (.go 3 (.il (.rt 31 (.go 1 (.ef (.go 4 (.fk (.go 21 q1) (.go 4 (.fk (.go 16 q1) (.go 4 (.fk (.go 11 q1) (.go 4 (.fk (.go 6 q1) (.go 4 (.fk (.go 1 q1) (gA 1 21 3 (.fk (gF 1 1) (gF 1 1))))))))))))) (.go 26 q1)))))))))))))))))))))))))) (gG 4)) (U (T<1) aw (fun _=>U (T>6) aw (fun _=>U (V<1) aw (fun _=>U (V>32) aw (fun _=>U (S<1) aw (fun _=>U (S>V) aw (fun _=>U (th<0) aw (fun _=>U (th>=T) aw (fun _=>jk 4 4 th th 0 tx I I 0 v 0 x 0 ab (fun _=>U (tx<0) aw (fun _=>U (tx>=6) aw (fun _=>U (v<0) aw (fun _=>U (v>1099511627776) aw (fun _=>U (I<0) aw (fun _=>U (I<S) (fun _=>jb 4 th tx I v x ab T V S jv) aw)))))) aw)))))))))
theorem zf(mc:Mc (sp []) 6 B){I:Int}:bw B 57 (max Tryd.f57.ntmps 4) lx [(.agg (bn (.ofNat 5) th tx I v x ab)),(.int .i64 T),(.int .i64 V),(.int .i64 S)] (.bool (decide (aB 5 th tx I v x ab T V S))):=by
 have f1:=fun h=>iB 5 th tx I v x ab T V S h
 exact wS mc 2000 ((fun(q1:Pl)=>(gC 4 1 (.fk (.go 21 q1) (.go 2 (.fk (.go 18 q1) (.go 3 (.fk (.go 14 q1) (.go 3 (.fk (.go 10 q1) (.go 3 (.fk (.go 6 q1) (.go 4 (.fk (.go 1 q1) (gA 1 4 2 (.il (.rt 10 (.go 4 (.fk (.go 38 q1) (.go 5 (.fk (.go 32 q1) (.go 3 (.il (.rt 43 (.go 1 (.ef (.go 4 (.fk (.go 21 q1) (.go 4 (.fk (.go 16 q1) (.go 4 (.fk (.go 11 q1) (.go 4 (.fk (.go 6 q1) (.go 4 (.fk (.go 1 q1) (gA 1 16 2 (.fk (gF 1 1) (gF 1 1))))))))))))) (.go 26 q1)))))))))))))))))))))))))) (gG 4)) (U (T<1) aw (fun _=>U (T>6) aw (fun _=>U (V<1) aw (fun _=>U (V>32) aw (fun _=>U (S<1) aw (fun _=>U (S>V) aw (fun _=>U (th<0) aw (fun _=>U (th>=T) aw (fun _=>jk 5 5 th th 0 tx 0 I v v 0 x 0 ab (fun _=>U (tx<0) aw (fun _=>U (tx>=6) aw (fun _=>U (v<0) aw (fun _=>U (v>1099511627776) aw (fun _=>U (I<0) aw (fun _=>U (v>=1) (fun _=>jb 5 th tx I v x ab T V S jv) aw)))))) aw)))))))))
theorem Cn(mc:Mc (sp []) 6 B){I:Int}:bw B 57 (max Tryd.f57.ntmps 4) lx [(.agg (bn (.ofNat 6) th tx I v x ab)),(.int .i64 T),(.int .i64 V),(.int .i64 S)] (.bool (decide (aB 6 th tx I v x ab T V S))):=by
 have f1:=fun h=>iB 6 th tx I v x ab T V S h
 exact wS mc 2000 ((fun(q1:Pl)=>(gC 4 1 (.fk (.go 21 q1) (.go 2 (.fk (.go 18 q1) (.go 3 (.fk (.go 14 q1) (.go 3 (.fk (.go 10 q1) (.go 3 (.fk (.go 6 q1) (.go 4 (.fk (.go 1 q1) (gA 1 4 2 (.il (.rt 10 (.go 4 (.fk (.go 38 q1) (.go 5 (.fk (.go 32 q1) (.go 3 (.il (.rt 34 (.go 1 (.ef (.go 4 (.fk (.go 21 q1) (.go 4 (.fk (.go 16 q1) (.go 4 (.fk (.go 11 q1) (.go 4 (.fk (.go 6 q1) (.go 4 (.fk (.go 1 q1) (gA 1 21 3 (.fk (gF 1 1) (gF 1 1))))))))))))) (.go 26 q1)))))))))))))))))))))))))) (gG 4)) (U (T<1) aw (fun _=>U (T>6) aw (fun _=>U (V<1) aw (fun _=>U (V>32) aw (fun _=>U (S<1) aw (fun _=>U (S>V) aw (fun _=>U (th<0) aw (fun _=>U (th>=T) aw (fun _=>jk 6 6 th th 0 tx I I 0 v 0 x 0 ab (fun _=>U (tx<0) aw (fun _=>U (tx>=6) aw (fun _=>U (v<0) aw (fun _=>U (v>1099511627776) aw (fun _=>U (I<0) aw (fun _=>U (I<S) (fun _=>jb 6 th tx I v x ab T V S jv) aw)))))) aw)))))))))
theorem zg(mc:Mc (sp []) 6 B){I:Int}:bw B 57 (max Tryd.f57.ntmps 4) lx [(.agg (bn (.ofNat 7) th tx I v x ab)),(.int .i64 T),(.int .i64 V),(.int .i64 S)] (.bool (decide (aB 7 th tx I v x ab T V S))):=by
 have f1:=fun h=>iB 7 th tx I v x ab T V S h
 exact wS mc 2000 ((fun(q1:Pl)=>(gC 4 1 (.fk (.go 21 q1) (.go 2 (.fk (.go 18 q1) (.go 3 (.fk (.go 14 q1) (.go 3 (.fk (.go 10 q1) (.go 3 (.fk (.go 6 q1) (.go 4 (.fk (.go 1 q1) (gA 1 4 2 (.il (.rt 10 (.go 4 (.fk (.go 38 q1) (.go 5 (.fk (.go 32 q1) (.go 3 (.il (.rt 43 (.go 1 (.ef (.go 4 (.fk (.go 21 q1) (.go 4 (.fk (.go 16 q1) (.go 4 (.fk (.go 11 q1) (.go 4 (.fk (.go 6 q1) (.go 4 (.fk (.go 1 q1) (gA 1 21 3 (.fk (gF 1 1) (gF 1 1))))))))))))) (.go 26 q1)))))))))))))))))))))))))) (gG 4)) (U (T<1) aw (fun _=>U (T>6) aw (fun _=>U (V<1) aw (fun _=>U (V>32) aw (fun _=>U (S<1) aw (fun _=>U (S>V) aw (fun _=>U (th<0) aw (fun _=>U (th>=T) aw (fun _=>jk 7 7 th th 0 tx 0 I v v 0 x 0 ab (fun _=>U (tx<0) aw (fun _=>U (tx>=6) aw (fun _=>U (v<0) aw (fun _=>U (v>1099511627776) aw (fun _=>U (I<0) aw (fun _=>U (I<S) (fun _=>jb 7 th tx I v x ab T V S jv) aw)))))) aw)))))))))
theorem Co(mc:Mc (sp []) 6 B){I:Int}:bw B 57 (max Tryd.f57.ntmps 4) lx [(.agg (bn (.ofNat 8) th tx I v x ab)),(.int .i64 T),(.int .i64 V),(.int .i64 S)] (.bool (decide (aB 8 th tx I v x ab T V S))):=by
 have f1:=fun h=>iB 8 th tx I v x ab T V S h
 exact wS mc 2000 ((fun(q1:Pl)=>(gC 4 1 (.fk (.go 21 q1) (.go 2 (.fk (.go 18 q1) (.go 3 (.fk (.go 14 q1) (.go 3 (.fk (.go 10 q1) (.go 3 (.fk (.go 6 q1) (.go 4 (.fk (.go 1 q1) (gA 1 4 2 (.il (.rt 10 (.go 4 (.fk (.go 38 q1) (.go 5 (.fk (.go 32 q1) (.go 3 (.il (.rt 25 (.go 1 (.ef (.go 4 (.fk (.go 21 q1) (.go 4 (.fk (.go 16 q1) (.go 4 (.fk (.go 11 q1) (.go 4 (.fk (.go 6 q1) (.go 4 (.fk (.go 1 q1) (gA 1 13 3 (.fk (gF 1 1) (gF 1 1))))))))))))) (.go 26 q1)))))))))))))))))))))))))) (gG 4)) (U (T<1) aw (fun _=>U (T>6) aw (fun _=>U (V<1) aw (fun _=>U (V>32) aw (fun _=>U (S<1) aw (fun _=>U (S>V) aw (fun _=>U (th<0) aw (fun _=>U (th>=T) aw (fun _=>jk 8 8 th th 0 tx I I 0 v x x 0 ab (fun _=>U (tx<0) aw (fun _=>U (tx>=6) aw (fun _=>U (v<0) aw (fun _=>U (v>1099511627776) aw (fun _=>U (I<0) aw (fun _=>U (I<V) (fun _=>jb 8 th tx I v x ab T V S jv) aw)))))) aw)))))))))
theorem zi(mc:Mc (sp []) 6 B){I:Int}:bw B 57 (max Tryd.f57.ntmps 4) lx [(.agg (bn (.ofNat 9) th tx I v x ab)),(.int .i64 T),(.int .i64 V),(.int .i64 S)] (.bool (decide (aB 9 th tx I v x ab T V S))):=by
 have f1:=fun h=>iB 9 th tx I v x ab T V S h
 exact wS mc 2000 ((fun(q1:Pl)=>(gC 4 1 (.fk (.go 21 q1) (.go 2 (.fk (.go 18 q1) (.go 3 (.fk (.go 14 q1) (.go 3 (.fk (.go 10 q1) (.go 3 (.fk (.go 6 q1) (.go 4 (.fk (.go 1 q1) (gA 1 4 2 (.il (.rt 10 (.go 4 (.fk (.go 38 q1) (.go 5 (.fk (.go 32 q1) (.go 3 (.il (.rt 37 (.go 1 (.ef (.go 4 (.fk (.go 21 q1) (.go 4 (.fk (.go 16 q1) (.go 4 (.fk (.go 11 q1) (.go 4 (.fk (.go 6 q1) (.go 4 (.fk (.go 1 q1) (gA 1 21 3 (.fk (gF 1 1) (gF 1 1))))))))))))) (.go 26 q1)))))))))))))))))))))))))) (gG 4)) (U (T<1) aw (fun _=>U (T>6) aw (fun _=>U (V<1) aw (fun _=>U (V>32) aw (fun _=>U (S<1) aw (fun _=>U (S>V) aw (fun _=>U (th<0) aw (fun _=>U (th>=T) aw (fun _=>jk 9 9 th th 0 tx I I 0 v 0 x 0 ab (fun _=>U (tx<0) aw (fun _=>U (tx>=6) aw (fun _=>U (v<0) aw (fun _=>U (v>1099511627776) aw (fun _=>U (I<0) aw (fun _=>U (I<S) (fun _=>jb 9 th tx I v x ab T V S jv) aw)))))) aw)))))))))
theorem WW(mc:Mc (sp []) 6 B){I:Int}:bw B 57 (max Tryd.f57.ntmps 4) lx [(.agg (bn (.ofNat 10) th tx I v x ab)),(.int .i64 T),(.int .i64 V),(.int .i64 S)] (.bool (decide (aB 10 th tx I v x ab T V S))):=by
 have f1:=fun h=>iB 10 th tx I v x ab T V S h
 exact wS mc 2000 ((fun(q1:Pl)=>((fun(q2:Pl)=>(gC 4 1 (.fk (.go 21 q1) (.go 2 (.fk (.go 18 q1) (.go 3 (.fk (.go 14 q1) (.go 3 (.fk (.go 10 q1) (.go 3 (.fk (.go 6 q1) (.go 4 (.fk (.go 1 q1) (gA 1 4 2 (.il (.rt 10 (.go 4 (.fk (.go 38 q1) (.go 5 (.fk (.go 32 q1) (.go 3 (.il (.rt 46 (.go 1 (.ef (.go 4 (.fk (.go 21 q1) (.go 4 (.fk (.go 16 q1) (.go 4 (.fk (.go 11 q1) (.go 4 (.fk (.go 6 q1) (.go 4 (.fk (.go 1 q1) (gA 1 19 2 (.fk (.go 3 (.fk (.go 5 (.fk (.go 4 (.fk (.go 7 q2) (.go 3 (.fk (.go 3 q2) (.go 3 q2))))) (.go 12 q2))) (.go 18 q2))) (.go 22 q2))))))))))))) (.go 26 q1)))))))))))))))))))))))))) (gG 1))) (gG 4)) (U (T<1) aw (fun _=>U (T>6) aw (fun _=>U (V<1) aw (fun _=>U (V>32) aw (fun _=>U (S<1) aw (fun _=>U (S>V) aw (fun _=>U (th<0) aw (fun _=>U (th>=T) aw (fun _=>jk 10 10 th th 0 tx I I 0 v 0 x ab ab (fun _=>U (tx<0) aw (fun _=>U (tx>=6) aw (fun _=>U (v<0) aw (fun _=>U (v>1099511627776) aw (fun _=>U (I<0) aw (fun _=>U (ab>=1) (fun _=>U (ab<=6) (fun _=>U (I<S) (fun _=>U (ab≠6) (fun _=>jb 10 th tx I v x ab T V S jv) (fun _=>U (I=0) (fun _=>jb 10 th tx I v x ab T V S jv) aw)) aw) aw) aw)))))) aw)))))))))
theorem wO(mc:Mc (sp []) 6 B){I:Int}:bw B 57 (max Tryd.f57.ntmps 4) lx [(.agg (bn (.ofNat 11) th tx I v x ab)),(.int .i64 T),(.int .i64 V),(.int .i64 S)] (.bool (decide (aB 11 th tx I v x ab T V S))):=by
 have f1:=fun h=>iB 11 th tx I v x ab T V S h
 exact wS mc 2000 ((fun(q1:Pl)=>(gC 4 1 (.fk (.go 21 q1) (.go 2 (.fk (.go 18 q1) (.go 3 (.fk (.go 14 q1) (.go 3 (.fk (.go 10 q1) (.go 3 (.fk (.go 6 q1) (.go 4 (.fk (.go 1 q1) (gA 1 4 2 (.il (.rt 10 (.go 4 (.fk (.go 38 q1) (.go 5 (.fk (.go 32 q1) (.go 3 (.il (.rt 37 (.go 1 (.ef (.go 4 (.fk (.go 21 q1) (.go 4 (.fk (.go 16 q1) (.go 4 (.fk (.go 11 q1) (.go 4 (.fk (.go 6 q1) (.go 4 (.fk (.go 1 q1) (gA 1 21 3 (.fk (gF 1 1) (gF 1 1))))))))))))) (.go 26 q1)))))))))))))))))))))))))) (gG 4)) (U (T<1) aw (fun _=>U (T>6) aw (fun _=>U (V<1) aw (fun _=>U (V>32) aw (fun _=>U (S<1) aw (fun _=>U (S>V) aw (fun _=>U (th<0) aw (fun _=>U (th>=T) aw (fun _=>jk 11 11 th th 0 tx I I 0 v 0 x 0 ab (fun _=>U (tx<0) aw (fun _=>U (tx>=6) aw (fun _=>U (v<0) aw (fun _=>U (v>1099511627776) aw (fun _=>U (I<0) aw (fun _=>U (I<S) (fun _=>jb 11 th tx I v x ab T V S jv) aw)))))) aw)))))))))
theorem BZ(mc:Mc (sp []) 6 B){I:Int}:bw B 57 (max Tryd.f57.ntmps 4) lx [(.agg (bn (.ofNat 12) th tx I v x ab)),(.int .i64 T),(.int .i64 V),(.int .i64 S)] (.bool (decide (aB 12 th tx I v x ab T V S))):=by
 have f1:=fun h=>iB 12 th tx I v x ab T V S h
 exact wS mc 2000 ((fun(q1:Pl)=>(gC 4 1 (.fk (.go 21 q1) (.go 2 (.fk (.go 18 q1) (.go 3 (.fk (.go 14 q1) (.go 3 (.fk (.go 10 q1) (.go 3 (.fk (.go 6 q1) (.go 4 (.fk (.go 1 q1) (gA 1 4 2 (.il (.rt 10 (.go 4 (.fk (.go 38 q1) (.go 5 (.fk (.go 32 q1) (.go 3 (.il (.rt 46 (.go 1 (.ef (.go 4 (.fk (.go 21 q1) (.go 4 (.fk (.go 16 q1) (.go 4 (.fk (.go 11 q1) (.go 4 (.fk (.go 6 q1) (.go 4 (.fk (.go 1 q1) (gA 1 21 3 (.fk (gF 1 1) (gF 1 1))))))))))))) (.go 26 q1)))))))))))))))))))))))))) (gG 4)) (U (T<1) aw (fun _=>U (T>6) aw (fun _=>U (V<1) aw (fun _=>U (V>32) aw (fun _=>U (S<1) aw (fun _=>U (S>V) aw (fun _=>U (th<0) aw (fun _=>U (th>=T) aw (fun _=>jk 12 12 th th 0 tx 0 I 0 v 0 x 0 ab (fun _=>U (tx<0) aw (fun _=>U (tx>=6) aw (fun _=>U (v<0) aw (fun _=>U (v>1099511627776) aw (fun _=>U (I<0) aw (fun _=>U (I<S) (fun _=>jb 12 th tx I v x ab T V S jv) aw)))))) aw)))))))))
theorem B0(mc:Mc (sp []) 6 B){I:Int}:bw B 57 (max Tryd.f57.ntmps 4) lx [(.agg (bn (.ofNat 13) th tx I v x ab)),(.int .i64 T),(.int .i64 V),(.int .i64 S)] (.bool (decide (aB 13 th tx I v x ab T V S))):=by
 have f1:=fun h=>iB 13 th tx I v x ab T V S h
 exact wS mc 2000 ((fun(q1:Pl)=>(gC 4 1 (.fk (.go 21 q1) (.go 2 (.fk (.go 18 q1) (.go 3 (.fk (.go 14 q1) (.go 3 (.fk (.go 10 q1) (.go 3 (.fk (.go 6 q1) (.go 4 (.fk (.go 1 q1) (gA 1 4 2 (.il (.rt 10 (.go 4 (.fk (.go 38 q1) (.go 5 (.fk (.go 32 q1) (.go 3 (.il (.rt 46 (.go 1 (.ef (.go 4 (.fk (.go 21 q1) (.go 4 (.fk (.go 16 q1) (.go 4 (.fk (.go 11 q1) (.go 4 (.fk (.go 6 q1) (.go 4 (.fk (.go 1 q1) (gA 1 21 3 (.fk (gF 1 1) (gF 1 1))))))))))))) (.go 26 q1)))))))))))))))))))))))))) (gG 4)) (U (T<1) aw (fun _=>U (T>6) aw (fun _=>U (V<1) aw (fun _=>U (V>32) aw (fun _=>U (S<1) aw (fun _=>U (S>V) aw (fun _=>U (th<0) aw (fun _=>U (th>=T) aw (fun _=>jk 13 13 th th 0 tx 0 I 0 v 0 x 0 ab (fun _=>U (tx<0) aw (fun _=>U (tx>=6) aw (fun _=>U (v<0) aw (fun _=>U (v>1099511627776) aw (fun _=>U (I<0) aw (fun _=>U (I<S) (fun _=>jb 13 th tx I v x ab T V S jv) aw)))))) aw)))))))))
theorem Ze(mc:Mc (sp []) 6 B){I:Int}(hk:13<k):bw B 57 (max Tryd.f57.ntmps 4) lx [(.agg (bn k th tx I v x ab)),(.int .i64 T),(.int .i64 V),(.int .i64 S)] (.bool (decide (aB k th tx I v x ab T V S))):=by
 have f1:=fun h=>iB k th tx I v x ab T V S h
 exact wS mc 2000 ((fun(q1:Pl)=>(gC 4 1 (.fk (.go 21 q1) (.go 2 (.fk (.go 18 q1) (.go 3 (.fk (.go 14 q1) (.go 3 (.fk (.go 10 q1) (.go 3 (.fk (.go 6 q1) (.go 4 (.fk (.go 1 q1) (gA 1 4 2 (.il (gC 4 1 (.fk (gI 4 (.go 43 q1)) .no))))))))))))))))) (gG 4)) (U (T<1) aw (fun _=>U (T>6) aw (fun _=>U (V<1) aw (fun _=>U (V>32) aw (fun _=>U (S<1) aw (fun _=>U (S>V) aw (fun _=>U (k>13) aw aA)))))))
def wP(args:List AV)(r:AV):Prop:=∃k th tx I v x ab T V S:Int,0<=k/\args=[.agg [.int .u8 k,.int .i64 th,.int .i64 tx,.int .i64 I,.int .i64 v,.int .i64 x,.int .u8 ab],.int .i64 T,.int .i64 V,.int .i64 S]/\r= .bool (decide (aB k th tx I v x ab T V S))
theorem R6(args:List AV)(r r':AV)(h:wP args r)(h':wP args r'):r=r':=by
 obtain⟨k,th,tx,I,v,x,ab,T,V,S,_,rfl,rfl⟩:=h
 obtain⟨k',Qo,tx',at',v',x',aaJ,T',V',S',_,e,rfl⟩:=h'
 simp only[List.cons.injEq,AV.agg.injEq,AV.int.injEq,true_and,_root_.and_true] at e
 obtain⟨⟨rfl,rfl,rfl,rfl,rfl,rfl,rfl⟩,rfl,rfl,rfl⟩:=e
 rfl
noncomputable def Nc:FuncId×(List AV->Option AV):=(57,aY wP)
theorem Ls{I:Int}(h:0<=k):bj (aY wP) [.agg [.int .u8 k,.int .i64 th,.int .i64 tx,.int .i64 I,.int .i64 v,.int .i64 x,.int .u8 ab],.int .i64 T,.int .i64 V,.int .i64 S]=some (.bool (decide (aB k th tx I v x ab T V S))):=
 l3 (mF R6 ⟨k,th,tx,I,v,x,ab,T,V,S,h,rfl,rfl⟩) rfl rfl
theorem Zf(mc:Mc (sp []) 6 B){I:Int}(h:0<=k):bw B 57 (max Tryd.f57.ntmps 4) lx [.agg [.int .u8 k,.int .i64 th,.int .i64 tx,.int .i64 I,.int .i64 v,.int .i64 x,.int .u8 ab],.int .i64 T,.int .i64 V,.int .i64 S] (.bool (decide (aB k th tx I v x ab T V S))):=by
 have hk:k=0\/k=1\/k=2\/k=3\/k=4\/k=5\/k=6\/k=7\/k=8\/k=9\/k=10\/k=11\/k=12\/k=13\/13<k:=by omega
 rcases hk with rfl|rfl|rfl|rfl|rfl|rfl|rfl|rfl|rfl|rfl|rfl|rfl|rfl|rfl|hk
 ·exact Zd mc
 ·exact Ch mc
 ·exact Ci mc
 ·exact Cj mc
 ·exact Cl mc
 ·exact zf mc
 ·exact Cn mc
 ·exact zg mc
 ·exact Co mc
 ·exact zi mc
 ·exact WW mc
 ·exact wO mc
 ·exact BZ mc
 ·exact B0 mc
 ·exact Ze mc hk
def iq(T V S:Int):Prop:=0<=T/\T<=6/\1<=V/\V<=32/\1<=S/\S<=V
instance (T V S:Int):Decidable (iq T V S):=by unfold iq;infer_instance
theorem szT(T V S:Int)(h:iq T V S):AV.bool true= .bool (decide (iq T V S)):=by rw[decide_eq_true h]
theorem szF(T V S:Int)(h:¬iq T V S):AV.bool false= .bool (decide (iq T V S)):=by rw[decide_eq_false h]
def DI(args:List AV)(r:AV):Prop:=∃T V S:Int,args=[.int .i64 T,.int .i64 V,.int .i64 S]/\r= .bool (decide (iq T V S))
theorem Vs(args:List AV)(r r':AV)(h:DI args r)(h':DI args r'):r=r':=by
 obtain⟨T,V,S,rfl,rfl⟩:=h
 obtain⟨T',V',S',e,rfl⟩:=h'
 simp only[List.cons.injEq,AV.int.injEq,true_and,_root_.and_true] at e
 obtain⟨rfl,rfl,rfl⟩:=e
 rfl
noncomputable def Az:FuncId×(List AV->Option AV):=(41,aY DI)
theorem Zg(T V S:Int):bj (aY DI) [.int .i64 T,.int .i64 V,.int .i64 S]=some (.bool (decide (iq T V S))):=l3 (mF Vs ⟨T,V,S,rfl,rfl⟩) rfl rfl
theorem aaK(mc:Mc (sp []) 6 B):bw B 41 (max Tryd.f41.ntmps 3) aaF [(.int .i64 T),(.int .i64 V),(.int .i64 S)] (.bool (decide (iq T V S))):=by
 have f1:=fun h=>szF T V S h
 exact wS mc 900 ((fun(q1:Pl)=>(gC 3 1 (.fk (.go 2 (.fk (.go 3 (.fk (.go 3 (.fk (.go 3 (.fk (.go 4 (.fk (.go 2 q1) (.go 2 q1))) (.go 7 q1))) (.go 11 q1))) (.go 15 q1))) (.go 19 q1))) (.go 22 q1)))) (gG 1)) (U (T>=0) (fun _=>U (T<=6) (fun _=>U (V>=1) (fun _=>U (V<=32) (fun _=>U (S>=1) (fun _=>U (S<=V) (fun _=>szT T V S (by unfold iq;omega)) xq) xq) xq) xq) xq) xq)
end cN
end
