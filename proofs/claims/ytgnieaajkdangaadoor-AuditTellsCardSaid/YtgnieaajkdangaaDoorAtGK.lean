import Derived.Test.YtgnieaajkdangaaDoorAtGJ
set_option maxRecDepth 100000
set_option maxHeartbeats 8000000
set_option linter.unusedSimpArgs false
section
open Go Go.Rn Go.RowKit Go.Proofs
namespace zU
open cd cj cv cD cH cI cN fx rz sE eW uN xz
variable {a:bQ} {S bm cm x:Int} {c:Th} {l:List Int}
theorem rA:jo a=1↔a.last=1\/a.last=3:=by unfold jo aS;(repeat' split)<;>omega
theorem I7:jo a=2↔a.last=2:=by unfold jo aS;(repeat' split)<;>omega
theorem xS:jo a=3↔a.last=4:=by unfold jo aS;(repeat' split)<;>omega
theorem vE:jo a=4↔a.last=5\/a.last=6:=by unfold jo aS;(repeat' split)<;>omega
theorem xT:jo a=5↔¬aS a/\(a.last=7\/a.last=8):=by unfold jo aS;(repeat' split)<;>omega
theorem I8:jo a=6↔¬aS a/\a.last=9:=by unfold jo aS;(repeat' split)<;>omega
theorem AI(h:0<=a.last/\a.last<=13):jo a=7↔¬aS a/\(a.last=10\/a.last=11):=by unfold jo aS;(repeat' split)<;>omega
theorem Qt:jo a=8↔a.last=12:=by unfold jo aS;(repeat' split)<;>omega
theorem n9:jo a=0↔aS a/\a.ab≠6:=by unfold jo aS;(repeat' split)<;>omega
theorem DN:jo a=9↔aS a/\a.ab=6:=by unfold jo aS;(repeat' split)<;>omega
structure bU (a:bQ) (cm S:Int) (t:Th):Prop where
 I:t.I=jo a
 fP:t.cc=cm
 rv:¬aS a->t.rv=a.rv
 wv:(a.last=5\/a.last=6\/a.last=8\/a.last=9\/a.last=7/\a.ao≠[])->t.wv=a.wv
 look:a.last=2->t.bX=(iP a).I/\t.v=(iP a).v
 read:¬aS a->dI t.read a.read
 au:¬aS a->dI t.au (dC a)
 aC:¬aS a->dI t.aC (gb a.aC S)
 m9:(a.last=1\/a.last=2\/a.last=3\/a.last=4)->t.check=0
 ig:(a.last=5\/a.last=6)->dI t.check (dE a)
 iC:¬aS a->t.ao=gQ a.ao
 var:¬aS a->t.gx=gQ a.aC
 full:(a.last=10\/a.last=11)->(t.full=true↔a.ab=6)
 u:u32 t.read/\u32 t.au/\u32 t.aC/\u32 t.check
 sp:0<=t.bX/\t.bX<S
theorem Tc{e:Ev}:(a.L++[e]).getLast?.getD default=e:=by rw[List.getLast?_append];rfl
theorem VW{y:Int}:gb (l++[y]) S=cP (gb l S) (Int.tmod y S):=by unfold gb;rw[List.foldl_append];rfl
theorem Xw:jC (gb l S):=by
 have key:∀(l r:List Int),jC r->jC (l.foldl (fun r v=>cP r (Int.tmod v S)) r):=by
  intro l
  induction l with
  |nil=>exact fun r h=>h
  |cons a l ih=>exact fun r h=>ih _ (Mm h)
 exact key l [] List.Pairwise.nil
theorem Xx:x∈gb l S↔∃y∈l,x=Int.tmod y S:=by
  have key:∀(l r:List Int),x∈l.foldl (fun r v=>cP r (Int.tmod v S)) r↔x∈r\/∃y∈l,x=Int.tmod y S:=by
    intro l
    induction l with
    |nil=>intro r;simp
    | cons a l ih=>
      intro r
      rw[List.foldl_cons,ih,yG]
      constructor
      · rintro ((z|z)|⟨y,h1,h2⟩)
        · exact .inl z
        · exact .inr ⟨a,.head _,z⟩
        · exact .inr ⟨y,.tail _ h1,h2⟩
      · rintro (z|⟨y,h1,h2⟩)
        · exact .inl (.inl z)
        · rcases List.mem_cons.1 h1 with w|w
          · subst w;exact .inl (.inr h2)
          · exact .inr ⟨y,w,h2⟩
  have:=key l []
  simpa[gb] using this
theorem Zq(th tx I v x ab:Int)(d:cf a bm S)(r:bU a cm S c)(hS:0<S/\S<=32):bU ⟨[(⟨1,th,tx,I,v,x,ab⟩:Ev)],v,0,[],[],[],0,[],0,1⟩ cm S {c with I:=1,rv:=v,wv:=0,bX:=0,v:=0,read:=0,au:=0,aC:=0,check:=0,ao:=(-1),gx:=(-1),full:=false}:=by
 exact⟨((rA.2 (.inl rfl)).symm),r.fP,(fun _=>rfl),(fun q=>by have q:((1:Int)=5\/(1:Int)=6\/(1:Int)=8\/(1:Int)=9\/(1:Int)=7/\([]:List Int)≠[]):=q;omega),(nd rfl),(fun _=>dI.nil),(fun _=>dI.nil),(fun _=>dI.nil),(fun _=>rfl),(nd rfl),(fun _=>rfl),(fun _=>rfl),(nd rfl),((show u32 0/\u32 0/\u32 0/\u32 0 from⟨dI.nil.u,dI.nil.u,dI.nil.u,dI.nil.u⟩)),(⟨Int.le_refl 0,hS.1⟩)⟩
theorem Zr(th tx I v x ab:Int)(d:cf a bm S)(r:bU a cm S c)(hS:0<S/\S<=32)(aU:¬aS a)(hl:a.last=1\/a.last=3)(aW:0<=I/\I<S):bU {a with L:=a.L++[(⟨2,th,tx,I,v,x,ab⟩:Ev)],last:=2} cm S {c with I:=2,bX:=I,v:=v}:=by
 exact⟨((I7.2 rfl).symm),r.fP,(fun _=>r.rv aU),(nd rfl),(fun _=>by show I=((a.L++[(⟨2,th,tx,I,v,x,ab⟩:Ev)]).getLast?.getD default).I/\v=((a.L++[(⟨2,th,tx,I,v,x,ab⟩:Ev)]).getLast?.getD default).v;rw[Tc];exact⟨rfl,rfl⟩),(fun _=>r.read aU),(fun _=>r.au aU),(fun _=>r.aC aU),(fun _=>r.m9 J),(nd rfl),(fun _=>r.iC aU),(fun _=>r.var aU),(nd rfl),r.u,aW⟩
theorem Zs(th tx I v x ab:Int)(d:cf a bm S)(r:bU a cm S c)(hS:0<S/\S<=32)(aU:¬aS a)(hl:a.last=2)(hs:Int.tmod I S=c.bX):bU {a with L:=a.L++[(⟨3,th,tx,I,v,x,ab⟩:Ev)],last:=3,read:=cP a.read (Int.tmod I S)} cm S {c with I:=1,read:=(aq .or .u32 c.read (aq .shl .u32 1 c.bX))}:=by
 exact⟨((rA.2 (.inr rfl)).symm),r.fP,(fun _=>r.rv aU),(nd rfl),(nd rfl),(fun _=>(r.read aU).add (by have:=r.sp;omega) fun y=>by show y∈cP a.read (Int.tmod I S)↔_;rw[yG,hs]),(fun _=>r.au aU),(fun _=>r.aC aU),(fun _=>r.m9 J),(nd rfl),(fun _=>r.iC aU),(fun _=>r.var aU),(nd rfl),(⟨B1 _ _,r.u.2⟩),r.sp⟩
theorem Zt(th tx I v x ab:Int)(d:cf a bm S)(r:bU a cm S c)(hS:0<S/\S<=32)(aU:¬aS a)(hl:a.last=1\/a.last=3\/a.last=4)(aW:0<=I/\I<S):bU {a with L:=a.L++[(⟨4,th,tx,I,v,x,ab⟩:Ev)],last:=4,ao:=a.ao++[I]} cm S {c with I:=3,au:=(aq .or .u32 c.au (aq .shl .u32 1 I)),ao:=I}:=by
 exact{
  I:=((xS.2 rfl).symm),
  fP:=(r.fP),
  rv:=(fun _=>r.rv aU),
  wv:=(fun q=>by have q:((4:Int)=5\/(4:Int)=6\/(4:Int)=8\/(4:Int)=9\/(4:Int)=7/\a.ao++[I]≠[]):=q;omega),
  look:=(nd rfl),
  read:=(fun _=>r.read aU),
  au:=(fun _=>by
   have h:=r.au aU
   rw[d.held J] at h
   refine h.add J fun y=>?_
   show y∈(a.ao++[I]).drop a.ax.length↔_
   rw[d.free J]
   show y∈a.ao++[I]↔_
   rw[List.mem_append,List.mem_singleton]),
  aC:=(fun _=>r.aC aU),
  m9:=(fun _=>r.m9 J),
  ig:=(nd rfl),
  iC:=(fun _=>K6.symm),
  var:=(fun _=>r.var aU),
  full:=(nd rfl),
  u:=(⟨r.u.1,B1 _ _,r.u.2.2⟩),
  sp:=(r.sp)}
theorem Xy(th tx I v x ab:Int)(d:cf a bm S)(r:bU a cm S c)(hS:0<S/\S<=32)(aU:¬aS a)(hl:a.last=4)(hv:v≠(c.rv+1)):bU {a with L:=a.L++[(⟨5,th,tx,I,v,x,ab⟩:Ev)],last:=5,wv:=v} cm S {c with I:=4,wv:=v,check:=c.read}:=by
 exact{
  I:=((vE.2 (.inl rfl)).symm),
  fP:=(r.fP),
  rv:=(fun _=>r.rv aU),
  wv:=(fun _=>rfl),
  look:=(nd rfl),
  read:=(fun _=>r.read aU),
  au:=(fun _=>r.au aU),
  aC:=(fun _=>r.aC aU),
  m9:=(nd rfl),
  ig:=(fun _=>by
   show dI c.read (if v=a.rv+1 then[] else a.read.drop a.checked.toNat)
   rw[if_neg (by rw[←r.rv aU];exact hv),d.ck J]
   exact r.read aU),
  iC:=(fun _=>r.iC aU),
  var:=(fun _=>r.var aU),
  full:=(nd rfl),
  u:=(⟨r.u.1,r.u.2.1,r.u.2.2.1,r.u.1⟩),
  sp:=(r.sp)}
theorem Xz(th tx I v x ab:Int)(d:cf a bm S)(r:bU a cm S c)(hS:0<S/\S<=32)(aU:¬aS a)(hl:a.last=4)(hv:¬(v≠(c.rv+1))):bU {a with L:=a.L++[(⟨5,th,tx,I,v,x,ab⟩:Ev)],last:=5,wv:=v} cm S {c with I:=4,wv:=v}:=by
 exact{
  I:=((vE.2 (.inl rfl)).symm),
  fP:=(r.fP),
  rv:=(fun _=>r.rv aU),
  wv:=(fun _=>rfl),
  look:=(nd rfl),
  read:=(fun _=>r.read aU),
  au:=(fun _=>r.au aU),
  aC:=(fun _=>r.aC aU),
  m9:=(nd rfl),
  ig:=(fun _=>by
   show dI c.check (if v=a.rv+1 then[] else a.read.drop a.checked.toNat)
   rw[if_pos (by rw[←r.rv aU];omega),r.m9 J]
   exact dI.nil),
  iC:=(fun _=>r.iC aU),
  var:=(fun _=>r.var aU),
  full:=(nd rfl),
  u:=(r.u),
  sp:=(r.sp)}
theorem yw(d:cf a bm S):jC (dE a):=by
 unfold dE;split
 ·exact List.Pairwise.nil
 ·exact d.rd.drop _
theorem wu(d:cf a bm S):jP S (dE a):=by
 unfold dE;split
 ·exact fun s h=>by cases h
 ·exact d.gM.drop _
theorem Td(d:cf a bm S)(h:(dE a).head?=some x)(b:bQ)(hb:b.wv=a.wv/\b.rv=a.rv/\b.read=a.read/\b.checked=a.checked+1):dE a=x::dE b/\x ∉ dE b:=by
 have e:dE a=x::dE b:=by
  unfold dE at h ⊢
  rw[hb.1,hb.2.1,hb.2.2.1,hb.2.2.2]
  by_cases q:a.wv=a.rv+1
  ·rw[if_pos q] at h;cases h
  ·rw[if_neg q] at h
   rw[if_neg q,if_neg q,show(a.checked+1).toNat=a.checked.toNat+1 by have:=d.kY;omega]
   rw[List.head?_drop] at h
   exact Mn h
 refine⟨e,fun q=>?_⟩
 have:=(yw d).nodup
 rw[e] at this
 exact(List.nodup_cons.1 this).1 q
theorem Zu(th tx I v x ab:Int)(d:cf a bm S)(r:bU a cm S c)(hS:0<S/\S<=32)(aU:¬aS a)(hl:a.last=5\/a.last=6)(aW:0<=I/\I<S)(hh:(dE a).head?=some I):bU {a with L:=a.L++[(⟨6,th,tx,I,v,x,ab⟩:Ev)],last:=6,checked:=a.checked+1} cm S {c with check:=(aq .andNot .u32 c.check (aq .shl .u32 1 I))}:=by
 exact{
  I:=(by show c.I=_;rw[r.I,vE.2 hl];exact(vE.2 (.inr rfl)).symm),
  fP:=(r.fP),
  rv:=(fun _=>r.rv aU),
  wv:=(fun _=>r.wv J),
  look:=(nd rfl),
  read:=(fun _=>r.read aU),
  au:=(fun _=>r.au aU),
  aC:=(fun _=>r.aC aU),
  m9:=(nd rfl),
  ig:=(fun _=>by
   obtain⟨e1,e2⟩:=Td d hh {a with L:=a.L++[(⟨6,th,tx,I,v,x,ab⟩:Ev)],last:=6,checked:=a.checked+1} ⟨rfl,rfl,rfl,rfl⟩
   have h:=r.ig hl
   rw[e1] at h
   refine h.del J fun y=>?_
   rw[List.mem_cons]
   exact⟨fun z=>⟨.inr z,fun w=>e2 xr⟩,fun z=>z.1.resolve_left z.2⟩),
  iC:=(fun _=>r.iC aU),
  var:=(fun _=>r.var aU),
  full:=(nd rfl),
  u:=(⟨r.u.1,r.u.2.1,r.u.2.2.1,tw _ _⟩),
  sp:=(r.sp)}
theorem XA(th tx I v x ab:Int)(d:cf a bm S)(r:bU a cm S c)(hS:0<S/\S<=32)(aU:¬aS a)(hl:a.last=1\/a.last=3):bU {a with L:=a.L++[(⟨7,th,tx,I,v,x,ab⟩:Ev)],last:=7} (cm+1) S {c with I:=0,cc:=(c.cc+1)}:=by
 have dM:aS {a with L:=a.L++[(⟨7,th,tx,I,v,x,ab⟩:Ev)],last:=7}:=.inr (.inr (.inl ⟨rfl,by show a.ao.length=0;rw[d.lo J];rfl⟩))
 exact{
  I:=((n9.2 ⟨dM,by show a.ab≠6;rw[d.wh J];decide⟩).symm),
  fP:=(by show c.cc+1=cm+1;rw[r.fP]),
  rv:=(fun q=>absurd dM q),
  wv:=(fun q=>by
   have q:((7:Int)=5\/(7:Int)=6\/(7:Int)=8\/(7:Int)=9\/(7:Int)=7/\a.ao≠[]):=q
   rcases q with q|q|q|q|q
   ·omega
   ·omega
   ·omega
   ·omega
   ·exact absurd (d.lo J) q.2),
  look:=(nd rfl),
  read:=(fun q=>absurd dM q),
  au:=(fun q=>absurd dM q),
  aC:=(fun q=>absurd dM q),
  m9:=(nd rfl),
  ig:=(nd rfl),
  iC:=(fun q=>absurd dM q),
  var:=(fun q=>absurd dM q),
  full:=(nd rfl),
  u:=(r.u),
  sp:=(r.sp)}
theorem XB(th tx I v x ab:Int)(d:cf a bm S)(r:bU a cm S c)(hS:0<S/\S<=32)(aU:¬aS a)(hl:a.last=5\/a.last=6):bU {a with L:=a.L++[(⟨7,th,tx,I,v,x,ab⟩:Ev)],last:=7} cm S {c with I:=5}:=by
 have hn:¬aS {a with L:=a.L++[(⟨7,th,tx,I,v,x,ab⟩:Ev)],last:=7}:=by
  have h1:a.ao.length≠0:=fun q=>d.hi J (List.eq_nil_of_length_eq_zero q)
  unfold aS;simp only;omega
 exact⟨((xT.2 ⟨hn,.inl rfl⟩).symm),r.fP,(fun _=>r.rv aU),(fun _=>r.wv J),(nd rfl),(fun _=>r.read aU),(fun _=>r.au aU),(fun _=>r.aC aU),(nd rfl),(nd rfl),(fun _=>r.iC aU),(fun _=>r.var aU),(nd rfl),r.u,r.sp⟩
theorem Zv(th tx I v x ab:Int)(d:cf a bm S)(r:bU a cm S c)(hS:0<S/\S<=32)(aU:¬aS a)(hl:a.last=7\/a.last=8)(hm:0<=Int.tmod I S/\Int.tmod I S<S):bU {a with L:=a.L++[(⟨8,th,tx,I,v,x,ab⟩:Ev)],last:=8,aC:=a.aC++[I]} cm S {c with aC:=(aq .or .u32 c.aC (aq .shl .u32 1 (Int.tmod I S))),gx:=I}:=by
  have hn:¬aS {a with L:=a.L++[(⟨8,th,tx,I,v,x,ab⟩:Ev)],last:=8,aC:=a.aC++[I]}:=by unfold aS;simp only;omega
  exact {
    I :=(by
      show c.I=_
      rw[r.I,xT.2 ⟨aU,hl⟩]
      exact(xT.2 ⟨hn,.inr rfl⟩).symm),
    fP:=(r.fP),
    rv:=(fun _=>r.rv aU),
    wv:=(fun _=>r.wv (by
      rcases hl with q|q
      · refine .inr (.inr (.inr (.inr ⟨q,fun z=>aU ?_⟩)))
        exact .inr (.inr (.inl ⟨q,by rw[z];rfl⟩))
      · omega)),
    look:=(nd rfl),
    read:=(fun _=>r.read aU),
    au:=(fun _=>r.au aU),
    aC:=(fun _=>(r.aC aU).add J fun y=>by show y∈gb (a.aC++[I]) S↔_;rw[VW,yG]),
    m9:=(nd rfl),
    ig:=(nd rfl),
    iC:=(fun _=>r.iC aU),
    var:=(fun _=>K6.symm),
    full:=(nd rfl),
    u:=(⟨r.u.1,r.u.2.1,B1 _ _,r.u.2.2.2⟩),
    sp:=(r.sp)}
theorem XC(th tx I v x ab:Int)(d:cf a bm S)(r:bU a cm S c)(hS:0<S/\S<=32)(aU:¬aS a)(aW:0<=I/\I<S)(hh:a.ao[a.ax.length]? =some I)(hl:a.last=7\/a.last=8\/a.last=9)(h0:(aq .andNot .u32 c.au (aq .shl .u32 1 I))=0):bU {a with L:=a.L++[(⟨9,th,tx,I,v,x,ab⟩:Ev)],last:=9,ax:=a.ax++[I]} (cm+1) S {c with I:=0,cc:=(c.cc+1),au:=(aq .andNot .u32 c.au (aq .shl .u32 1 I))}:=by
  obtain⟨e1,e2⟩:=vS d hh
  have fZ:=(d.gZ.drop a.ax.length).mono hS.2
  have hB:dI (aq .andNot .u32 c.au (aq .shl .u32 1 I)) (dC {a with L:=a.L++[(⟨9,th,tx,I,v,x,ab⟩:Ev)],last:=9,ax:=a.ax++[I]}):=by
    have h:=r.au aU
    rw[e1] at h
    refine h.del (by have:=hS.2;omega) fun y=>?_
    show y∈a.ao.drop (a.ax++[I]).length↔_
    rw[List.length_append,List.length_cons,List.length_nil,List.mem_cons]
    exact⟨fun z=>⟨.inr z,fun w=>e2 xr⟩,fun z=>z.1.resolve_left z.2⟩
  have hz:aq .andNot .u32 c.au (aq .shl .u32 1 I)=0↔(a.ax++[I]).length=a.ao.length:=by
    have hI:jP 32 (dC {a with L:=a.L++[(⟨9,th,tx,I,v,x,ab⟩:Ev)],last:=9,ax:=a.ax++[I]}):=fun s hs=>fZ s (by
      have:dC {a with L:=a.L++[(⟨9,th,tx,I,v,x,ab⟩:Ev)],last:=9,ax:=a.ax++[I]}=a.ao.drop (a.ax.length+1):=by show a.ao.drop (a.ax++[I]).length=_;rw[List.length_append];rfl
      rw[this] at hs
      show s∈dC a
      rw[e1];exact .tail _ hs)
    refine(hB.zero hI).trans ?_
    show a.ao.drop (a.ax++[I]).length=[]↔_
    rw[List.drop_eq_nil_iff]
    have:=(List.getElem?_eq_some_iff.1 hh).1
    rw[List.length_append,List.length_cons,List.length_nil];omega
  have dM:aS {a with L:=a.L++[(⟨9,th,tx,I,v,x,ab⟩:Ev)],last:=9,ax:=a.ax++[I]}:=.inr (.inr (.inr (.inl ⟨.inl rfl,hz.1 h0⟩)))
  exact {
    I:=((n9.2 ⟨dM,by show a.ab≠6;rw[d.wh J];decide⟩).symm),
    fP:=(by show c.cc+1=cm+1;rw[r.fP]),
    rv:=(fun q=>absurd dM q),
    wv:=(fun _=>r.wv (by
      rcases hl with q|q|q
      · refine .inr (.inr (.inr (.inr ⟨q,fun z=>aU ?_⟩)))
        exact .inr (.inr (.inl ⟨q,by rw[z];rfl⟩))
      · omega
      · omega)),
    look:=(nd rfl),
    read:=(fun q=>absurd dM q),
    au:=(fun q=>absurd dM q),
    aC:=(fun q=>absurd dM q),
    m9:=(nd rfl),
    ig:=(nd rfl),
    iC:=(fun q=>absurd dM q),
    var:=(fun q=>absurd dM q),
    full:=(nd rfl),
    u:=(⟨r.u.1,tw _ _,r.u.2.2⟩),
    sp:=(r.sp)}
theorem XD(th tx I v x ab:Int)(d:cf a bm S)(r:bU a cm S c)(hS:0<S/\S<=32)(aU:¬aS a)(aW:0<=I/\I<S)(hh:a.ao[a.ax.length]? =some I)(hl:a.last=7\/a.last=8\/a.last=9)(h0:¬((aq .andNot .u32 c.au (aq .shl .u32 1 I))=0)):bU {a with L:=a.L++[(⟨9,th,tx,I,v,x,ab⟩:Ev)],last:=9,ax:=a.ax++[I]} cm S {c with I:=6,au:=(aq .andNot .u32 c.au (aq .shl .u32 1 I))}:=by
  obtain⟨e1,e2⟩:=vS d hh
  have fZ:=(d.gZ.drop a.ax.length).mono hS.2
  have hB:dI (aq .andNot .u32 c.au (aq .shl .u32 1 I)) (dC {a with L:=a.L++[(⟨9,th,tx,I,v,x,ab⟩:Ev)],last:=9,ax:=a.ax++[I]}):=by
    have h:=r.au aU
    rw[e1] at h
    refine h.del (by have:=hS.2;omega) fun y=>?_
    show y∈a.ao.drop (a.ax++[I]).length↔_
    rw[List.length_append,List.length_cons,List.length_nil,List.mem_cons]
    exact⟨fun z=>⟨.inr z,fun w=>e2 xr⟩,fun z=>z.1.resolve_left z.2⟩
  have hz:aq .andNot .u32 c.au (aq .shl .u32 1 I)=0↔(a.ax++[I]).length=a.ao.length:=by
    have hI:jP 32 (dC {a with L:=a.L++[(⟨9,th,tx,I,v,x,ab⟩:Ev)],last:=9,ax:=a.ax++[I]}):=fun s hs=>fZ s (by
      have:dC {a with L:=a.L++[(⟨9,th,tx,I,v,x,ab⟩:Ev)],last:=9,ax:=a.ax++[I]}=a.ao.drop (a.ax.length+1):=by show a.ao.drop (a.ax++[I]).length=_;rw[List.length_append];rfl
      rw[this] at hs
      show s∈dC a
      rw[e1];exact .tail _ hs)
    refine(hB.zero hI).trans ?_
    show a.ao.drop (a.ax++[I]).length=[]↔_
    rw[List.drop_eq_nil_iff]
    have:=(List.getElem?_eq_some_iff.1 hh).1
    rw[List.length_append,List.length_cons,List.length_nil];omega
  have hn:¬aS {a with L:=a.L++[(⟨9,th,tx,I,v,x,ab⟩:Ev)],last:=9,ax:=a.ax++[I]}:=by
    have:=fun q=>h0 (hz.2 q)
    unfold aS;simp only;omega
  exact {
    I:=((I8.2 ⟨hn,rfl⟩).symm),
    fP:=(r.fP),
    rv:=(fun _=>r.rv aU),
    wv:=(fun _=>r.wv (by
      rcases hl with q|q|q
      · refine .inr (.inr (.inr (.inr ⟨q,fun z=>aU ?_⟩)))
        exact .inr (.inr (.inl ⟨q,by rw[z];rfl⟩))
      · omega
      · omega)),
    look:=(nd rfl),
    read:=(fun _=>r.read aU),
    au:=(fun _=>hB),
    aC:=(fun _=>r.aC aU),
    m9:=(nd rfl),
    ig:=(nd rfl),
    iC:=(fun _=>r.iC aU),
    var:=(fun _=>r.var aU),
    full:=(nd rfl),
    u:=(⟨r.u.1,tw _ _,r.u.2.2⟩),
    sp:=(r.sp)}
theorem yH(th tx I v x ab:Int)(d:cf a bm S)(r:bU a cm S c)(hS:0<S/\S<=32)(aU:¬aS a)(hl:a.last=1\/a.last=3\/a.last=2\/a.last=4\/a.last=5\/a.last=6)(hw:ab≠6)(h0:c.au=0):bU {a with L:=a.L++[(⟨10,th,tx,I,v,x,ab⟩:Ev)],last:=10,ab:=ab} cm S {c with I:=0,full:=false}:=by
 have h7:a.last≠9/\a.last≠11:=by omega
 have hz:c.au=0↔a.ao.length=0:=by
  have h:=r.au aU
  rw[d.held h7] at h
  exact(h.zero (d.gZ.mono hS.2)).trans List.length_eq_zero_iff.symm
 have dM:aS {a with L:=a.L++[(⟨10,th,tx,I,v,x,ab⟩:Ev)],last:=10,ab:=ab}:=.inr (.inr (.inr (.inr ⟨rfl,hz.1 h0⟩)))
 exact⟨((n9.2 ⟨dM,hw⟩).symm),r.fP,(fun q=>absurd dM q),(nd rfl),(nd rfl),(fun q=>absurd dM q),(fun q=>absurd dM q),(fun q=>absurd dM q),(nd rfl),(nd rfl),(fun q=>absurd dM q),(fun q=>absurd dM q),(fun _=>⟨(fun q=>by cases q),fun q=>absurd (show ab=6 from q) hw⟩),r.u,r.sp⟩
theorem yx(th tx I v x ab:Int)(d:cf a bm S)(r:bU a cm S c)(hS:0<S/\S<=32)(aU:¬aS a)(hl:a.last=1\/a.last=3\/a.last=2\/a.last=4\/a.last=5\/a.last=6)(hw:ab≠6)(h0:¬(c.au=0)):bU {a with L:=a.L++[(⟨10,th,tx,I,v,x,ab⟩:Ev)],last:=10,ab:=ab} cm S {c with I:=7,full:=false}:=by
 have h7:a.last≠9/\a.last≠11:=by omega
 have hz:c.au=0↔a.ao.length=0:=by
  have h:=r.au aU
  rw[d.held h7] at h
  exact(h.zero (d.gZ.mono hS.2)).trans List.length_eq_zero_iff.symm
 have hn:¬aS {a with L:=a.L++[(⟨10,th,tx,I,v,x,ab⟩:Ev)],last:=10,ab:=ab}:=by
  have:=fun q=>h0 (hz.2 q)
  unfold aS;simp only;omega
 exact⟨(((AI ⟨by show(0:Int)<=10;decide,by show(10:Int)<=13;decide⟩).2 ⟨hn,.inl rfl⟩).symm),r.fP,(fun _=>r.rv aU),(nd rfl),(nd rfl),(fun _=>r.read aU),(fun _=>r.au aU),(fun _=>r.aC aU),(nd rfl),(nd rfl),(fun _=>r.iC aU),(fun _=>r.var aU),(fun _=>⟨(fun q=>by cases q),fun q=>absurd (show ab=6 from q) hw⟩),r.u,r.sp⟩
theorem UC(th tx I v x ab:Int)(d:cf a bm S)(r:bU a cm S c)(hS:0<S/\S<=32)(aU:¬aS a)(hl:a.last=1\/a.last=3\/a.last=2\/a.last=4\/a.last=5\/a.last=6)(hw:ab=6)(h4:a.last=4)(h0:¬(c.au=0)):bU {a with L:=a.L++[(⟨10,th,tx,I,v,x,ab⟩:Ev)],last:=10,ab:=ab} cm S {c with I:=7,full:=true}:=by
 have h7:a.last≠9/\a.last≠11:=by omega
 have hz:c.au=0↔a.ao.length=0:=by
  have h:=r.au aU
  rw[d.held h7] at h
  exact(h.zero (d.gZ.mono hS.2)).trans List.length_eq_zero_iff.symm
 have hn:¬aS {a with L:=a.L++[(⟨10,th,tx,I,v,x,ab⟩:Ev)],last:=10,ab:=ab}:=by
  have:=fun q=>h0 (hz.2 q)
  unfold aS;simp only;omega
 exact⟨(((AI ⟨by show(0:Int)<=10;decide,by show(10:Int)<=13;decide⟩).2 ⟨hn,.inl rfl⟩).symm),r.fP,(fun _=>r.rv aU),(nd rfl),(nd rfl),(fun _=>r.read aU),(fun _=>r.au aU),(fun _=>r.aC aU),(nd rfl),(nd rfl),(fun _=>r.iC aU),(fun _=>r.var aU),(fun _=>⟨fun _=>hw,fun _=>rfl⟩),r.u,r.sp⟩
theorem VX(th tx I v x ab:Int)(d:cf a bm S)(r:bU a cm S c)(hS:0<S/\S<=32)(aU:¬aS a)(aW:0<=I/\I<S)(hh:a.ao[a.ax.length]? =some I)(hl:a.last=10\/a.last=11)(h0:(aq .andNot .u32 c.au (aq .shl .u32 1 I))=0)(hf:c.full=true):bU {a with L:=a.L++[(⟨11,th,tx,I,v,x,ab⟩:Ev)],last:=11,ax:=a.ax++[I]} cm S {c with I:=9,au:=(aq .andNot .u32 c.au (aq .shl .u32 1 I))}:=by
 obtain⟨e1,e2⟩:=vS d hh
 have fZ:=(d.gZ.drop a.ax.length).mono hS.2
 have hB:dI (aq .andNot .u32 c.au (aq .shl .u32 1 I)) (dC {a with L:=a.L++[(⟨11,th,tx,I,v,x,ab⟩:Ev)],last:=11,ax:=a.ax++[I]}):=by
  have h:=r.au aU
  rw[e1] at h
  refine h.del (by have:=hS.2;omega) fun y=>?_
  show y∈a.ao.drop (a.ax++[I]).length↔_
  rw[List.length_append,List.length_cons,List.length_nil,List.mem_cons]
  exact⟨fun z=>⟨.inr z,fun w=>e2 xr⟩,fun z=>z.1.resolve_left z.2⟩
 have hz:aq .andNot .u32 c.au (aq .shl .u32 1 I)=0↔(a.ax++[I]).length=a.ao.length:=by
  have hI:jP 32 (dC {a with L:=a.L++[(⟨11,th,tx,I,v,x,ab⟩:Ev)],last:=11,ax:=a.ax++[I]}):=fun s hs=>fZ s (by
   have:dC {a with L:=a.L++[(⟨11,th,tx,I,v,x,ab⟩:Ev)],last:=11,ax:=a.ax++[I]}=a.ao.drop (a.ax.length+1):=by show a.ao.drop (a.ax++[I]).length=_;rw[List.length_append];rfl
   rw[this] at hs
   show s∈dC a
   rw[e1];exact .tail _ hs)
  refine(hB.zero hI).trans ?_
  show a.ao.drop (a.ax++[I]).length=[]↔_
  rw[List.drop_eq_nil_iff]
  have:=(List.getElem?_eq_some_iff.1 hh).1
  rw[List.length_append,List.length_cons,List.length_nil];omega
 have dM:aS {a with L:=a.L++[(⟨11,th,tx,I,v,x,ab⟩:Ev)],last:=11,ax:=a.ax++[I]}:=.inr (.inr (.inr (.inl ⟨.inr rfl,hz.1 h0⟩)))
 exact⟨((DN.2 ⟨dM,(r.full hl).1 hf⟩).symm),r.fP,(fun q=>absurd dM q),(nd rfl),(nd rfl),(fun q=>absurd dM q),(fun q=>absurd dM q),(fun q=>absurd dM q),(nd rfl),(nd rfl),(fun q=>absurd dM q),(fun q=>absurd dM q),(fun _=>r.full hl),(⟨r.u.1,tw _ _,r.u.2.2⟩),r.sp⟩
theorem VY(th tx I v x ab:Int)(d:cf a bm S)(r:bU a cm S c)(hS:0<S/\S<=32)(aU:¬aS a)(aW:0<=I/\I<S)(hh:a.ao[a.ax.length]? =some I)(hl:a.last=10\/a.last=11)(h0:(aq .andNot .u32 c.au (aq .shl .u32 1 I))=0)(hf:c.full=false):bU {a with L:=a.L++[(⟨11,th,tx,I,v,x,ab⟩:Ev)],last:=11,ax:=a.ax++[I]} cm S {c with I:=0,au:=(aq .andNot .u32 c.au (aq .shl .u32 1 I))}:=by
 obtain⟨e1,e2⟩:=vS d hh
 have fZ:=(d.gZ.drop a.ax.length).mono hS.2
 have hB:dI (aq .andNot .u32 c.au (aq .shl .u32 1 I)) (dC {a with L:=a.L++[(⟨11,th,tx,I,v,x,ab⟩:Ev)],last:=11,ax:=a.ax++[I]}):=by
  have h:=r.au aU
  rw[e1] at h
  refine h.del (by have:=hS.2;omega) fun y=>?_
  show y∈a.ao.drop (a.ax++[I]).length↔_
  rw[List.length_append,List.length_cons,List.length_nil,List.mem_cons]
  exact⟨fun z=>⟨.inr z,fun w=>e2 xr⟩,fun z=>z.1.resolve_left z.2⟩
 have hz:aq .andNot .u32 c.au (aq .shl .u32 1 I)=0↔(a.ax++[I]).length=a.ao.length:=by
  have hI:jP 32 (dC {a with L:=a.L++[(⟨11,th,tx,I,v,x,ab⟩:Ev)],last:=11,ax:=a.ax++[I]}):=fun s hs=>fZ s (by
   have:dC {a with L:=a.L++[(⟨11,th,tx,I,v,x,ab⟩:Ev)],last:=11,ax:=a.ax++[I]}=a.ao.drop (a.ax.length+1):=by show a.ao.drop (a.ax++[I]).length=_;rw[List.length_append];rfl
   rw[this] at hs
   show s∈dC a
   rw[e1];exact .tail _ hs)
  refine(hB.zero hI).trans ?_
  show a.ao.drop (a.ax++[I]).length=[]↔_
  rw[List.drop_eq_nil_iff]
  have:=(List.getElem?_eq_some_iff.1 hh).1
  rw[List.length_append,List.length_cons,List.length_nil];omega
 have dM:aS {a with L:=a.L++[(⟨11,th,tx,I,v,x,ab⟩:Ev)],last:=11,ax:=a.ax++[I]}:=.inr (.inr (.inr (.inl ⟨.inr rfl,hz.1 h0⟩)))
 exact⟨((n9.2 ⟨dM,fun q=>by rw[(r.full hl).2 q] at hf;cases hf⟩).symm),r.fP,(fun q=>absurd dM q),(nd rfl),(nd rfl),(fun q=>absurd dM q),(fun q=>absurd dM q),(fun q=>absurd dM q),(nd rfl),(nd rfl),(fun q=>absurd dM q),(fun q=>absurd dM q),(fun _=>r.full hl),(⟨r.u.1,tw _ _,r.u.2.2⟩),r.sp⟩
theorem VZ(th tx I v x ab:Int)(d:cf a bm S)(r:bU a cm S c)(hS:0<S/\S<=32)(aU:¬aS a)(aW:0<=I/\I<S)(hh:a.ao[a.ax.length]? =some I)(hl:a.last=10\/a.last=11)(h0:¬((aq .andNot .u32 c.au (aq .shl .u32 1 I))=0)):bU {a with L:=a.L++[(⟨11,th,tx,I,v,x,ab⟩:Ev)],last:=11,ax:=a.ax++[I]} cm S {c with au:=(aq .andNot .u32 c.au (aq .shl .u32 1 I))}:=by
  obtain⟨e1,e2⟩:=vS d hh
  have fZ:=(d.gZ.drop a.ax.length).mono hS.2
  have hB:dI (aq .andNot .u32 c.au (aq .shl .u32 1 I)) (dC {a with L:=a.L++[(⟨11,th,tx,I,v,x,ab⟩:Ev)],last:=11,ax:=a.ax++[I]}):=by
    have h:=r.au aU
    rw[e1] at h
    refine h.del (by have:=hS.2;omega) fun y=>?_
    show y∈a.ao.drop (a.ax++[I]).length↔_
    rw[List.length_append,List.length_cons,List.length_nil,List.mem_cons]
    exact⟨fun z=>⟨.inr z,fun w=>e2 xr⟩,fun z=>z.1.resolve_left z.2⟩
  have hz:aq .andNot .u32 c.au (aq .shl .u32 1 I)=0↔(a.ax++[I]).length=a.ao.length:=by
    have hI:jP 32 (dC {a with L:=a.L++[(⟨11,th,tx,I,v,x,ab⟩:Ev)],last:=11,ax:=a.ax++[I]}):=fun s hs=>fZ s (by
      have:dC {a with L:=a.L++[(⟨11,th,tx,I,v,x,ab⟩:Ev)],last:=11,ax:=a.ax++[I]}=a.ao.drop (a.ax.length+1):=by show a.ao.drop (a.ax++[I]).length=_;rw[List.length_append];rfl
      rw[this] at hs
      show s∈dC a
      rw[e1];exact .tail _ hs)
    refine(hB.zero hI).trans ?_
    show a.ao.drop (a.ax++[I]).length=[]↔_
    rw[List.drop_eq_nil_iff]
    have:=(List.getElem?_eq_some_iff.1 hh).1
    rw[List.length_append,List.length_cons,List.length_nil];omega
  have hn:¬aS {a with L:=a.L++[(⟨11,th,tx,I,v,x,ab⟩:Ev)],last:=11,ax:=a.ax++[I]}:=by
    have:=fun q=>h0 (hz.2 q)
    unfold aS;simp only;omega
  exact{
    I :=(by
      show c.I=_
      rw[r.I,(AI d.la).2 ⟨aU,hl⟩]
      exact((AI ⟨by show(0:Int)<=11;decide,by show(11:Int)<=13;decide⟩).2 ⟨hn,.inr rfl⟩).symm),
    fP:=(r.fP),
    rv:=(fun _=>r.rv aU),
    wv:=(nd rfl),
    look:=(nd rfl),
    read:=(fun _=>r.read aU),
    au:=(fun _=>hB),
    aC:=(fun _=>r.aC aU),
    m9:=(nd rfl),
    ig:=(nd rfl),
    iC:=(fun _=>r.iC aU),
    var:=(fun _=>r.var aU),
    full:=(fun _=>r.full hl),
    u:=(⟨r.u.1,tw _ _,r.u.2.2⟩),
    sp:=(r.sp)}
theorem XE(th tx I v x ab:Int)(d:cf a bm S)(r:bU a cm S c)(hS:0<S/\S<=32)(aU:¬aS a):bU {a with L:=a.L++[(⟨12,th,tx,I,v,x,ab⟩:Ev)],last:=12} cm S {c with I:=8}:=by
 exact⟨((Qt.2 rfl).symm),r.fP,(fun _=>r.rv aU),(nd rfl),(nd rfl),(fun _=>r.read aU),(fun _=>r.au aU),(fun _=>r.aC aU),(nd rfl),(nd rfl),(fun _=>r.iC aU),(fun _=>r.var aU),(nd rfl),r.u,r.sp⟩
theorem XF(th tx I v x ab:Int)(d:cf a bm S)(r:bU a cm S c)(hS:0<S/\S<=32)(aU:¬aS a)(hl:a.last=12):bU {a with L:=a.L++[(⟨13,th,tx,I,v,x,ab⟩:Ev)],last:=13} cm S {c with I:=0}:=by
 have dM:aS {a with L:=a.L++[(⟨13,th,tx,I,v,x,ab⟩:Ev)],last:=13}:=.inr (.inl rfl)
 exact⟨((n9.2 ⟨dM,by show a.ab≠6;rw[d.wh J];decide⟩).symm),r.fP,(fun q=>absurd dM q),(nd rfl),(nd rfl),(fun q=>absurd dM q),(fun q=>absurd dM q),(fun q=>absurd dM q),(nd rfl),(nd rfl),(fun q=>absurd dM q),(fun q=>absurd dM q),(nd rfl),r.u,r.sp⟩
end zU
end
section
open Go Go.Rn Go.RowKit Go.Proofs
namespace zV
open cd cj cv cD cH cI cN gw eW fy fm fA
noncomputable section
def WC(ah:List Sr)(c:Th)(s:Int):Prop:=aq .and .u32 (aq .shr .u32 c.read s) 1=1/\(gl ah s).owner= -1/\c.rv<(gl ah s).version
def ln(nS:Nat)(ah:List Sr)(c:Th):Prop:=c.I=8/\∃s:Int,0<=s/\s<(nS:Int)/\WC ah c s
def AJ(n o len m p lo nT nS:Nat)(T V S:Int)(aj:List Th)(ah:List Sr)(c:Th)(ak an i th tx I v x ab:Int):Tr aE:=nU (ay++[(270,some (.cells 4 (Tr.fill (bK T V S n o len) 0 .nil) [])),(271,(some (aD dc aj))),(273,(some (aD nM ah))),(274,some (.cells 5 (Tr.fill [(.int .i64 V),(.int .i64 ak),(.int .i64 an),(.slice (some (271,0)) nT (.known nT)),(.slice (some (273,0)) nS (.known nS))] 0 .nil) [])),(275,some (.cells 7 (Tr.fill (bn (.ofNat 13) th tx I v x ab) 0 .nil) [])),(276,some (.cells 7 (Tr.fill (bn (.ofNat 13) th tx I v x ab) 0 .nil) [])),(277,some (.cells 14 (Tr.fill [.nilFunc,(.func (.func 27) [] []),(.func (.func 28) [] []),(.func (.func 29) [] []),(.func (.func 30) [] []),(.func (.func 31) [] []),(.func (.func 32) [] []),(.func (.func 33) [] []),(.func (.func 34) [] []),(.func (.func 35) [] []),(.func (.func 36) [] []),(.func (.func 37) [] []),(.func (.func 38) [] []),(.func (.func 39) [] [])] 0 .nil) []))])
def AK(n o len m p lo nT nS:Nat)(T V S:Int)(aj:List Th)(ah:List Sr)(c:Th)(ak an i th tx I v x ab:Int):Tr aE:=pd (AJ n o len m p lo nT nS T V S aj ah c ak an i th tx I v x ab) [(278,some (.cells 7 (Tr.fill (bn (.ofNat 13) th tx I v x ab) 0 .nil) [])),(271,(some (aD dc (aj.set th.toNat {c with I:=0}))))]
def ql(n o len m p lo nT nS:Nat)(T V S:Int)(aj:List Th)(ah:List Sr)(c:Th)(ak an i th tx I v x ab:Int):Tr aE:=pd (AJ n o len m p lo nT nS T V S aj ah c ak an i th tx I v x ab) [(278,some (.cells 7 (Tr.fill (bn (.ofNat 13) th tx I v x ab) 0 .nil) []))]
def AL(n o len m p lo nT nS:Nat)(T V S:Int)(aj:List Th)(ah:List Sr)(c:Th)(ak an i th tx I v x ab:Int)(g:Nat->AV)(s:Int):AF:=⟨39,(eS [(0,(.ptr (some (274,0)))),(1,(.ptr (some (271,th.toNat*13+0)))),(2,(.agg (bn (.ofNat 13) th tx I v x ab))),(5,(.ptr (some (278,0)))),(6,(.bool false)),(7,(g 7)),(8,(.ptr (some (271,th.toNat*13+0)))),(9,(.ptr (some (271,th.toNat*13+0)))),(10,(.ptr (some (271,th.toNat*13+0)))),(11,(.int .i64 c.I)),(12,(.bool false)),(13,(.ptr (some (274,0)))),(14,(.ptr (some (274,0)))),(15,(.ptr (some (274,4)))),(16,(.slice (some (273,0)) nS (.known nS))),(17,(.int .i64 ((nS:Int)))),(18,(.int .i64 s)),(19,(g 19)),(20,(g 20)),(21,(g 21)),(22,(g 22)),(23,(g 23)),(24,(g 24)),(25,(g 25)),(26,(g 26)),(27,(g 27)),(28,(g 28)),(29,(g 29)),(30,(g 30)),(31,(g 31)),(32,(g 32)),(33,(g 33)),(34,(g 34)),(35,(g 35)),(36,(g 36)),(37,(g 37)),(38,(g 38)),(39,(g 39)),(43,(g 43))]),44,[.code (aO Tryd.prog 39 [1,1,0,1,0,0]),.inLoop (aO Tryd.prog 39 [1,1,0,1,0,0]),.inBlock 0,.code (aO Tryd.prog 39 [1,1,1])],[],none⟩
def Cr(n o len m p lo nT nS:Nat)(T V S:Int)(aj:List Th)(ah:List Sr)(c:Th)(ak an i th tx I v x ab:Int)(v1:AV)(st:AS):Prop:=(v1= .bool true/\ln nS ah c/\st.h=AK n o len m p lo nT nS T V S aj ah c ak an i th tx I v x ab/\st.nx=279/\st.mark=278/\iF [274,273,271] st.rd=true/\iF [271] st.wr=true)\/(v1= .bool false/\¬ln nS ah c/\st.h=ql n o len m p lo nT nS T V S aj ah c ak an i th tx I v x ab/\st.nx=279/\st.mark=278/\iF [274,273,271] st.rd=true/\iF [271] st.wr=true)
def Po(n o len m p lo nT nS:Nat)(T V S:Int)(aj:List Th)(ah:List Sr)(c:Th)(ak an i th tx I v x ab:Int)(s0:Int):bz:=fun fr st _=>∃(g:Nat->AV) (s:Int),fr=AL n o len m p lo nT nS T V S aj ah c ak an i th tx I v x ab g s/\st.h=ql n o len m p lo nT nS T V S aj ah c ak an i th tx I v x ab/\st.nx=279/\st.mark=278/\iF [274,273,271] st.rd=true/\st.wr=[]/\s0<s/\0<=s/\s<=(nS:Int)/\c.I=8/\∀j:Int,0<=j->j<s->¬WC ah c j
end
theorem xU{ah:List Sr}{c:Th}(s:Int)(h:∀j:Int,0<=j->j<s->¬WC ah c j)(hs:¬WC ah c s):∀j:Int,0<=j->j<s+1->¬WC ah c j:=fun j j1 j2=>by
 by_cases q:j=s
 ·rw[q];exact hs
 ·exact h j j1 J
theorem Qu(n o len m p lo nT nS:Nat)(T V S:Int)(aj:List Th)(ah:List Sr)(c:Th)(ak an i th tx I v x ab:Int)(r:List Nat)(ha:ln nS ah c)(hr:iF [274,273,271] r=true):(AV.bool true= .bool true/\ln nS ah c/\AK n o len m p lo nT nS T V S aj ah c ak an i th tx I v x ab=AK n o len m p lo nT nS T V S aj ah c ak an i th tx I v x ab/\279=279/\278=278/\iF [274,273,271] r=true/\iF [271] [271]=true)\/(AV.bool true= .bool false/\¬ln nS ah c/\AK n o len m p lo nT nS T V S aj ah c ak an i th tx I v x ab=ql n o len m p lo nT nS T V S aj ah c ak an i th tx I v x ab/\279=279/\278=278/\iF [274,273,271] r=true/\iF [271] [271]=true):=.inl ⟨rfl,ha,rfl,rfl,rfl,hr,rfl⟩
theorem I9(n o len m p lo nT nS:Nat)(T V S:Int)(aj:List Th)(ah:List Sr)(c:Th)(ak an i th tx I v x ab:Int)(r:List Nat)(ha:¬ln nS ah c)(hr:iF [274,273,271] r=true):(AV.bool false= .bool true/\ln nS ah c/\ql n o len m p lo nT nS T V S aj ah c ak an i th tx I v x ab=AK n o len m p lo nT nS T V S aj ah c ak an i th tx I v x ab/\279=279/\278=278/\iF [274,273,271] r=true/\iF [271] []=true)\/(AV.bool false= .bool false/\¬ln nS ah c/\ql n o len m p lo nT nS T V S aj ah c ak an i th tx I v x ab=ql n o len m p lo nT nS T V S aj ah c ak an i th tx I v x ab/\279=279/\278=278/\iF [274,273,271] r=true/\iF [271] []=true):=.inr ⟨rfl,ha,rfl,rfl,rfl,hr,rfl⟩
theorem xA(n o len m p lo nT nS:Nat)(T V S:Int)(aj:List Th)(ah:List Sr)(c:Th)(ak an i th tx I v x ab:Int)(s0:Int)(g:Nat->AV)(s:Int)(r:List Nat)(hr:iF [274,273,271] r=true)(h1:s0<s)(h2:0<=s)(h3:s<=(nS:Int))(ha:c.I=8)(hj:∀j:Int,0<=j->j<s->¬WC ah c j):∃(g':Nat->AV) (s':Int),AL n o len m p lo nT nS T V S aj ah c ak an i th tx I v x ab g s=AL n o len m p lo nT nS T V S aj ah c ak an i th tx I v x ab g' s'/\ql n o len m p lo nT nS T V S aj ah c ak an i th tx I v x ab=ql n o len m p lo nT nS T V S aj ah c ak an i th tx I v x ab/\279=279/\278=278/\iF [274,273,271] r=true/\([]:List Nat)=[]/\s0<s'/\0<=s'/\s'<=(nS:Int)/\c.I=8/\∀j:Int,0<=j->j<s'->¬WC ah c j:=⟨g,s,rfl,rfl,rfl,rfl,hr,rfl,h1,h2,h3,ha,hj⟩
section
variable {n o len m p lo nT nS:Nat} {T V S:Int} {aj:List Th} {ah:List Sr} {c:Th} {ak an i th tx I v x ab:Int}
theorem round(aH:aj.length*13<=top)(bA:ah.length*2<=top)(nr:ah.length=nS)(de:nS<=32)(jD:aj[th.toNat]? =some c)(aW:c.I=8){g:Nat->AV}{s s0:Int}(hs:0<=s)(pv:s<=(nS:Int))(h0:s0=s)(eF:∀j:Int,0<=j->j<s->¬WC ah c j){r:List Nat}(hr:iF [274,273,271] r=true)(H:∀fr st pl,Po n o len m p lo nT nS T V S aj ah c ak an i th tx I v x ab s fr st pl->gT (fK Tryd.prog 270 eg eD LN) 4 C7 (Cr n o len m p lo nT nS T V S aj ah c ak an i th tx I v x ab) fr st):gT (fK Tryd.prog 270 eg eD LN) 4 C7 (Cr n o len m p lo nT nS T V S aj ah c ak an i th tx I v x ab) (AL n o len m p lo nT nS T V S aj ah c ak an i th tx I v x ab g s) ⟨ql n o len m p lo nT nS T V S aj ah c ak an i th tx I v x ab,279,278,r,[]⟩:=by
 exact qR nA rfl H 2000 ((fun(q1:Pl)=>(gJ 1 (.fk (gB 8 3 (.ld [(.int .u32 c.read)] (.go 1 (.sh (.go 1 (.fk (.go 3 (.il (gC 3 5 (.ix (.go 1 (.ld [(.int .i64 ((gl ah s).owner))] (.fk (gH 1 1 (.go 5 (.il (gC 3 5 (.ix (.go 1 (.ld [(.int .i64 ((gl ah s).version))] (.go 3 (.ld [(.int .i64 c.rv)] (.fk (gH 1 1 (gA 1 2 3 (.dj (aD dc (aj.set th.toNat {c with I:=0})) (gG 3)))) (gH 1 1 (.go 1 q1)))))))))))) (gH 1 1 (.go 7 q1))))))))) (.go 11 q1))))))) (gG 6)))) (gE 3 (.vl (.int .i64 (s+1)) (gK 1 1 (.cut .no)))))
  (U (s<(nS:Int)) (fun _=>ai (bN bc.len aH jD 6 1 rfl)
  (ai (show(0:Int)<=s from J)
  (U ((aq .and .u32 (aq .shr .u32 c.read s) 1)=1) (fun _=>aV s (nS:Int) J J
  (ai (bN fh.len bA (Cd (l:=ah) (z:=s) J J) 0 1 rfl)
  (U ((gl ah s).owner=(-1)) (fun _=>aV s (nS:Int) J J
  (ai (bN fh.len bA (Cd (l:=ah) (z:=s) J J) 1 1 rfl)
  (ai (bN bc.len aH jD 2 1 rfl)
  (U ((gl ah s).version>c.rv) (fun _=>ai (fR bc.len aH jD (c':={c with I:=0}) (r:=[(.int .i64 (.ofNat 0))]) 0 rfl rfl rfl)
  (Qu n o len m p lo nT nS T V S aj ah c ak an i th tx I v x ab _ ⟨aW,s,by omega,by omega,by unfold WC;omega⟩ hr))
  (fun _=>ai (wI (s+1) J)
  (xA n o len m p lo nT nS T V S aj ah c ak an i th tx I v x ab s (qj [(7,(.int .i64 s)),(19,(.bool true)),(20,(.int .i64 s)),(21,(.ptr (some (271,th.toNat*13+0)))),(22,(.ptr (some (271,th.toNat*13+0)))),(23,(.ptr (some (271,th.toNat*13+6)))),(24,(.int .u32 c.read)),(25,(.int .i64 s)),(26,(.int .u32 ((aq .shr .u32 c.read s)))),(27,(.int .u32 ((aq .and .u32 (aq .shr .u32 c.read s) 1)))),(28,(.bool true)),(29,(.bool true)),(30,(.ptr (some (274,0)))),(31,(.int .i64 s)),(32,(.bool true)),(33,(.bool true)),(34,(.bool true)),(35,(.ptr (some (274,0)))),(36,(.int .i64 s)),(37,(.ptr (some (271,th.toNat*13+0)))),(38,(.bool false)),(39,(.bool false)),(43,(.int .i64 ((s+1))))]) (s+1) _ hr J J J aW (xU s eF (by unfold WC;omega))))))))
  (fun _=>ai (wI (s+1) J)
  (xA n o len m p lo nT nS T V S aj ah c ak an i th tx I v x ab s (qj [(7,(.int .i64 s)),(19,(.bool true)),(20,(.int .i64 s)),(21,(.ptr (some (271,th.toNat*13+0)))),(22,(.ptr (some (271,th.toNat*13+0)))),(23,(.ptr (some (271,th.toNat*13+6)))),(24,(.int .u32 c.read)),(25,(.int .i64 s)),(26,(.int .u32 ((aq .shr .u32 c.read s)))),(27,(.int .u32 ((aq .and .u32 (aq .shr .u32 c.read s) 1)))),(28,(.bool true)),(29,(.bool true)),(30,(.ptr (some (274,0)))),(31,(.int .i64 s)),(32,(.bool false)),(33,(.bool false)),(34,(.bool false)),(35,(.tuple [])),(36,(.tuple [])),(37,(.tuple [])),(38,(.tuple [])),(39,(.bool false)),(43,(.int .i64 ((s+1))))]) (s+1) _ hr J J J aW (xU s eF (by unfold WC;omega)))))))
  (fun _=>ai (wI (s+1) J)
  (xA n o len m p lo nT nS T V S aj ah c ak an i th tx I v x ab s (qj [(7,(.int .i64 s)),(19,(.bool true)),(20,(.int .i64 s)),(21,(.ptr (some (271,th.toNat*13+0)))),(22,(.ptr (some (271,th.toNat*13+0)))),(23,(.ptr (some (271,th.toNat*13+6)))),(24,(.int .u32 c.read)),(25,(.int .i64 s)),(26,(.int .u32 ((aq .shr .u32 c.read s)))),(27,(.int .u32 ((aq .and .u32 (aq .shr .u32 c.read s) 1)))),(28,(.bool false)),(29,(.bool false)),(30,(.tuple [])),(31,(.tuple [])),(32,(.tuple [])),(33,(.bool false)),(34,(.bool false)),(35,(.tuple [])),(36,(.tuple [])),(37,(.tuple [])),(38,(.tuple [])),(39,(.bool false)),(43,(.int .i64 ((s+1))))]) (s+1) _ hr J J J aW (xU s eF (by unfold WC;omega)))))))
  (fun _=>I9 n o len m p lo nT nS T V S aj ah c ak an i th tx I v x ab _ (fun z=>by obtain⟨_,j,j1,j2,j3⟩:=z;exact eF j j1 J j3) hr))
theorem rounds(aH:aj.length*13<=top)(bA:ah.length*2<=top)(nr:ah.length=nS)(de:nS<=32)(jD:aj[th.toNat]? =some c)(aW:c.I=8):∀(f:Nat) {g:Nat->AV} {s:Int},0<=s->s<=(nS:Int)->(nS:Int) - s<=f->(∀j:Int,0<=j->j<s->¬WC ah c j)->∀{st:AS},iF [274,273,271] st.rd=true->st.h=ql n o len m p lo nT nS T V S aj ah c ak an i th tx I v x ab->st.nx=279->st.mark=278->st.wr=[]->gT (fK Tryd.prog 270 eg eD LN) 4 C7 (Cr n o len m p lo nT nS T V S aj ah c ak an i th tx I v x ab) (AL n o len m p lo nT nS T V S aj ah c ak an i th tx I v x ab g s) st:=by
  intro f
  induction f with
  | zero=>
    intro g s h0 h1 h2 eF st e1 e2 e3 e4 e5
    obtain⟨h,nx,mark,rd,wr⟩:=st
    simp only at e1 e2 e3 e4 e5
    subst e2;subst e3;subst e4;subst e5
    refine round aH bA nr de jD aW h0 h1 (s0:=s) rfl eF e1 fun fr st pl hC=>?_
    obtain⟨g',s',rfl,_,_,_,_,_,a7,a8,a9,DH,_⟩:=hC
    exfalso;omega
  | succ f ih=>
    intro g s h0 h1 h2 eF st e1 e2 e3 e4 e5
    obtain⟨h,nx,mark,rd,wr⟩:=st
    simp only at e1 e2 e3 e4 e5
    subst e2;subst e3;subst e4;subst e5
    refine round aH bA nr de jD aW h0 h1 (s0:=s) rfl eF e1 fun fr st pl hC=>?_
    obtain⟨g',s',rfl,b1,b2,b3,b4,b5,a7,a8,a9,DH,Ja⟩:=hC
    exact ih a8 a9 J Ja b4 b1 b2 b3 b5
theorem Mo(aH:aj.length*13<=top)(bA:ah.length*2<=top)(nr:ah.length=nS)(de:nS<=32)(jD:aj[th.toNat]? =some c):gT (fK Tryd.prog 270 eg eD LN) 4 C7 (Cr n o len m p lo nT nS T V S aj ah c ak an i th tx I v x ab) ⟨39,iD [(.ptr (some (274,0))),(.ptr (some (271,th.toNat*13+0))),(.agg (bn (.ofNat 13) th tx I v x ab))],max Tryd.f39.ntmps 3,[.code (aO Tryd.prog 39 [])],[],none⟩ ⟨AJ n o len m p lo nT nS T V S aj ah c ak an i th tx I v x ab,278,278,[],[]⟩:=by
  have hr:iF [274,273,271] []=true:=rfl
  refine qR (C:=Po n o len m p lo nT nS T V S aj ah c ak an i th tx I v x ab 0) nA rfl (fun fr st pl hC=>?_) 2000 ((fun(q1:Pl)=>(gC 4 3 (.ld [(.int .i64 c.I)] (.fk (gG 4) (gL 7 (gJ 1 (.fk (gB 8 3 (.ld [(.int .u32 c.read)] (.go 1 (.sh (.go 1 (.fk (.go 3 (.il (gC 3 5 (.ix (.go 1 (.ld [(.int .i64 ((gl ah (0:Int)).owner))] (.fk (gH 1 1 (.go 5 (.il (gC 3 5 (.ix (.go 1 (.ld [(.int .i64 ((gl ah (0:Int)).version))] (.go 3 (.ld [(.int .i64 c.rv)] (.fk (gH 1 1 (gA 1 2 3 (.dj (aD dc (aj.set th.toNat {c with I:=0})) (gG 3)))) (gH 1 1 (.go 1 q1)))))))))))) (gH 1 1 (.go 7 q1))))))))) (.go 11 q1))))))) (gG 6)))))))) (gL 5 (.cut .no)))
   ((ai (bN bc.len aH jD 0 1 rfl)
   (U (c.I≠8) (fun _=>I9 n o len m p lo nT nS T V S aj ah c ak an i th tx I v x ab _ (fun z=>by have:=z.1;omega) hr)
   (fun _=>U ((0:Int)<(nS:Int)) (fun _=>ai (bN bc.len aH jD 6 1 rfl)
   (ai (show(0:Int)<=0 from J)
   (U ((aq .and .u32 (aq .shr .u32 c.read 0) 1)=1) (fun _=>aV (0:Int) (nS:Int) J J
   (ai (bN fh.len bA (Cd (l:=ah) (z:=(0:Int)) J J) 0 1 rfl)
   (U ((gl ah (0:Int)).owner=(-1)) (fun _=>aV (0:Int) (nS:Int) J J
   (ai (bN fh.len bA (Cd (l:=ah) (z:=(0:Int)) J J) 1 1 rfl)
   (ai (bN bc.len aH jD 2 1 rfl)
   (U ((gl ah (0:Int)).version>c.rv) (fun _=>ai (fR bc.len aH jD (c':={c with I:=0}) (r:=[(.int .i64 (.ofNat 0))]) 0 rfl rfl rfl)
   (Qu n o len m p lo nT nS T V S aj ah c ak an i th tx I v x ab _ ⟨by omega,0,by omega,by omega,by unfold WC;omega⟩ hr))
   (fun _=>xA n o len m p lo nT nS T V S aj ah c ak an i th tx I v x ab 0 (qj [(7,(.int .i64 (.ofNat 0))),(19,(.bool true)),(20,(.int .i64 (.ofNat 0))),(21,(.ptr (some (271,th.toNat*13+0)))),(22,(.ptr (some (271,th.toNat*13+0)))),(23,(.ptr (some (271,th.toNat*13+6)))),(24,(.int .u32 c.read)),(25,(.int .i64 (.ofNat 0))),(26,(.int .u32 ((aq .shr .u32 c.read 0)))),(27,(.int .u32 ((aq .and .u32 (aq .shr .u32 c.read 0) 1)))),(28,(.bool true)),(29,(.bool true)),(30,(.ptr (some (274,0)))),(31,(.int .i64 (.ofNat 0))),(32,(.bool true)),(33,(.bool true)),(34,(.bool true)),(35,(.ptr (some (274,0)))),(36,(.int .i64 (.ofNat 0))),(37,(.ptr (some (271,th.toNat*13+0)))),(38,(.bool false)),(39,(.bool false)),(43,(.int .i64 (.ofNat 1)))]) 1 _ hr J J J J (xU 0 (fun j j1 j2=>absurd j2 J) (by unfold WC;omega)))))))
   (fun _=>xA n o len m p lo nT nS T V S aj ah c ak an i th tx I v x ab 0 (qj [(7,(.int .i64 (.ofNat 0))),(19,(.bool true)),(20,(.int .i64 (.ofNat 0))),(21,(.ptr (some (271,th.toNat*13+0)))),(22,(.ptr (some (271,th.toNat*13+0)))),(23,(.ptr (some (271,th.toNat*13+6)))),(24,(.int .u32 c.read)),(25,(.int .i64 (.ofNat 0))),(26,(.int .u32 ((aq .shr .u32 c.read 0)))),(27,(.int .u32 ((aq .and .u32 (aq .shr .u32 c.read 0) 1)))),(28,(.bool true)),(29,(.bool true)),(30,(.ptr (some (274,0)))),(31,(.int .i64 (.ofNat 0))),(32,(.bool false)),(33,(.bool false)),(34,(.bool false)),(35,(.tuple [])),(36,(.tuple [])),(37,(.tuple [])),(38,(.tuple [])),(39,(.bool false)),(43,(.int .i64 (.ofNat 1)))]) 1 _ hr J J J J (xU 0 (fun j j1 j2=>absurd j2 J) (by unfold WC;omega))))))
   (fun _=>xA n o len m p lo nT nS T V S aj ah c ak an i th tx I v x ab 0 (qj [(7,(.int .i64 (.ofNat 0))),(19,(.bool true)),(20,(.int .i64 (.ofNat 0))),(21,(.ptr (some (271,th.toNat*13+0)))),(22,(.ptr (some (271,th.toNat*13+0)))),(23,(.ptr (some (271,th.toNat*13+6)))),(24,(.int .u32 c.read)),(25,(.int .i64 (.ofNat 0))),(26,(.int .u32 ((aq .shr .u32 c.read 0)))),(27,(.int .u32 ((aq .and .u32 (aq .shr .u32 c.read 0) 1)))),(28,(.bool false)),(29,(.bool false)),(30,(.tuple [])),(31,(.tuple [])),(32,(.tuple [])),(33,(.bool false)),(34,(.bool false)),(35,(.tuple [])),(36,(.tuple [])),(37,(.tuple [])),(38,(.tuple [])),(39,(.bool false)),(43,(.int .i64 (.ofNat 1)))]) 1 _ hr J J J J (xU 0 (fun j j1 j2=>absurd j2 J) (by unfold WC;omega))))))
   (fun _=>I9 n o len m p lo nT nS T V S aj ah c ak an i th tx I v x ab _ (fun z=>by obtain⟨_,j,j1,j2,_⟩:=z;omega) hr)))))
  obtain⟨g',s',rfl,b1,b2,b3,b4,b5,a7,a8,a9,DH,Ja⟩:=hC
  exact rounds aH bA nr de jD DH 32 a8 a9 J Ja b4 b1 b2 b3 b5
theorem UD(aH:aj.length*13<=top)(bA:ah.length*2<=top)(nr:ah.length=nS)(de:nS<=32)(jD:aj[th.toNat]? =some c)(hW:ln nS ah c):CJ False (en LN) 5 39 [(.ptr (some (274,0))),(.ptr (some (271,th.toNat*13+0))),(.agg (bn (.ofNat 13) th tx I v x ab))] ⟨AJ n o len m p lo nT nS T V S aj ah c ak an i th tx I v x ab,278,278,[],[]⟩ (.bool true) [(278,some (.cells 7 (Tr.fill (bn (.ofNat 13) th tx I v x ab) 0 .nil) [])),(271,(some (aD dc (aj.set th.toNat {c with I:=0}))))] (.bool true) [(278,some (.cells 7 (Tr.fill (bn (.ofNat 13) th tx I v x ab) 0 .nil) [])),(271,(some (aD dc (aj.set th.toNat {c with I:=0}))))] 279 [274,273,271] [271]:=by
 obtain⟨v1,s2,q1,q2⟩:=gT.call (E:=(fK Tryd.prog 270 eg eD LN)) Tryd.func39 (fQ Tryd.func39 jl) (Mo aH bA nr de jD (T:=T) (V:=V) (S:=S) (ak:=ak) (an:=an) (i:=i) (tx:=tx) (I:=I) (v:=v) (x:=x) (ab:=ab) (n:=n) (o:=o) (len:=len) (m:=m) (p:=p) (lo:=lo) (nT:=nT))
 obtain⟨h2,Qv,Oa,gM,AM⟩:=s2
 rcases q2 with⟨rfl,b0,b1,b2,b3,b4,b5⟩|⟨rfl,b0,b1,b2,b3,b4,b5⟩
 · simp only at b1 b2 b3 b4 b5
   subst b1;subst b2;subst b3
   exact⟨gM,AM,tg b4,tg b5,.inr q1⟩
 · exact absurd hW b0
theorem V0(aH:aj.length*13<=top)(bA:ah.length*2<=top)(nr:ah.length=nS)(de:nS<=32)(jD:aj[th.toNat]? =some c)(hW:¬ln nS ah c):CJ False (en LN) 5 39 [(.ptr (some (274,0))),(.ptr (some (271,th.toNat*13+0))),(.agg (bn (.ofNat 13) th tx I v x ab))] ⟨AJ n o len m p lo nT nS T V S aj ah c ak an i th tx I v x ab,278,278,[],[]⟩ (.bool false) [(278,some (.cells 7 (Tr.fill (bn (.ofNat 13) th tx I v x ab) 0 .nil) []))] (.bool false) [(278,some (.cells 7 (Tr.fill (bn (.ofNat 13) th tx I v x ab) 0 .nil) []))] 279 [274,273,271] [271]:=by
 obtain⟨v1,s2,q1,q2⟩:=gT.call (E:=(fK Tryd.prog 270 eg eD LN)) Tryd.func39 (fQ Tryd.func39 jl) (Mo aH bA nr de jD (T:=T) (V:=V) (S:=S) (ak:=ak) (an:=an) (i:=i) (tx:=tx) (I:=I) (v:=v) (x:=x) (ab:=ab) (n:=n) (o:=o) (len:=len) (m:=m) (p:=p) (lo:=lo) (nT:=nT))
 obtain⟨h2,Qv,Oa,gM,AM⟩:=s2
 rcases q2 with⟨rfl,b0,b1,b2,b3,b4,b5⟩|⟨rfl,b0,b1,b2,b3,b4,b5⟩
 · exact absurd b0 hW
 · simp only at b1 b2 b3 b4 b5
   subst b1;subst b2;subst b3
   exact⟨gM,AM,tg b4,tg b5,.inr q1⟩
end
end zV
end
section
open Go Go.Rn Go.RowKit Go.Proofs
namespace Dd
open cd cj cv cD cH cI cN fx rz sE eW uN xz zU zV
variable {ck:Int}
section
variable {h:List Ev} {a:bQ} {c:Th} {bm cm S th tx I v ab o ve:Int}
theorem lC{a:bQ}(h:a.last=1\/a.last=2\/a.last=3\/a.last=4\/a.last=5\/a.last=6\/a.last=8\/a.last=12):¬aS a:=by unfold aS;omega
theorem Zw(d:cf a bm S)(r:bU a cm S c):(aS a/\a.ab≠6/\tx=cm/\ck<=v)↔(c.I=0/\tx=c.cc/\ck<=v):=by
 rw[r.I,n9,r.fP,and_assoc]
theorem Zx(d:cf a bm S)(r:bU a cm S c)(lo: -1<=o):(¬aS a/\(a.last=1\/a.last=3)/\o<0/\ve<=v/\v<=a.rv)↔(c.I=1/\o= -1/\ve<=v/\v<=c.rv):=by
 rw[r.I,rA]
 constructor
 ·rintro ⟨h0,h1,h2,h3,h4⟩;have:=r.rv h0;exact⟨h1,by omega,h3,by omega⟩
 ·rintro ⟨h1,h2,h3,h4⟩;have h0:=lC (a:=a) J;have:=r.rv h0;exact⟨h0,h1,by omega,h3,by omega⟩
theorem Zy(d:cf a bm S)(r:bU a cm S c)(lo:∀s, -1<=bo h s){s:Int}:(¬aS a/\a.last=2/\(iP a).I=s/\bo h s<0/\cx h s=(iP a).v)↔(c.I=2/\s=c.bX/\bo h c.bX= -1/\cx h c.bX=c.v):=by
 rw[r.I,I7]
 constructor
 ·rintro ⟨h0,h1,h2,h3,h4⟩
  obtain⟨e1,e2⟩:=r.look h1
  have e:s=c.bX:=by rw[e1,h2]
  subst e
  have:=lo c.bX
  exact⟨h1,rfl,by omega,by rw[e2];exact h4⟩
 ·rintro ⟨h1,h2,h3,h4⟩
  obtain⟨e1,e2⟩:=r.look h1
  subst h2
  exact⟨lC J,h1,e1.symm,by omega,by rw[h4,e2]⟩
theorem Zz(d:cf a bm S)(r:bU a cm S c)(lo: -1<=o):(¬aS a/\((a.last=1\/a.last=3)\/a.last=4)/\gQ a.ao<I/\o<0)↔((c.I=1\/c.I=3)/\c.ao<I/\o= -1):=by
 rw[r.I,rA,xS]
 constructor
 ·rintro ⟨h0,h1,h2,h3⟩;have:=r.iC h0;exact⟨h1,by omega,by omega⟩
 ·rintro ⟨h1,h2,h3⟩;have h0:=lC (a:=a) J;have:=r.iC h0;exact⟨h0,h1,by omega,by omega⟩
theorem ZA(d:cf a bm S)(r:bU a cm S c):(¬aS a/\a.last=4/\ck<v)↔(c.I=3/\ck<v):=by
 rw[r.I,xS]
 exact⟨fun q=>q.2,fun q=>⟨lC J,q⟩⟩
theorem yI{x:Int}{l:List Int}(hb:dI x l)(hi:jP S l)(hr:jC l)(hS:S<=32)(aW:I<S):l.head?=some I↔I=eB x:=by
  rw[hb.tz (hi.mono hS) hr]
  cases l with
  | nil => constructor
           · intro q;cases q
           · intro q;have:I=32:=q;omega
  |cons y l=>exact⟨fun q=>by injection q with q;exact q.symm,fun q=>by rw[q];rfl⟩
theorem ZB(d:cf a bm S)(r:bU a cm S c)(hS:S<=32)(aW:I<S)(lo: -1<=o):(¬aS a/\(a.last=5\/a.last=6)/\(dE a).head?=some I/\¬(0<=o/\o≠th)/\ve<=a.rv)↔(c.I=4/\I=eB c.check/\¬(o≠ -1/\o≠th)/\ve<=c.rv):=by
 rw[r.I,vE]
 constructor
 ·rintro ⟨h0,h1,h2,h3,h4⟩
  have:=r.rv h0
  exact⟨h1,(yI (r.ig h1) (wu d) (yw d) hS aW).1 h2,by omega,by omega⟩
 ·rintro ⟨h1,h2,h3,h4⟩
  have h0:=lC (a:=a) J
  have:=r.rv h0
  exact⟨h0,h1,(yI (r.ig h1) (wu d) (yw d) hS aW).2 h2,by omega,by omega⟩
theorem ZC(d:cf a bm S)(r:bU a cm S c)(hS:S<=32):(¬aS a/\(v=0->a.last=1\/a.last=3)/\(v≠0->(a.last=5\/a.last=6)/\dE a=[]/\v=a.wv))↔(v=0/\c.I=1\/v≠0/\c.I=4/\c.check=0/\v=c.wv):=by
 rw[r.I,rA,vE]
 constructor
 ·rintro ⟨h0,h1,h2⟩
  by_cases q:v=0
  ·exact .inl ⟨q,h1 q⟩
  ·obtain⟨i1,i2,i3⟩:=h2 q
   exact .inr ⟨q,i1,((r.ig i1).zero ((wu d).mono hS)).2 i2,by rw[r.wv J];exact i3⟩
 ·rintro (⟨h1,h2⟩|⟨h1,h2,h3,h4⟩)
  ·exact⟨lC J,fun _=>h2,fun q=>absurd h1 q⟩
  ·exact⟨lC J,fun q=>absurd q h1,fun _=>⟨h2,((r.ig h2).zero ((wu d).mono hS)).1 h3,by rw[←r.wv J];exact h4⟩⟩
theorem ZD(d:cf a bm S)(r:bU a cm S c)(hS:S<=32){s:Int}(hs:0<=s/\s<S)(ho:bo h s=th↔s∈dC a):(¬aS a/\(a.last=7\/a.last=8)/\gQ a.aC<I/\bo h s=th)↔(c.I=5/\c.gx<I/\aq .and .u32 (aq .shr .u32 c.au s) 1≠0):=by
 rw[r.I,xT,ho]
 constructor
 ·rintro ⟨h0,h1,h2,h3⟩
  exact⟨⟨h0,h1⟩,by rw[r.var h0];exact h2,fun q=>((r.au h0).Pm J).1 q h3⟩
 ·rintro ⟨⟨h0,h1⟩,h2,h3⟩
  exact⟨h0,h1,by rw[←r.var h0];exact h2,Classical.byContradiction fun q=>h3 (((r.au h0).Pm J).2 q)⟩
theorem yJ(d:cf a bm S)(r:bU a cm S c)(hS:S<=32)(aW:I<S)(h0:¬aS a):a.ao[a.ax.length]? =some I↔I=eB c.au:=by
 rw[←yI (r.au h0) (d.gZ.drop _) (d.lk.drop _) hS aW, ←List.head?_drop];rfl
theorem ZE(d:cf a bm S)(r:bU a cm S c)(hS:0<S/\S<=32)(aW:I<S):(¬aS a/\(a.last=8/\(gb a.aC S).length=a.ao.length\/a.last=9)/\a.ao[a.ax.length]? =some I)↔((c.I=6\/c.I=5/\c.aC=c.au)/\I=eB c.au):=by
  have key:¬aS a->(a.last=7\/a.last=8)->(c.aC=c.au↔a.last=8/\(gb a.aC S).length=a.ao.length):=by
    intro h0 h1
    have e1:=r.aC h0
    have e2:=r.au h0
    rw[d.held J] at e2
    have Pp:∀x∈gb a.aC S,x∈a.ao:=fun x hx=>by
      obtain⟨y,hy,rfl⟩:=Xx.1 hx
      exact d.so y hy
    have fZ:=d.gZ.mono hS.2
    have aaU:c.aC=c.au↔∀x,x∈gb a.aC S↔x∈a.ao:=by
      constructor
      · intro q x
        refine⟨Pp x,fun hx=>?_⟩
        have hb:=fZ x hx
        rw[←e1.at hb,q,e2.at hb];exact hx
      · intro q
        exact e1.ext e2 fun s _ _=>q s
    rw[aaU,sub_eq Xw d.lk Pp]
    refine⟨fun q=>⟨?_,q⟩,fun q=>q.2⟩
    rcases h1 with z|z
    · exfalso
      rw[d.nq J] at q
      exact h0 (.inr (.inr (.inl ⟨z,q.symm⟩)))
    · exact z
  rw[r.I,I8,xT]
  constructor
  · rintro ⟨h0,h1,h2⟩
    refine⟨?_,(yJ d r hS.2 aW h0).1 h2⟩
    rcases h1 with z|z
    · exact .inr ⟨⟨h0,.inr z.1⟩,(key h0 (.inr z.1)).2 z⟩
    · exact .inl ⟨h0,z⟩
  · rintro ⟨⟨h0,h1⟩|⟨⟨h0,h1⟩,h2⟩,h3⟩
    · exact⟨h0,.inr h1,(yJ d r hS.2 aW h0).2 h3⟩
    · exact⟨h0,.inl ((key h0 h1).1 h2),(yJ d r hS.2 aW h0).2 h3⟩
theorem XG(d:cf a bm S)(r:bU a cm S c)(hS:S<=32)(aW:I<S):(¬aS a/\(a.last=10\/a.last=11)/\a.ao[a.ax.length]? =some I)↔(c.I=7/\I=eB c.au):=by
 rw[r.I,AI d.la]
 constructor
 ·rintro ⟨h0,h1,h2⟩;exact⟨⟨h0,h1⟩,(yJ d r hS aW h0).1 h2⟩
 ·rintro ⟨⟨h0,h1⟩,h2⟩;exact⟨h0,h1,(yJ d r hS aW h0).2 h2⟩
theorem XH(d:cf a bm S)(r:bU a cm S c):(¬aS a/\(a.last=1\/a.last=3))↔c.I=1:=by
 rw[r.I,rA]
 exact⟨fun q=>q.2,fun q=>⟨lC J,q⟩⟩
theorem XI{nS:Nat}{ah:List Sr}(d:cf a bm S)(r:bU a cm S c)(hS:S=(nS:Int))(hS2:nS<=32)(hsr:∀s:Nat,s<nS->ah[s]? =some ⟨bo h s,cx h s⟩)(lo:∀s, -1<=bo h s):(¬aS a/\a.last=12/\∃s∈a.read,bo h s<0/\a.rv<cx h s)↔ln nS ah c:=by
 have hg:∀s:Int,0<=s->s<(nS:Int)->gl ah s=⟨bo h s,cx h s⟩:=by
  intro s h1 h2
  have:=hsr s.toNat J
  rw[show(s.toNat:Int)=s by omega] at this
  unfold gl
  rw[List.getD_eq_getElem?_getD,this];rfl
 unfold ln
 rw[r.I,Qt]
 constructor
 ·rintro ⟨h0,h1,s,h2,h3,h4⟩
  have hs:=d.gM s h2
  refine⟨h1,s,hs.1,by omega,?_⟩
  unfold WC
  rw[hg s hs.1 J]
  have:=lo s
  exact⟨((r.read h0).Pn J).2 h2,by show bo h s= -1;omega,by rw[r.rv h0];exact h4⟩
 ·rintro ⟨h1,s,h2,h3,h4⟩
  have h0:=lC (a:=a) J
  unfold WC at h4
  rw[hg s h2 h3,r.rv h0] at h4
  obtain⟨i1,i2,i3⟩:=h4
  have i2:bo h s= -1:=i2
  exact⟨h0,h1,s,((r.read h0).Pn J).1 i1,by omega,i3⟩
theorem UE(d:cf a bm S)(r:bU a cm S c)(lo: -1<=o):(¬aS a/\(a.last=1\/a.last=3)/\0<=o/\o≠th)↔(c.I=1/\(o≠ -1/\o≠th)):=by
 rw[r.I,rA]
 exact⟨fun q=>⟨q.2.1,by omega,q.2.2.2⟩,fun q=>⟨lC J,q.1,by omega,q.2.2⟩⟩
theorem UF(d:cf a bm S)(r:bU a cm S c)(lo: -1<=o):(¬aS a/\(a.last=1\/a.last=3)/\o<0/\a.rv<ve)↔(c.I=1/\o= -1/\c.rv<ve):=by
 rw[r.I,rA]
 constructor
 ·rintro ⟨h0,h1,h2,h3⟩;have:=r.rv h0;exact⟨h1,by omega,by omega⟩
 ·rintro ⟨h1,h2,h3⟩;have h0:=lC (a:=a) J;have:=r.rv h0;exact⟨h0,h1,by omega,by omega⟩
theorem UG(d:cf a bm S)(r:bU a cm S c)(lo:∀s, -1<=bo h s):(¬aS a/\a.last=2/\(iP a).I=I/\(0<=bo h I\/cx h I≠(iP a).v))↔(c.I=2/\I=c.bX/\(bo h c.bX≠ -1\/cx h c.bX≠c.v)):=by
 rw[r.I,I7]
 constructor
 ·rintro ⟨h0,h1,h2,h3⟩
  obtain⟨e1,e2⟩:=r.look h1
  have e:I=c.bX:=by rw[e1,h2]
  subst e
  refine⟨h1,rfl,?_⟩
  rcases h3 with z|z
  ·exact .inl J
  ·exact .inr (by rw[e2];exact z)
 ·rintro ⟨h1,h2,h3⟩
  obtain⟨e1,e2⟩:=r.look h1
  subst h2
  refine⟨lC J,h1,e1.symm,?_⟩
  have:=lo c.bX
  rcases h3 with z|z
  ·exact .inl J
  ·exact .inr (by rw[←e2];exact z)
theorem UH(d:cf a bm S)(r:bU a cm S c)(lo: -1<=o):(¬aS a/\((a.last=1\/a.last=3)\/a.last=4)/\gQ a.ao<I/\0<=o/\o≠th)↔((c.I=1\/c.I=3)/\c.ao<I/\(o≠ -1/\o≠th)):=by
 rw[r.I,rA,xS]
 constructor
 ·rintro ⟨h0,h1,h2,h3,h4⟩;have:=r.iC h0;exact⟨h1,by omega,by omega,h4⟩
 ·rintro ⟨h1,h2,h3,h4⟩;have h0:=lC (a:=a) J;have:=r.iC h0;exact⟨h0,h1,by omega,by omega,h4⟩
theorem UI(d:cf a bm S)(r:bU a cm S c)(hS:S<=32)(aW:I<S)(lo: -1<=o):(¬aS a/\(a.last=5\/a.last=6)/\(dE a).head?=some I/\((0<=o/\o≠th)\/a.rv<ve))↔(c.I=4/\I=eB c.check/\((o≠ -1/\o≠th)\/c.rv<ve)):=by
 rw[r.I,vE]
 constructor
 ·rintro ⟨h0,h1,h2,h3⟩
  have:=r.rv h0
  exact⟨h1,(yI (r.ig h1) (wu d) (yw d) hS aW).1 h2,by omega⟩
 ·rintro ⟨h1,h2,h3⟩
  have h0:=lC (a:=a) J
  have:=r.rv h0
  exact⟨h0,h1,(yI (r.ig h1) (wu d) (yw d) hS aW).2 h2,by omega⟩
theorem UJ(d:cf a bm S)(r:bU a cm S c):(¬aS a/\a.last=4)↔c.I=3:=by
 rw[r.I,xS]
 exact⟨fun q=>q.2,fun q=>⟨lC J,q⟩⟩
end
end Dd
end
section
open Go Go.Rn Go.RowKit Go.Proofs
namespace eG
open cd cj cv cD cH cI cN gw eW fy fm fA
abbrev Pq(n o len m p lo nT nS:Nat)(T V S:Int)(aj:List Th)(ah:List Sr)(c:Th)(ak an i th tx I v x ab:Int):bz:=fun fr s1 _=>((aB 1 th tx I v x ab (nT:Int) V (nS:Int)/\(c.I=0/\tx=c.cc/\ak<=v))/\FC (aP n o len m p lo nT nS T V S (aj.set th.toNat {c with I:=1,rv:=v,wv:=0,bX:=0,v:=0,read:=0,au:=0,aC:=0,check:=0,ao:=(-1),gx:=(-1),full:=false}) ah v (an+1) (i+1)) fr s1)
theorem ev1{B:aZ}(mc:Mc (sp LN) 6 B){n o len m p lo nT nS:Nat}{T V S:Int}{aj:List Th}{ah:List Sr}{c:Th}{q:Sr}{ak an i th tx I v x ab:Int}{v':AV}(H_:jV n o len m nT nS V aj ah c an i 1 th tx I v x ab)(hQ:0<=I/\I<(nS:Int)->ah[(I).toNat]? =some q)(hF:¬(aB 1 th tx I v x ab (nT:Int) V (nS:Int)/\(c.I=0/\tx=c.cc/\ak<=v))->v'= .bool false)(H0:(aB 1 th tx I v x ab (nT:Int) V (nS:Int)/\(c.I=0/\tx=c.cc/\ak<=v))->FSQ B v' cg (aP n o len m p lo nT nS T V S (aj.set th.toNat {c with I:=1,rv:=v,wv:=0,bX:=0,v:=0,read:=0,au:=0,aC:=0,check:=0,ao:=(-1),gx:=(-1),full:=false}) ah v (an+1) (i+1))):FSQ B v' cg (aP n o len m p lo nT nS T V S aj ah ak an i):=by
 obtain⟨ho,hn,bu,hlen,h0,hi,bB,hV,bE,de,aH,bA,cZ,c7,aT,hC⟩:=H_
 have cu:=ho;simp only[dF,bL] at cu
 exact wC mc (C:=(Pq n o len m p lo nT nS T V S aj ah c ak an i th tx I v x ab)) (gj H0) 2000 ((fun(q1:Pl)=>((fun(q2:Pl)=>(gJ 1 (.fk (gE 6 (.bI (.bJ (bn (.ofNat 1) th tx I v x ab) (gA 2 1 2 (.il (gC 8 4 (.fk .no (gA 1 2 15 (.kp (aB 1 th tx I v x ab (nT:Int) V (nS:Int)) inferInstance (gA 2 7 11 (.ix (.go 1 (.il (gC 4 3 (.ld [(.int .i64 c.I)] (.fk (.go 18 q2) (.go 6 (.ld [(.int .i64 c.cc)] (.fk (.go 10 q2) (.go 8 (.fk (.go 1 q2) (gA 1 5 4 (.ld [(.int .i64 c.cc)] (.go 4 (.dj (aD dc (aj.set th.toNat {c with I:=1,rv:=v,wv:=0,bX:=0,v:=0,read:=0,au:=0,aC:=0,check:=0,ao:=(-1),gx:=(-1),full:=false})) (gI 3 (gA 1 3 4 (.vl (.int .i64 (an+1)) (gH 3 3 (gD 1 3 (.vl (.int .i64 (i+1)) (gK 1 1 (.bk (aP n o len m p lo nT nS T V S (aj.set th.toNat {c with I:=1,rv:=v,wv:=0,bX:=0,v:=0,read:=0,au:=0,aC:=0,check:=0,ao:=(-1),gx:=(-1),full:=false}) ah v (an+1) (i+1)).l (ay++(aP n o len m p lo nT nS T V S (aj.set th.toNat {c with I:=1,rv:=v,wv:=0,bX:=0,v:=0,read:=0,au:=0,aC:=0,check:=0,ao:=(-1),gx:=(-1),full:=false}) ah v (an+1) (i+1)).o) 275 .no)))))))))))))))))))))))) (.go 2 q1)))))))))) .no))) (gI 4 (.go 1 q1)))) (gI 4 (gF 1 4))) (U (i<(len:Int)) (fun _=>aV i (len:Int) J J (ai hn (ai (c9 bB 0 7 ar) (U (an>=1048576) aA (fun _=>ai (jt 1 th tx I v x ab (nT:Int) V (nS:Int) ⟨ho,by unfold bL;omega⟩) (U (aB 1 th tx I v x ab (nT:Int) V (nS:Int)) (fun h3=>have hm:=eh h3;(have fF:=jU aT;(aV th (nT:Int) J J (ai (bN bc.len aH (hC J) 0 1 rfl) (U (c.I≠0) dp (fun _=>ai (bN bc.len aH (hC J) 1 1 rfl) (U (tx≠c.cc) dp (fun _=>U (v<ak) dp (fun _=>ai (bN bc.len aH (hC J) 1 1 rfl) (ai (fR bc.len aH (hC J) (c':={c with I:=1,rv:=v,wv:=0,bX:=0,v:=0,read:=0,au:=0,aC:=0,check:=0,ao:=(-1),gx:=(-1),full:=false}) (r:=[(.int .i64 (.ofNat 1)),(.int .i64 c.cc),(.int .i64 v),(.int .i64 (.ofNat 0)),(.int .i64 (.ofNat 0)),(.int .i64 (.ofNat 0)),(.int .u32 (.ofNat 0)),(.int .u32 (.ofNat 0)),(.int .u32 (.ofNat 0)),(.int .u32 (.ofNat 0)),(.int .i64 (.negSucc 0)),(.int .i64 (.negSucc 0)),(.bool false)]) 0 rfl rfl rfl) (ai eV (ai cS (eK hn bu eU gd (Pq n o len m p lo nT nS T V S aj ah c ak an i th tx I v x ab) (⟨⟨h3,by omega⟩,rfl,rfl⟩)))))))))))))) jj)))))) aA)
end eG
end
section
open Go Go.Rn Go.RowKit Go.Proofs
namespace eG
open cd cj cv cD cH cI cN gw eW fy fm fA
abbrev Pr(n o len m p lo nT nS:Nat)(T V S:Int)(aj:List Th)(ah:List Sr)(c:Th)(q:Sr)(ak an i th tx I v x ab:Int):bz:=fun fr s1 _=>((aB 2 th tx I v x ab (nT:Int) V (nS:Int)/\(c.I=1/\q.owner= -1/\q.version<=v/\v<=c.rv))/\FC (aP n o len m p lo nT nS T V S (aj.set th.toNat {c with I:=2,bX:=I,v:=v}) (ah.set I.toNat {q with version:=v}) ak (an+1) (i+1)) fr s1)
theorem ev2{B:aZ}(mc:Mc (sp LN) 6 B){n o len m p lo nT nS:Nat}{T V S:Int}{aj:List Th}{ah:List Sr}{c:Th}{q:Sr}{ak an i th tx I v x ab:Int}{v':AV}(H_:jV n o len m nT nS V aj ah c an i 2 th tx I v x ab)(hQ:0<=I/\I<(nS:Int)->ah[(I).toNat]? =some q)(hF:¬(aB 2 th tx I v x ab (nT:Int) V (nS:Int)/\(c.I=1/\q.owner= -1/\q.version<=v/\v<=c.rv))->v'= .bool false)(H0:(aB 2 th tx I v x ab (nT:Int) V (nS:Int)/\(c.I=1/\q.owner= -1/\q.version<=v/\v<=c.rv))->FSQ B v' cg (aP n o len m p lo nT nS T V S (aj.set th.toNat {c with I:=2,bX:=I,v:=v}) (ah.set I.toNat {q with version:=v}) ak (an+1) (i+1))):FSQ B v' cg (aP n o len m p lo nT nS T V S aj ah ak an i):=by
 obtain⟨ho,hn,bu,hlen,h0,hi,bB,hV,bE,de,aH,bA,cZ,c7,aT,hC⟩:=H_
 have cu:=ho;simp only[dF,bL] at cu
 exact wC mc (C:=(Pr n o len m p lo nT nS T V S aj ah c q ak an i th tx I v x ab)) (gj H0) 2000 ((fun(q1:Pl)=>((fun(q2:Pl)=>(gJ 1 (.fk (gE 6 (.bI (.bJ (bn (.ofNat 2) th tx I v x ab) (gA 2 1 2 (.il (gC 8 4 (.fk .no (gA 1 2 15 (.kp (aB 2 th tx I v x ab (nT:Int) V (nS:Int)) inferInstance (gA 2 7 11 (.ix (.go 1 (.il (gC 4 3 (.ld [(.int .i64 c.I)] (.fk (.go 30 q2) (.go 4 (.il (gC 3 5 (.ix (.go 1 (.ld [(.int .i64 q.owner)] (.fk (gH 1 1 (.go 11 (.ix (.go 1 (.ld [(.int .i64 q.version)] (.fk (.go 10 q2) (.go 7 (.ld [(.int .i64 c.rv)] (.fk (.go 1 q2) (gA 1 3 8 (.ix (.go 1 (.dj (aD nM (ah.set I.toNat {q with version:=v})) (gB 1 9 (.dj (aD dc (aj.set th.toNat {c with I:=2})) (.go 2 (.dj (aD dc (aj.set th.toNat {c with I:=2,bX:=I})) (.go 2 (.dj (aD dc (aj.set th.toNat {c with I:=2,bX:=I,v:=v})) (gI 3 (gA 1 3 4 (.vl (.int .i64 (an+1)) (gH 3 3 (gD 1 3 (.vl (.int .i64 (i+1)) (gK 1 1 (.bk (aP n o len m p lo nT nS T V S (aj.set th.toNat {c with I:=2,bX:=I,v:=v}) (ah.set I.toNat {q with version:=v}) ak (an+1) (i+1)).l (ay++(aP n o len m p lo nT nS T V S (aj.set th.toNat {c with I:=2,bX:=I,v:=v}) (ah.set I.toNat {q with version:=v}) ak (an+1) (i+1)).o) 275 .no))))))))))))))))))))))))))) (gH 1 1 (.go 25 q2)))))))))))))))) (.go 2 q1)))))))))) .no))) (gI 4 (.go 1 q1)))) (gI 4 (gF 1 4))) (U (i<(len:Int)) (fun _=>aV i (len:Int) J J (ai hn (ai (c9 bB 0 7 ar) (U (an>=1048576) aA (fun _=>ai (jt 2 th tx I v x ab (nT:Int) V (nS:Int) ⟨ho,by unfold bL;omega⟩) (U (aB 2 th tx I v x ab (nT:Int) V (nS:Int)) (fun h3=>have hm:=eh h3;(have fF:=jU aT;(aV th (nT:Int) J J (ai (bN bc.len aH (hC J) 0 1 rfl) (U (c.I≠1) dp (fun _=>aV I (nS:Int) J J (ai (bN fh.len bA (hQ J) 0 1 rfl) (U (q.owner=(-1)) (fun _=>aV I (nS:Int) J J (ai (bN fh.len bA (hQ J) 1 1 rfl) (U (v<q.version) dp (fun _=>ai (bN bc.len aH (hC J) 2 1 rfl) (U (v>c.rv) dp (fun _=>aV I (nS:Int) J J (ai (fR fh.len bA (hQ J) (c':={q with version:=v}) (r:=[(.int .i64 v)]) 1 rfl rfl rfl) (ai (fR bc.len aH (hC J) (c':={c with I:=2}) (r:=[(.int .i64 (.ofNat 2))]) 0 rfl rfl rfl) (ai (fH bc.len aH (hC J) (c:={c with I:=2}) (c':={c with I:=2,bX:=I}) (r:=[(.int .i64 I)]) 4 rfl rfl rfl) (ai (fH bc.len aH (hC J) (c:={c with I:=2,bX:=I}) (c':={c with I:=2,bX:=I,v:=v}) (r:=[(.int .i64 v)]) 5 rfl rfl rfl) (ai eV (ai cS (eK hn bu eU rb (Pr n o len m p lo nT nS T V S aj ah c q ak an i th tx I v x ab) (⟨⟨h3,by omega⟩,rfl,rfl⟩)))))))))))))) dp)))))))) jj)))))) aA)
end eG
end
section
open Go Go.Rn Go.RowKit Go.Proofs
namespace eG
open cd cj cv cD cH cI cN gw eW fy fm fA
abbrev Ps(n o len m p lo nT nS:Nat)(T V S:Int)(aj:List Th)(ah:List Sr)(c:Th)(q:Sr)(ak an i th tx I v x ab:Int):bz:=fun fr s1 _=>((aB 3 th tx I v x ab (nT:Int) V (nS:Int)/\(c.I=2/\Int.tmod I (nS:Int)=c.bX/\q.owner= -1/\q.version=c.v))/\FC (aP n o len m p lo nT nS T V S (aj.set th.toNat {c with I:=1,read:=(aq .or .u32 c.read (aq .shl .u32 1 c.bX))}) ah ak (an+1) (i+1)) fr s1)
theorem ev3{B:aZ}(mc:Mc (sp LN) 6 B){n o len m p lo nT nS:Nat}{T V S:Int}{aj:List Th}{ah:List Sr}{c:Th}{q:Sr}{ak an i th tx I v x ab:Int}{v':AV}(H_:jV n o len m nT nS V aj ah c an i 3 th tx I v x ab)(hQ:0<=c.bX/\c.bX<(nS:Int)->ah[(c.bX).toNat]? =some q)(hF:¬(aB 3 th tx I v x ab (nT:Int) V (nS:Int)/\(c.I=2/\Int.tmod I (nS:Int)=c.bX/\q.owner= -1/\q.version=c.v))->v'= .bool false)(H0:(aB 3 th tx I v x ab (nT:Int) V (nS:Int)/\(c.I=2/\Int.tmod I (nS:Int)=c.bX/\q.owner= -1/\q.version=c.v))->FSQ B v' cg (aP n o len m p lo nT nS T V S (aj.set th.toNat {c with I:=1,read:=(aq .or .u32 c.read (aq .shl .u32 1 c.bX))}) ah ak (an+1) (i+1))):FSQ B v' cg (aP n o len m p lo nT nS T V S aj ah ak an i):=by
 obtain⟨ho,hn,bu,hlen,h0,hi,bB,hV,bE,de,aH,bA,cZ,c7,aT,hC⟩:=H_
 have cu:=ho;simp only[dF,bL] at cu
 exact wC mc (C:=(Ps n o len m p lo nT nS T V S aj ah c q ak an i th tx I v x ab)) (gj H0) 2000 ((fun(q1:Pl)=>((fun(q2:Pl)=>(gJ 1 (.fk (gE 6 (.bI (.bJ (bn (.ofNat 3) th tx I v x ab) (gA 2 1 2 (.il (gC 8 4 (.fk .no (gA 1 2 15 (.kp (aB 3 th tx I v x ab (nT:Int) V (nS:Int)) inferInstance (gA 2 7 11 (.ix (.go 1 (.il (gC 4 3 (.ld [(.int .i64 c.I)] (.fk (.go 21 q2) (.go 8 (.rm (.go 3 (.ld [(.int .i64 c.bX)] (.fk (.go 7 q2) (.go 4 (.il (gC 3 4 (.ld [(.int .i64 c.bX)] (.il (gC 3 5 (.ix (.go 1 (.ld [(.int .i64 q.owner)] (.fk (gH 1 1 (.go 8 (.ld [(.int .i64 c.bX)] (.ix (.go 1 (.ld [(.int .i64 q.version)] (.go 3 (.ld [(.int .i64 c.v)] (.fk (gH 2 1 (gA 2 3 3 (.dj (aD dc (aj.set th.toNat {c with I:=1})) (gB 1 3 (.ld [(.int .u32 c.read)] (.go 3 (.ld [(.int .i64 c.bX)] (.sh (.go 3 (.dj (aD dc (aj.set th.toNat {c with I:=1,read:=(aq .or .u32 c.read (aq .shl .u32 1 c.bX))})) (gI 3 (gA 1 3 4 (.vl (.int .i64 (an+1)) (gH 3 3 (gD 1 3 (.vl (.int .i64 (i+1)) (gK 1 1 (.bk (aP n o len m p lo nT nS T V S (aj.set th.toNat {c with I:=1,read:=(aq .or .u32 c.read (aq .shl .u32 1 c.bX))}) ah ak (an+1) (i+1)).l (ay++(aP n o len m p lo nT nS T V S (aj.set th.toNat {c with I:=1,read:=(aq .or .u32 c.read (aq .shl .u32 1 c.bX))}) ah ak (an+1) (i+1)).o) 275 .no)))))))))))))))))) (gH 2 1 (.go 2 q2))))))))))) (gH 1 1 (gH 19 1 (.go 2 q2))))))))))))))))))))))))) (.go 2 q1)))))))))) .no))) (gI 4 (.go 1 q1)))) (gI 4 (gF 1 4))) (U (i<(len:Int)) (fun _=>aV i (len:Int) J J (ai hn (ai (c9 bB 0 7 ar) (U (an>=1048576) aA (fun _=>ai (jt 3 th tx I v x ab (nT:Int) V (nS:Int) ⟨ho,by unfold bL;omega⟩) (U (aB 3 th tx I v x ab (nT:Int) V (nS:Int)) (fun h3=>have hm:=eh h3;(have fF:=jU aT;(have hm1:=Int.tmod_nonneg (nS:Int) (show 0<=I by omega);(have Di:=Int.tmod_lt_of_pos I (show(0:Int)<(nS:Int) by omega);(aV th (nT:Int) J J (ai (bN bc.len aH (hC J) 0 1 rfl) (U (c.I≠2) dp (fun _=>ai (show(nS:Int)≠0 from by omega) (ai (bN bc.len aH (hC J) 4 1 rfl) (U ((Int.tmod I (nS:Int))≠c.bX) dp (fun _=>ai (bN bc.len aH (hC J) 4 1 rfl) (aV c.bX (nS:Int) J J (ai (bN fh.len bA (hQ J) 0 1 rfl) (U (q.owner=(-1)) (fun _=>ai (bN bc.len aH (hC J) 4 1 rfl) (aV c.bX (nS:Int) J J (ai (bN fh.len bA (hQ J) 1 1 rfl) (ai (bN bc.len aH (hC J) 5 1 rfl) (U (q.version=c.v) (fun _=>ai (fR bc.len aH (hC J) (c':={c with I:=1}) (r:=[(.int .i64 (.ofNat 1))]) 0 rfl rfl rfl) (ai (iO bc.len aH (hC J) (c:={c with I:=1}) 6 1 rfl) (ai (iO bc.len aH (hC J) (c:={c with I:=1}) 4 1 rfl) (ai (show(0:Int)<=c.bX from J) (ai (fH bc.len aH (hC J) (c:={c with I:=1}) (c':={c with I:=1,read:=(aq .or .u32 c.read (aq .shl .u32 1 c.bX))}) (r:=[(.int .u32 ((aq .or .u32 c.read (aq .shl .u32 1 c.bX))))]) 6 rfl rfl rfl) (ai eV (ai cS (eK hn bu eU gd (Ps n o len m p lo nT nS T V S aj ah c q ak an i th tx I v x ab) (⟨⟨h3,by omega⟩,rfl,rfl⟩))))))))) dp))))) dp)))))))))))))) jj)))))) aA)
end eG
end
section
open Go Go.Rn Go.RowKit Go.Proofs
namespace eG
open cd cj cv cD cH cI cN gw eW fy fm fA
abbrev OE(n o len m p lo nT nS:Nat)(T V S:Int)(aj:List Th)(ah:List Sr)(c:Th)(q:Sr)(ak an i th tx I v x ab:Int):bz:=fun fr s1 _=>((aB 4 th tx I v x ab (nT:Int) V (nS:Int)/\((c.I=1\/c.I=3)/\c.ao<I/\q.owner= -1))/\FC (aP n o len m p lo nT nS T V S (aj.set th.toNat {c with I:=3,au:=(aq .or .u32 c.au (aq .shl .u32 1 I)),ao:=I}) (ah.set I.toNat {q with owner:=th}) ak (an+1) (i+1)) fr s1)
theorem ev4{B:aZ}(mc:Mc (sp LN) 6 B){n o len m p lo nT nS:Nat}{T V S:Int}{aj:List Th}{ah:List Sr}{c:Th}{q:Sr}{ak an i th tx I v x ab:Int}{v':AV}(H_:jV n o len m nT nS V aj ah c an i 4 th tx I v x ab)(hQ:0<=I/\I<(nS:Int)->ah[(I).toNat]? =some q)(hF:¬(aB 4 th tx I v x ab (nT:Int) V (nS:Int)/\((c.I=1\/c.I=3)/\c.ao<I/\q.owner= -1))->v'= .bool false)(H0:(aB 4 th tx I v x ab (nT:Int) V (nS:Int)/\((c.I=1\/c.I=3)/\c.ao<I/\q.owner= -1))->FSQ B v' cg (aP n o len m p lo nT nS T V S (aj.set th.toNat {c with I:=3,au:=(aq .or .u32 c.au (aq .shl .u32 1 I)),ao:=I}) (ah.set I.toNat {q with owner:=th}) ak (an+1) (i+1))):FSQ B v' cg (aP n o len m p lo nT nS T V S aj ah ak an i):=by
 obtain⟨ho,hn,bu,hlen,h0,hi,bB,hV,bE,de,aH,bA,cZ,c7,aT,hC⟩:=H_
 have cu:=ho;simp only[dF,bL] at cu
 exact wC mc (C:=(OE n o len m p lo nT nS T V S aj ah c q ak an i th tx I v x ab)) (gj H0) 2000 ((fun(q1:Pl)=>((fun(q2:Pl)=>((fun(q3:Pl)=>(gJ 1 (.fk (gE 6 (.bI (.bJ (bn (.ofNat 4) th tx I v x ab) (gA 2 1 2 (.il (gC 8 4 (.fk .no (gA 1 2 15 (.kp (aB 4 th tx I v x ab (nT:Int) V (nS:Int)) inferInstance (gA 2 7 11 (.ix (.go 1 (.il (gC 4 3 (.ld [(.int .i64 c.I)] (.fk (.go 4 (.ld [(.int .i64 c.I)] (.fk (.go 17 q2) (.go 7 q3)))) (.go 13 q3)))))))) (.go 2 q1)))))))))) .no))) (.ld [(.int .i64 c.ao)] (.fk (.go 8 q2) (.go 5 (.il (gC 3 5 (.ix (.go 1 (.ld [(.int .i64 q.owner)] (.fk (gH 1 1 (gA 2 3 6 (.dj (aD dc (aj.set th.toNat {c with I:=3})) (.go 2 (.dj (aD dc (aj.set th.toNat {c with I:=3,ao:=I})) (gB 1 3 (.ld [(.int .u32 c.au)] (.go 2 (.sh (.go 3 (.dj (aD dc (aj.set th.toNat {c with I:=3,au:=(aq .or .u32 c.au (aq .shl .u32 1 I)),ao:=I})) (gB 1 8 (.ix (.go 1 (.dj (aD nM (ah.set I.toNat {q with owner:=th})) (gI 3 (gA 1 3 4 (.vl (.int .i64 (an+1)) (gH 3 3 (gD 1 3 (.vl (.int .i64 (i+1)) (gK 1 1 (.bk (aP n o len m p lo nT nS T V S (aj.set th.toNat {c with I:=3,au:=(aq .or .u32 c.au (aq .shl .u32 1 I)),ao:=I}) (ah.set I.toNat {q with owner:=th}) ak (an+1) (i+1)).l (ay++(aP n o len m p lo nT nS T V S (aj.set th.toNat {c with I:=3,au:=(aq .or .u32 c.au (aq .shl .u32 1 I)),ao:=I}) (ah.set I.toNat {q with owner:=th}) ak (an+1) (i+1)).o) 275 .no))))))))))))))))))))))) (gH 1 1 (.go 2 q2))))))))))))) (gI 4 (.go 1 q1)))) (gI 4 (gF 1 4))) (U (i<(len:Int)) (fun _=>aV i (len:Int) J J (ai hn (ai (c9 bB 0 7 ar) (U (an>=1048576) aA (fun _=>ai (jt 4 th tx I v x ab (nT:Int) V (nS:Int) ⟨ho,by unfold bL;omega⟩) (U (aB 4 th tx I v x ab (nT:Int) V (nS:Int)) (fun h3=>have hm:=eh h3;(have fF:=jU aT;(aV th (nT:Int) J J (ai (bN bc.len aH (hC J) 0 1 rfl) (U (c.I≠1) (fun _=>ai (bN bc.len aH (hC J) 0 1 rfl) (U (c.I≠3) dp OD)) OD))))) jj)))))) aA)
end eG
end
section
open Go Go.Rn Go.RowKit Go.Proofs
namespace eG
open cd cj cv cD cH cI cN gw eW fy fm fA
abbrev H4(n o len m p lo nT nS:Nat)(T V S:Int)(aj:List Th)(ah:List Sr)(c:Th)(ak an i th tx I v x ab:Int):bz:=fun fr s1 _=>((aB 5 th tx I v x ab (nT:Int) V (nS:Int)/\(c.I=3/\ak<v)/\(v≠(c.rv+1)))/\FC (aP n o len m p lo nT nS T V S (aj.set th.toNat {c with I:=4,wv:=v,check:=c.read}) ah v (an+1) (i+1)) fr s1)\/((aB 5 th tx I v x ab (nT:Int) V (nS:Int)/\(c.I=3/\ak<v)/\(¬(v≠(c.rv+1))))/\FC (aP n o len m p lo nT nS T V S (aj.set th.toNat {c with I:=4,wv:=v}) ah v (an+1) (i+1)) fr s1)
theorem ev5{B:aZ}(mc:Mc (sp LN) 6 B){n o len m p lo nT nS:Nat}{T V S:Int}{aj:List Th}{ah:List Sr}{c:Th}{q:Sr}{ak an i th tx I v x ab:Int}{v':AV}(H_:jV n o len m nT nS V aj ah c an i 5 th tx I v x ab)(hQ:0<=I/\I<(nS:Int)->ah[(I).toNat]? =some q)(hF:¬(aB 5 th tx I v x ab (nT:Int) V (nS:Int)/\(c.I=3/\ak<v))->v'= .bool false)(H0:(aB 5 th tx I v x ab (nT:Int) V (nS:Int)/\(c.I=3/\ak<v)/\(v≠(c.rv+1)))->FSQ B v' cg (aP n o len m p lo nT nS T V S (aj.set th.toNat {c with I:=4,wv:=v,check:=c.read}) ah v (an+1) (i+1)))(H1:(aB 5 th tx I v x ab (nT:Int) V (nS:Int)/\(c.I=3/\ak<v)/\(¬(v≠(c.rv+1))))->FSQ B v' cg (aP n o len m p lo nT nS T V S (aj.set th.toNat {c with I:=4,wv:=v}) ah v (an+1) (i+1))):FSQ B v' cg (aP n o len m p lo nT nS T V S aj ah ak an i):=by
 obtain⟨ho,hn,bu,hlen,h0,hi,bB,hV,bE,de,aH,bA,cZ,c7,aT,hC⟩:=H_
 have cu:=ho;simp only[dF,bL] at cu
 exact wC mc (C:=(H4 n o len m p lo nT nS T V S aj ah c ak an i th tx I v x ab)) (lP H0 H1) 2000 ((fun(q1:Pl)=>(gJ 1 (.fk (gE 6 (.bI (.bJ (bn (.ofNat 5) th tx I v x ab) (gA 2 1 2 (.il (gC 8 4 (.fk .no (gA 1 2 15 (.kp (aB 5 th tx I v x ab (nT:Int) V (nS:Int)) inferInstance (gA 2 7 11 (.ix (.go 1 (.il (gC 4 3 (.ld [(.int .i64 c.I)] (.fk (gH 9 4 (.go 1 q1)) (.go 7 (.fk (gH 1 4 (.go 1 q1)) (gA 1 5 6 (.dj (aD dc (aj.set th.toNat {c with I:=4})) (.go 2 (.dj (aD dc (aj.set th.toNat {c with I:=4,wv:=v})) (gB 2 5 (.ld [(.int .i64 c.rv)] (.vl (.int .i64 (c.rv+1)) (.fk (gB 1 4 (.ld [(.int .u32 c.read)] (.go 2 (.dj (aD dc (aj.set th.toNat {c with I:=4,wv:=v,check:=c.read})) (gI 3 (gA 1 3 4 (.vl (.int .i64 (an+1)) (gH 3 3 (gD 1 3 (.vl (.int .i64 (i+1)) (gK 1 1 (.bk (aP n o len m p lo nT nS T V S (aj.set th.toNat {c with I:=4,wv:=v,check:=c.read}) ah v (an+1) (i+1)).l (ay++(aP n o len m p lo nT nS T V S (aj.set th.toNat {c with I:=4,wv:=v,check:=c.read}) ah v (an+1) (i+1)).o) 275 .no)))))))))))) (gI 5 (gA 1 3 4 (.vl (.int .i64 (an+1)) (gH 3 3 (gD 1 3 (.vl (.int .i64 (i+1)) (gK 1 1 (.bk (aP n o len m p lo nT nS T V S (aj.set th.toNat {c with I:=4,wv:=v}) ah v (an+1) (i+1)).l (ay++(aP n o len m p lo nT nS T V S (aj.set th.toNat {c with I:=4,wv:=v}) ah v (an+1) (i+1)).o) 275 .no))))))))))))))))))))))))) (.go 2 q1)))))))))) .no))) (gI 4 (gF 1 4))) (U (i<(len:Int)) (fun _=>aV i (len:Int) J J (ai hn (ai (c9 bB 0 7 ar) (U (an>=1048576) aA (fun _=>ai (jt 5 th tx I v x ab (nT:Int) V (nS:Int) ⟨ho,by unfold bL;omega⟩) (U (aB 5 th tx I v x ab (nT:Int) V (nS:Int)) (fun h3=>have hm:=eh h3;(have fF:=jU aT;(aV th (nT:Int) J J (ai (bN bc.len aH (hC J) 0 1 rfl) (U (c.I≠3) dp (fun _=>U (v<=ak) dp (fun _=>ai (fR bc.len aH (hC J) (c':={c with I:=4}) (r:=[(.int .i64 (.ofNat 4))]) 0 rfl rfl rfl) (ai (fH bc.len aH (hC J) (c:={c with I:=4}) (c':={c with I:=4,wv:=v}) (r:=[(.int .i64 v)]) 3 rfl rfl rfl) (ai (iO bc.len aH (hC J) (c:={c with I:=4,wv:=v}) 2 1 rfl) (ai (wI (c.rv+1) J) (U (v≠(c.rv+1)) (fun h6=>ai (iO bc.len aH (hC J) (c:={c with I:=4,wv:=v}) 6 1 rfl) (ai (fH bc.len aH (hC J) (c:={c with I:=4,wv:=v}) (c':={c with I:=4,wv:=v,check:=c.read}) (r:=[(.int .u32 c.read)]) 9 rfl rfl rfl) (ai eV (ai cS (eK hn bu eU gd (H4 n o len m p lo nT nS T V S aj ah c ak an i th tx I v x ab) ((.inl ⟨⟨h3,by omega,h6⟩,rfl,rfl⟩))))))) (fun h6=>ai eV (ai cS (eK hn bu eU gd (H4 n o len m p lo nT nS T V S aj ah c ak an i th tx I v x ab) (.inr (⟨⟨h3,by omega,h6⟩,rfl,rfl⟩)))))))))))))))) jj)))))) aA)
end eG
end
section
open Go Go.Rn Go.RowKit Go.Proofs
namespace eG
open cd cj cv cD cH cI cN gw eW fy fm fA
abbrev ON(n o len m p lo nT nS:Nat)(T V S:Int)(aj:List Th)(ah:List Sr)(c:Th)(q:Sr)(ak an i th tx I v x ab:Int):bz:=fun fr s1 _=>((aB 6 th tx I v x ab (nT:Int) V (nS:Int)/\(c.I=4/\I=eB c.check/\¬(q.owner≠ -1/\q.owner≠th)/\q.version<=c.rv))/\FC (aP n o len m p lo nT nS T V S (aj.set th.toNat {c with check:=(aq .andNot .u32 c.check (aq .shl .u32 1 I))}) ah ak (an+1) (i+1)) fr s1)
theorem ev6{B:aZ}(mc:Mc (sp LN) 6 B){n o len m p lo nT nS:Nat}{T V S:Int}{aj:List Th}{ah:List Sr}{c:Th}{q:Sr}{ak an i th tx I v x ab:Int}{v':AV}(H_:jV n o len m nT nS V aj ah c an i 6 th tx I v x ab)(hQ:0<=I/\I<(nS:Int)->ah[(I).toNat]? =some q)(hF:¬(aB 6 th tx I v x ab (nT:Int) V (nS:Int)/\(c.I=4/\I=eB c.check/\¬(q.owner≠ -1/\q.owner≠th)/\q.version<=c.rv))->v'= .bool false)(H0:(aB 6 th tx I v x ab (nT:Int) V (nS:Int)/\(c.I=4/\I=eB c.check/\¬(q.owner≠ -1/\q.owner≠th)/\q.version<=c.rv))->FSQ B v' cg (aP n o len m p lo nT nS T V S (aj.set th.toNat {c with check:=(aq .andNot .u32 c.check (aq .shl .u32 1 I))}) ah ak (an+1) (i+1))):FSQ B v' cg (aP n o len m p lo nT nS T V S aj ah ak an i):=by
 obtain⟨ho,hn,bu,hlen,h0,hi,bB,hV,bE,de,aH,bA,cZ,c7,aT,hC⟩:=H_
 have cu:=ho;simp only[dF,bL] at cu
 exact wC mc (C:=(ON n o len m p lo nT nS T V S aj ah c q ak an i th tx I v x ab)) (gj H0) 2000 ((fun(q1:Pl)=>((fun(q2:Pl)=>((fun(q3:Pl)=>(gJ 1 (.fk (gE 6 (.bI (.bJ (bn (.ofNat 6) th tx I v x ab) (gA 2 1 2 (.il (gC 8 4 (.fk .no (gA 1 2 15 (.kp (aB 6 th tx I v x ab (nT:Int) V (nS:Int)) inferInstance (gA 2 7 11 (.ix (.go 1 (.il (gC 4 3 (.ld [(.int .i64 c.I)] (.fk (.go 24 q2) (.go 6 (.ld [(.int .u32 c.check)] (.il (gC 3 1 (.kn (.int .i64 ((eB c.check))) (gH 1 1 (.fk (.go 15 q2) (.go 6 (.il (gC 3 2 (.il (gC 3 5 (.ix (.go 1 (.ld [(.int .i64 q.owner)] (.fk (gH 1 1 (.go 15 q3)) (gH 1 1 (.go 7 (.ix (.go 1 (.ld [(.int .i64 q.owner)] (.go 2 (.fk (gH 2 1 (.go 8 q2)) (.go 2 q3))))))))))))))))))))))))))))))) (.go 2 q1)))))))))) .no))) (gI 1 (.go 6 (.il (gC 3 5 (.ix (.go 1 (.ld [(.int .i64 q.version)] (.go 3 (.ld [(.int .i64 c.rv)] (.fk (gH 1 1 (.go 1 q2)) (gH 1 1 (gA 1 3 3 (.ld [(.int .u32 c.check)] (.go 2 (.sh (.go 3 (.dj (aD dc (aj.set th.toNat {c with check:=(aq .andNot .u32 c.check (aq .shl .u32 1 I))})) (gI 3 (gA 1 3 4 (.vl (.int .i64 (an+1)) (gH 3 3 (gD 1 3 (.vl (.int .i64 (i+1)) (gK 1 1 (.bk (aP n o len m p lo nT nS T V S (aj.set th.toNat {c with check:=(aq .andNot .u32 c.check (aq .shl .u32 1 I))}) ah ak (an+1) (i+1)).l (ay++(aP n o len m p lo nT nS T V S (aj.set th.toNat {c with check:=(aq .andNot .u32 c.check (aq .shl .u32 1 I))}) ah ak (an+1) (i+1)).o) 275 .no))))))))))))))))))))))))))) (gI 4 (.go 1 q1)))) (gI 4 (gF 1 4))) (U (i<(len:Int)) (fun _=>aV i (len:Int) J J (ai hn (ai (c9 bB 0 7 ar) (U (an>=1048576) aA (fun _=>ai (jt 6 th tx I v x ab (nT:Int) V (nS:Int) ⟨ho,by unfold bL;omega⟩) (U (aB 6 th tx I v x ab (nT:Int) V (nS:Int)) (fun h3=>have hm:=eh h3;(have fF:=jU aT;(aV th (nT:Int) J J (ai (bN bc.len aH (hC J) 0 1 rfl) (U (c.I≠4) dp (fun _=>ai (bN bc.len aH (hC J) 9 1 rfl) (ai (zj c.check J) (U (I≠(eB c.check)) dp (fun _=>aV I (nS:Int) J J (ai (bN fh.len bA (hQ J) 0 1 rfl) (U (q.owner=(-1)) OM (fun _=>aV I (nS:Int) J J (ai (bN fh.len bA (hQ J) 0 1 rfl) (U (q.owner≠th) dp OM)))))))))))))) jj)))))) aA)
end eG
end
section
open Go Go.Rn Go.RowKit Go.Proofs
namespace eG
open cd cj cv cD cH cI cN gw eW fy fm fA
abbrev H5(n o len m p lo nT nS:Nat)(T V S:Int)(aj:List Th)(ah:List Sr)(c:Th)(ak an i th tx I v x ab:Int):bz:=fun fr s1 _=>((aB 7 th tx I v x ab (nT:Int) V (nS:Int)/\(v=0/\c.I=1\/v≠0/\c.I=4/\c.check=0/\v=c.wv)/\(v=0))/\FC (aP n o len m p lo nT nS T V S (aj.set th.toNat {c with I:=0,cc:=(c.cc+1)}) ah ak (an+1) (i+1)) fr s1)\/((aB 7 th tx I v x ab (nT:Int) V (nS:Int)/\(v=0/\c.I=1\/v≠0/\c.I=4/\c.check=0/\v=c.wv)/\(¬(v=0)))/\FC (aP n o len m p lo nT nS T V S (aj.set th.toNat {c with I:=5}) ah ak (an+1) (i+1)) fr s1)
theorem ev7{B:aZ}(mc:Mc (sp LN) 6 B){n o len m p lo nT nS:Nat}{T V S:Int}{aj:List Th}{ah:List Sr}{c:Th}{q:Sr}{ak an i th tx I v x ab:Int}{v':AV}(H_:jV n o len m nT nS V aj ah c an i 7 th tx I v x ab)(hQ:0<=I/\I<(nS:Int)->ah[(I).toNat]? =some q)(hF:¬(aB 7 th tx I v x ab (nT:Int) V (nS:Int)/\(v=0/\c.I=1\/v≠0/\c.I=4/\c.check=0/\v=c.wv))->v'= .bool false)(H0:(aB 7 th tx I v x ab (nT:Int) V (nS:Int)/\(v=0/\c.I=1\/v≠0/\c.I=4/\c.check=0/\v=c.wv)/\(v=0))->FSQ B v' cg (aP n o len m p lo nT nS T V S (aj.set th.toNat {c with I:=0,cc:=(c.cc+1)}) ah ak (an+1) (i+1)))(H1:(aB 7 th tx I v x ab (nT:Int) V (nS:Int)/\(v=0/\c.I=1\/v≠0/\c.I=4/\c.check=0/\v=c.wv)/\(¬(v=0)))->FSQ B v' cg (aP n o len m p lo nT nS T V S (aj.set th.toNat {c with I:=5}) ah ak (an+1) (i+1))):FSQ B v' cg (aP n o len m p lo nT nS T V S aj ah ak an i):=by
 obtain⟨ho,hn,bu,hlen,h0,hi,bB,hV,bE,de,aH,bA,cZ,c7,aT,hC⟩:=H_
 have cu:=ho;simp only[dF,bL] at cu
 exact wC mc (C:=(H5 n o len m p lo nT nS T V S aj ah c ak an i th tx I v x ab)) (lP H0 H1) 2000 ((fun(q1:Pl)=>((fun(q2:Pl)=>(gJ 1 (.fk (gE 6 (.bI (.bJ (bn (.ofNat 7) th tx I v x ab) (gA 2 1 2 (.il (gC 8 4 (.fk .no (gA 1 2 15 (.kp (aB 7 th tx I v x ab (nT:Int) V (nS:Int)) inferInstance (gA 2 7 11 (.ix (.go 1 (.il (gC 5 2 (.fk (.go 4 (.ld [(.int .i64 c.I)] (.fk (gA 2 1 1 (.il (gC 1 3 (.dj (aD dc (aj.set th.toNat {c with I:=0})) (.en (.rg (.go 3 (.ld [(.int .i64 c.cc)] (.vl (.int .i64 (c.cc+1)) (.go 2 (.dj (aD dc (aj.set th.toNat {c with I:=0,cc:=(c.cc+1)})) (gI 1 (gI 4 (gA 1 3 4 (.vl (.int .i64 (an+1)) (gH 3 3 (gD 1 3 (.vl (.int .i64 (i+1)) (gK 1 1 (.bk (aP n o len m p lo nT nS T V S (aj.set th.toNat {c with I:=0,cc:=(c.cc+1)}) ah ak (an+1) (i+1)).l (ay++(aP n o len m p lo nT nS T V S (aj.set th.toNat {c with I:=0,cc:=(c.cc+1)}) ah ak (an+1) (i+1)).o) 275 .no)))))))))))))))))))) (gA 2 2 2 (.fk .no (.go 24 q2)))))) (gA 8 2 2 (.fk (.go 4 (.ld [(.int .i64 c.I)] (.fk (.go 5 (.ld [(.int .u32 c.check)] (.fk (.go 7 (.ld [(.int .i64 c.wv)] (.fk (gA 2 1 3 (.dj (aD dc (aj.set th.toNat {c with I:=5})) (gI 4 (gA 1 3 4 (.vl (.int .i64 (an+1)) (gH 3 3 (gD 1 3 (.vl (.int .i64 (i+1)) (gK 1 1 (.bk (aP n o len m p lo nT nS T V S (aj.set th.toNat {c with I:=5}) ah ak (an+1) (i+1)).l (ay++(aP n o len m p lo nT nS T V S (aj.set th.toNat {c with I:=5}) ah ak (an+1) (i+1)).o) 275 .no)))))))))) (.go 2 q2)))) (.go 11 q2)))) (.go 18 q2)))) .no)))))))) (.go 2 q1)))))))))) .no))) (gI 4 (.go 1 q1)))) (gI 4 (gF 1 4))) (U (i<(len:Int)) (fun _=>aV i (len:Int) J J (ai hn (ai (c9 bB 0 7 ar) (U (an>=1048576) aA (fun _=>ai (jt 7 th tx I v x ab (nT:Int) V (nS:Int) ⟨ho,by unfold bL;omega⟩) (U (aB 7 th tx I v x ab (nT:Int) V (nS:Int)) (fun h3=>have hm:=eh h3;(have fF:=jU aT;(aV th (nT:Int) J J (U (v=0) (fun h4=>ai (bN bc.len aH (hC J) 0 1 rfl) (U (c.I=1) (fun _=>ai (fR bc.len aH (hC J) (c':={c with I:=0}) (r:=[(.int .i64 (.ofNat 0))]) 0 rfl rfl rfl) (ai (iO bc.len aH (hC J) (c:={c with I:=0}) 1 1 rfl) (ai (wI (c.cc+1) J) (ai (fH bc.len aH (hC J) (c:={c with I:=0}) (c':={c with I:=0,cc:=(c.cc+1)}) (r:=[(.int .i64 ((c.cc+1)))]) 1 rfl rfl rfl) (ai eV (ai cS (eK hn bu eU gd (H5 n o len m p lo nT nS T V S aj ah c ak an i th tx I v x ab) ((.inl ⟨⟨h3,by omega,h4⟩,rfl,rfl⟩))))))))) (fun _=>U (v≠0) aA dp))) (fun h4=>U (v≠0) (fun _=>ai (bN bc.len aH (hC J) 0 1 rfl) (U (c.I=4) (fun _=>ai (bN bc.len aH (hC J) 9 1 rfl) (U (c.check=0) (fun _=>ai (bN bc.len aH (hC J) 3 1 rfl) (U (v=c.wv) (fun _=>ai (fR bc.len aH (hC J) (c':={c with I:=5}) (r:=[(.int .i64 (.ofNat 5))]) 0 rfl rfl rfl) (ai eV (ai cS (eK hn bu eU gd (H5 n o len m p lo nT nS T V S aj ah c ak an i th tx I v x ab) (.inr (⟨⟨h3,by omega,h4⟩,rfl,rfl⟩)))))) dp)) dp)) dp)) aA))))) jj)))))) aA)
end eG
end
section
open Go Go.Rn Go.RowKit Go.Proofs
namespace eG
open cd cj cv cD cH cI cN gw eW fy fm fA
abbrev Pt(n o len m p lo nT nS:Nat)(T V S:Int)(aj:List Th)(ah:List Sr)(c:Th)(ak an i th tx I v x ab:Int):bz:=fun fr s1 _=>((aB 8 th tx I v x ab (nT:Int) V (nS:Int)/\(c.I=5/\c.gx<I/\aq .and .u32 (aq .shr .u32 c.au (Int.tmod I (nS:Int))) 1≠0))/\FC (aP n o len m p lo nT nS T V S (aj.set th.toNat {c with aC:=(aq .or .u32 c.aC (aq .shl .u32 1 (Int.tmod I (nS:Int)))),gx:=I}) ah ak (an+1) (i+1)) fr s1)
theorem ev8{B:aZ}(mc:Mc (sp LN) 6 B){n o len m p lo nT nS:Nat}{T V S:Int}{aj:List Th}{ah:List Sr}{c:Th}{q:Sr}{ak an i th tx I v x ab:Int}{v':AV}(H_:jV n o len m nT nS V aj ah c an i 8 th tx I v x ab)(hQ:0<=I/\I<(nS:Int)->ah[(I).toNat]? =some q)(hF:¬(aB 8 th tx I v x ab (nT:Int) V (nS:Int)/\(c.I=5/\c.gx<I/\aq .and .u32 (aq .shr .u32 c.au (Int.tmod I (nS:Int))) 1≠0))->v'= .bool false)(H0:(aB 8 th tx I v x ab (nT:Int) V (nS:Int)/\(c.I=5/\c.gx<I/\aq .and .u32 (aq .shr .u32 c.au (Int.tmod I (nS:Int))) 1≠0))->FSQ B v' cg (aP n o len m p lo nT nS T V S (aj.set th.toNat {c with aC:=(aq .or .u32 c.aC (aq .shl .u32 1 (Int.tmod I (nS:Int)))),gx:=I}) ah ak (an+1) (i+1))):FSQ B v' cg (aP n o len m p lo nT nS T V S aj ah ak an i):=by
 obtain⟨ho,hn,bu,hlen,h0,hi,bB,hV,bE,de,aH,bA,cZ,c7,aT,hC⟩:=H_
 have cu:=ho;simp only[dF,bL] at cu
 exact wC mc (C:=(Pt n o len m p lo nT nS T V S aj ah c ak an i th tx I v x ab)) (gj H0) 2000 ((fun(q1:Pl)=>((fun(q2:Pl)=>(gJ 1 (.fk (gE 6 (.bI (.bJ (bn (.ofNat 8) th tx I v x ab) (gA 2 1 2 (.il (gC 8 4 (.fk .no (gA 1 2 15 (.kp (aB 8 th tx I v x ab (nT:Int) V (nS:Int)) inferInstance (gA 2 7 11 (.ix (.go 1 (.il (gC 3 7 (.rm (gA 1 2 3 (.ld [(.int .i64 c.I)] (.fk (.go 19 q2) (.go 6 (.ld [(.int .i64 c.gx)] (.fk (.go 11 q2) (.go 5 (.ld [(.int .u32 c.au)] (.go 1 (.sh (.go 1 (.fk (.go 1 q2) (gA 1 3 5 (.dj (aD dc (aj.set th.toNat {c with gx:=I})) (gB 1 3 (.ld [(.int .u32 c.aC)] (.go 1 (.sh (.go 3 (.dj (aD dc (aj.set th.toNat {c with aC:=(aq .or .u32 c.aC (aq .shl .u32 1 (Int.tmod I (nS:Int)))),gx:=I})) (gI 3 (gA 1 3 4 (.vl (.int .i64 (an+1)) (gH 3 3 (gD 1 3 (.vl (.int .i64 (i+1)) (gK 1 1 (.bk ((aP n o len m p lo nT nS T V S (aj.set th.toNat {c with aC:=(aq .or .u32 c.aC (aq .shl .u32 1 (Int.tmod I (nS:Int)))),gx:=I}) ah ak (an+1) (i+1)).l) (ay++((aP n o len m p lo nT nS T V S (aj.set th.toNat {c with aC:=(aq .or .u32 c.aC (aq .shl .u32 1 (Int.tmod I (nS:Int)))),gx:=I}) ah ak (an+1) (i+1)).o)) 275 .no)))))))))))))))))))))))))))))))))) (.go 2 q1)))))))))) .no))) (gI 4 (.go 1 q1)))) (gI 4 (gF 1 4))) (U (i<(len:Int)) (fun _=>aV i (len:Int) J J (ai hn (ai (c9 bB 0 7 ar) (U (an>=1048576) aA (fun _=>ai (jt 8 th tx I v x ab (nT:Int) V (nS:Int) ⟨ho,by unfold bL;omega⟩) (U (aB 8 th tx I v x ab (nT:Int) V (nS:Int)) (fun h3=>have hm:=eh h3;(have fF:=jU aT;(have hm1:=Int.tmod_nonneg (nS:Int) (show 0<=I by omega);(have Di:=Int.tmod_lt_of_pos I (show(0:Int)<(nS:Int) by omega);(aV th (nT:Int) J J (ai (show(nS:Int)≠0 from by omega) (ai (bN bc.len aH (hC J) 0 1 rfl) (U (c.I≠5) dp (fun _=>ai (bN bc.len aH (hC J) 11 1 rfl) (U (I<=c.gx) dp (fun _=>ai (bN bc.len aH (hC J) 7 1 rfl) (ai (show(0:Int)<=(Int.tmod I (nS:Int)) from J) (U ((aq .and .u32 (aq .shr .u32 c.au (Int.tmod I (nS:Int))) 1)=0) dp (fun _=>ai (fR bc.len aH (hC J) (c':={c with gx:=I}) (r:=[(.int .i64 I)]) 11 rfl rfl rfl) (ai (iO bc.len aH (hC J) (c:={c with gx:=I}) 8 1 rfl) (ai (show(0:Int)<=(Int.tmod I (nS:Int)) from J) (ai (fH bc.len aH (hC J) (c:={c with gx:=I}) (c':={c with aC:=(aq .or .u32 c.aC (aq .shl .u32 1 (Int.tmod I (nS:Int)))),gx:=I}) (r:=[(.int .u32 ((aq .or .u32 c.aC (aq .shl .u32 1 (Int.tmod I (nS:Int))))))]) 8 rfl rfl rfl) (ai eV (ai cS (eK hn bu eU gd (Pt n o len m p lo nT nS T V S aj ah c ak an i th tx I v x ab) (⟨⟨h3,by omega⟩,rfl,rfl⟩))))))))))))))))))))) jj)))))) aA)
end eG
end
section
open Go Go.Rn Go.RowKit Go.Proofs
namespace eG
open cd cj cv cD cH cI cN gw eW fy fm fA
abbrev zW(n o len m p lo nT nS:Nat)(T V S:Int)(aj:List Th)(ah:List Sr)(c:Th)(ak an i th tx I v x ab:Int):bz:=fun fr s1 _=>((aB 9 th tx I v x ab (nT:Int) V (nS:Int)/\((c.I=6\/c.I=5/\c.aC=c.au)/\I=eB c.au)/\((aq .andNot .u32 c.au (aq .shl .u32 1 I))=0))/\FC (aP n o len m p lo nT nS T V S (aj.set th.toNat {c with I:=0,cc:=(c.cc+1),au:=(aq .andNot .u32 c.au (aq .shl .u32 1 I))}) (ah.set I.toNat (⟨(-1),c.wv⟩:Sr)) ak (an+1) (i+1)) fr s1)\/((aB 9 th tx I v x ab (nT:Int) V (nS:Int)/\((c.I=6\/c.I=5/\c.aC=c.au)/\I=eB c.au)/\(¬((aq .andNot .u32 c.au (aq .shl .u32 1 I))=0)))/\FC (aP n o len m p lo nT nS T V S (aj.set th.toNat {c with I:=6,au:=(aq .andNot .u32 c.au (aq .shl .u32 1 I))}) (ah.set I.toNat (⟨(-1),c.wv⟩:Sr)) ak (an+1) (i+1)) fr s1)
theorem ev9{B:aZ}(mc:Mc (sp LN) 6 B){n o len m p lo nT nS:Nat}{T V S:Int}{aj:List Th}{ah:List Sr}{c:Th}{q:Sr}{ak an i th tx I v x ab:Int}{v':AV}(H_:jV n o len m nT nS V aj ah c an i 9 th tx I v x ab)(hQ:0<=I/\I<(nS:Int)->ah[(I).toNat]? =some q)(hF:¬(aB 9 th tx I v x ab (nT:Int) V (nS:Int)/\((c.I=6\/c.I=5/\c.aC=c.au)/\I=eB c.au))->v'= .bool false)(H0:(aB 9 th tx I v x ab (nT:Int) V (nS:Int)/\((c.I=6\/c.I=5/\c.aC=c.au)/\I=eB c.au)/\((aq .andNot .u32 c.au (aq .shl .u32 1 I))=0))->FSQ B v' cg (aP n o len m p lo nT nS T V S (aj.set th.toNat {c with I:=0,cc:=(c.cc+1),au:=(aq .andNot .u32 c.au (aq .shl .u32 1 I))}) (ah.set I.toNat (⟨(-1),c.wv⟩:Sr)) ak (an+1) (i+1)))(H1:(aB 9 th tx I v x ab (nT:Int) V (nS:Int)/\((c.I=6\/c.I=5/\c.aC=c.au)/\I=eB c.au)/\(¬((aq .andNot .u32 c.au (aq .shl .u32 1 I))=0)))->FSQ B v' cg (aP n o len m p lo nT nS T V S (aj.set th.toNat {c with I:=6,au:=(aq .andNot .u32 c.au (aq .shl .u32 1 I))}) (ah.set I.toNat (⟨(-1),c.wv⟩:Sr)) ak (an+1) (i+1))):FSQ B v' cg (aP n o len m p lo nT nS T V S aj ah ak an i):=by
 obtain⟨ho,hn,bu,hlen,h0,hi,bB,hV,bE,de,aH,bA,cZ,c7,aT,hC⟩:=H_
 have cu:=ho;simp only[dF,bL] at cu
 have f1:=fun h=>bN bc.len aH (hC h) 7 1 rfl
 exact wC mc (C:=(zW n o len m p lo nT nS T V S aj ah c ak an i th tx I v x ab)) (lP H0 H1) 2000 ((fun(q1:Pl)=>((fun(q2:Pl)=>((fun(q3:Pl)=>(gJ 1 (.fk (gE 6 (.bI (.bJ (bn (.ofNat 9) th tx I v x ab) (gA 2 1 2 (.il (gC 8 4 (.fk .no (gA 1 2 15 (.kp (aB 9 th tx I v x ab (nT:Int) V (nS:Int)) inferInstance (gA 2 7 11 (.ix (.go 1 (.il (gC 4 3 (.ld [(.int .i64 c.I)] (.fk (.go 4 (.ld [(.int .i64 c.I)] (.fk (.go 22 q2) (.go 4 (.ld [(.int .u32 c.aC)] (.go 3 (.ld [(.int .u32 c.au)] (.fk (.go 12 q2) (.go 8 q3))))))))) (.go 24 q3)))))))) (.go 2 q1)))))))))) .no))) (.ld [(.int .u32 c.au)] (.il (gC 3 1 (.kn (.int .i64 ((eB c.au))) (gH 1 1 (.fk (.go 1 q2) (gA 1 3 4 (.il (gC 1 3 (.ld [(.int .u32 c.au)] (.go 1 (.sh (.go 3 (.dj (aD dc (aj.set th.toNat {c with au:=(aq .andNot .u32 c.au (aq .shl .u32 1 I))})) (.en (.rg (.go 5 (.ix (.go 1 (.dj (aD nM (ah.set I.toNat {q with owner:=(-1)})) (gI 1 (gB 1 9 (.ld [(.int .i64 c.wv)] (.ix (.go 1 (.dj (aD nM (ah.set I.toNat (⟨(-1),c.wv⟩:Sr))) (gB 2 3 (.dj (aD dc (aj.set th.toNat {c with I:=6,au:=(aq .andNot .u32 c.au (aq .shl .u32 1 I))})) (gB 1 3 (.ld [(.int .u32 ((aq .andNot .u32 c.au (aq .shl .u32 1 I))))] (.fk (gB 1 1 (.il (gC 1 3 (.dj (aD dc (aj.set th.toNat {c with I:=0,au:=(aq .andNot .u32 c.au (aq .shl .u32 1 I))})) (.en (.rg (.go 3 (.ld [(.int .i64 c.cc)] (.vl (.int .i64 (c.cc+1)) (.go 2 (.dj (aD dc (aj.set th.toNat {c with I:=0,cc:=(c.cc+1),au:=(aq .andNot .u32 c.au (aq .shl .u32 1 I))})) (gI 1 (gI 3 (gA 1 3 4 (.vl (.int .i64 (an+1)) (gH 3 3 (gD 1 3 (.vl (.int .i64 (i+1)) (gK 1 1 (.bk (aP n o len m p lo nT nS T V S (aj.set th.toNat {c with I:=0,cc:=(c.cc+1),au:=(aq .andNot .u32 c.au (aq .shl .u32 1 I))}) (ah.set I.toNat (⟨(-1),c.wv⟩:Sr)) ak (an+1) (i+1)).l (ay++(aP n o len m p lo nT nS T V S (aj.set th.toNat {c with I:=0,cc:=(c.cc+1),au:=(aq .andNot .u32 c.au (aq .shl .u32 1 I))}) (ah.set I.toNat (⟨(-1),c.wv⟩:Sr)) ak (an+1) (i+1)).o) 275 .no)))))))))))))))))))) (gI 5 (gA 1 3 4 (.vl (.int .i64 (an+1)) (gH 3 3 (gD 1 3 (.vl (.int .i64 (i+1)) (gK 1 1 (.bk (aP n o len m p lo nT nS T V S (aj.set th.toNat {c with I:=6,au:=(aq .andNot .u32 c.au (aq .shl .u32 1 I))}) (ah.set I.toNat (⟨(-1),c.wv⟩:Sr)) ak (an+1) (i+1)).l (ay++(aP n o len m p lo nT nS T V S (aj.set th.toNat {c with I:=6,au:=(aq .andNot .u32 c.au (aq .shl .u32 1 I))}) (ah.set I.toNat (⟨(-1),c.wv⟩:Sr)) ak (an+1) (i+1)).o) 275 .no))))))))))))))))))))))))))))))))))))))))) (gI 4 (.go 1 q1)))) (gI 4 (gF 1 4))) (U (i<(len:Int)) (fun _=>aV i (len:Int) J J (ai hn (ai (c9 bB 0 7 ar) (U (an>=1048576) aA (fun _=>ai (jt 9 th tx I v x ab (nT:Int) V (nS:Int) ⟨ho,by unfold bL;omega⟩) (U (aB 9 th tx I v x ab (nT:Int) V (nS:Int)) (fun h3=>have hm:=eh h3;(have fF:=jU aT;(aV th (nT:Int) J J (ai (bN bc.len aH (hC J) 0 1 rfl) (U (c.I≠6) (fun _=>ai (bN bc.len aH (hC J) 0 1 rfl) (U (c.I≠5) dp (fun _=>ai (bN bc.len aH (hC J) 8 1 rfl) (ai fM (U (c.aC≠c.au) dp (fun _=>ai fM (ai (zj c.au J) (U (I≠(eB c.au)) dp (fun _=>ai fM (ai (show(0:Int)<=I from J) (ai (fR bc.len aH (hC J) (c':={c with au:=(aq .andNot .u32 c.au (aq .shl .u32 1 I))}) (r:=[(.int .u32 ((aq .andNot .u32 c.au (aq .shl .u32 1 I))))]) 7 rfl rfl rfl) (aV I (nS:Int) J J (ai (fR fh.len bA (hQ J) (c':={q with owner:=(-1)}) (r:=[(.int .i64 (.negSucc 0))]) 0 rfl rfl rfl) (ai (iO bc.len aH (hC J) (c:={c with au:=(aq .andNot .u32 c.au (aq .shl .u32 1 I))}) 3 1 rfl) (aV I (nS:Int) J J (ai (fH fh.len bA (hQ J) (c:={q with owner:=(-1)}) (c':=(⟨(-1),c.wv⟩:Sr)) (r:=[(.int .i64 c.wv)]) 1 rfl rfl rfl) (ai (fH bc.len aH (hC J) (c:={c with au:=(aq .andNot .u32 c.au (aq .shl .u32 1 I))}) (c':={c with I:=6,au:=(aq .andNot .u32 c.au (aq .shl .u32 1 I))}) (r:=[(.int .i64 (.ofNat 6))]) 0 rfl rfl rfl) (ai (iO bc.len aH (hC J) (c:={c with I:=6,au:=(aq .andNot .u32 c.au (aq .shl .u32 1 I))}) 7 1 rfl) (U ((aq .andNot .u32 c.au (aq .shl .u32 1 I))=0) (fun h8=>ai (fH bc.len aH (hC J) (c:={c with I:=6,au:=(aq .andNot .u32 c.au (aq .shl .u32 1 I))}) (c':={c with I:=0,au:=(aq .andNot .u32 c.au (aq .shl .u32 1 I))}) (r:=[(.int .i64 (.ofNat 0))]) 0 rfl rfl rfl) (ai (iO bc.len aH (hC J) (c:={c with I:=0,au:=(aq .andNot .u32 c.au (aq .shl .u32 1 I))}) 1 1 rfl) (ai (wI (c.cc+1) J) (ai (fH bc.len aH (hC J) (c:={c with I:=0,au:=(aq .andNot .u32 c.au (aq .shl .u32 1 I))}) (c':={c with I:=0,cc:=(c.cc+1),au:=(aq .andNot .u32 c.au (aq .shl .u32 1 I))}) (r:=[(.int .i64 ((c.cc+1)))]) 1 rfl rfl rfl) (ai eV (ai cS (eK hn bu eU rb (zW n o len m p lo nT nS T V S aj ah c ak an i th tx I v x ab) ((.inl ⟨⟨h3,by omega,h8⟩,rfl,rfl⟩))))))))) (fun h8=>ai eV (ai cS (eK hn bu eU rb (zW n o len m p lo nT nS T V S aj ah c ak an i th tx I v x ab) (.inr (⟨⟨h3,by omega,h8⟩,rfl,rfl⟩)))))))))))))))))))))))) (fun _=>ai fM (ai (zj c.au J) (U (I≠(eB c.au)) dp (fun _=>ai fM (ai (show(0:Int)<=I from J) (ai (fR bc.len aH (hC J) (c':={c with au:=(aq .andNot .u32 c.au (aq .shl .u32 1 I))}) (r:=[(.int .u32 ((aq .andNot .u32 c.au (aq .shl .u32 1 I))))]) 7 rfl rfl rfl) (aV I (nS:Int) J J (ai (fR fh.len bA (hQ J) (c':={q with owner:=(-1)}) (r:=[(.int .i64 (.negSucc 0))]) 0 rfl rfl rfl) (ai (iO bc.len aH (hC J) (c:={c with au:=(aq .andNot .u32 c.au (aq .shl .u32 1 I))}) 3 1 rfl) (aV I (nS:Int) J J (ai (fH fh.len bA (hQ J) (c:={q with owner:=(-1)}) (c':=(⟨(-1),c.wv⟩:Sr)) (r:=[(.int .i64 c.wv)]) 1 rfl rfl rfl) (ai (fH bc.len aH (hC J) (c:={c with au:=(aq .andNot .u32 c.au (aq .shl .u32 1 I))}) (c':={c with I:=6,au:=(aq .andNot .u32 c.au (aq .shl .u32 1 I))}) (r:=[(.int .i64 (.ofNat 6))]) 0 rfl rfl rfl) (ai (iO bc.len aH (hC J) (c:={c with I:=6,au:=(aq .andNot .u32 c.au (aq .shl .u32 1 I))}) 7 1 rfl) (U ((aq .andNot .u32 c.au (aq .shl .u32 1 I))=0) (fun eA=>ai (fH bc.len aH (hC J) (c:={c with I:=6,au:=(aq .andNot .u32 c.au (aq .shl .u32 1 I))}) (c':={c with I:=0,au:=(aq .andNot .u32 c.au (aq .shl .u32 1 I))}) (r:=[(.int .i64 (.ofNat 0))]) 0 rfl rfl rfl) (ai (iO bc.len aH (hC J) (c:={c with I:=0,au:=(aq .andNot .u32 c.au (aq .shl .u32 1 I))}) 1 1 rfl) (ai (wI (c.cc+1) J) (ai (fH bc.len aH (hC J) (c:={c with I:=0,au:=(aq .andNot .u32 c.au (aq .shl .u32 1 I))}) (c':={c with I:=0,cc:=(c.cc+1),au:=(aq .andNot .u32 c.au (aq .shl .u32 1 I))}) (r:=[(.int .i64 ((c.cc+1)))]) 1 rfl rfl rfl) (ai eV (ai cS (eK hn bu eU rb (zW n o len m p lo nT nS T V S aj ah c ak an i th tx I v x ab) ((.inl ⟨⟨h3,by omega,eA⟩,rfl,rfl⟩))))))))) (fun eA=>ai eV (ai cS (eK hn bu eU rb (zW n o len m p lo nT nS T V S aj ah c ak an i th tx I v x ab) (.inr (⟨⟨h3,by omega,eA⟩,rfl,rfl⟩)))))))))))))))))))))))) jj)))))) aA)
end eG
end
section
open Go Go.Rn Go.RowKit Go.Proofs
namespace eG
open cd cj cv cD cH cI cN gw eW fy fm fA
abbrev FV(n o len m p lo nT nS:Nat)(T V S:Int)(aj:List Th)(ah:List Sr)(c:Th)(q:Sr)(ak an i th tx I v x:Int):bz:=fun fr s1 _=>((aB 10 th tx I v x 1 (nT:Int) V (nS:Int)/\(c.I=1/\(q.owner≠ -1/\q.owner≠th))/\(c.au=0))/\FC (aP n o len m p lo nT nS T V S (aj.set th.toNat {c with I:=0,full:=false}) ah ak (an+1) (i+1)) fr s1)\/((aB 10 th tx I v x 1 (nT:Int) V (nS:Int)/\(c.I=1/\(q.owner≠ -1/\q.owner≠th))/\(¬(c.au=0)))/\FC (aP n o len m p lo nT nS T V S (aj.set th.toNat {c with I:=7,full:=false}) ah ak (an+1) (i+1)) fr s1)
theorem XJ{B:aZ}(mc:Mc (sp LN) 6 B){n o len m p lo nT nS:Nat}{T V S:Int}{aj:List Th}{ah:List Sr}{c:Th}{q:Sr}{ak an i th tx I v x:Int}{v':AV}(H_:jV n o len m nT nS V aj ah c an i 10 th tx I v x 1)(hQ:0<=I/\I<(nS:Int)->ah[(I).toNat]? =some q)(hF:¬(aB 10 th tx I v x 1 (nT:Int) V (nS:Int)/\(c.I=1/\(q.owner≠ -1/\q.owner≠th)))->v'= .bool false)(H0:(aB 10 th tx I v x 1 (nT:Int) V (nS:Int)/\(c.I=1/\(q.owner≠ -1/\q.owner≠th))/\(c.au=0))->FSQ B v' cg (aP n o len m p lo nT nS T V S (aj.set th.toNat {c with I:=0,full:=false}) ah ak (an+1) (i+1)))(H1:(aB 10 th tx I v x 1 (nT:Int) V (nS:Int)/\(c.I=1/\(q.owner≠ -1/\q.owner≠th))/\(¬(c.au=0)))->FSQ B v' cg (aP n o len m p lo nT nS T V S (aj.set th.toNat {c with I:=7,full:=false}) ah ak (an+1) (i+1))):FSQ B v' cg (aP n o len m p lo nT nS T V S aj ah ak an i):=by
 obtain⟨ho,hn,bu,hlen,h0,hi,bB,hV,bE,de,aH,bA,cZ,c7,aT,hC⟩:=H_
 have cu:=ho;simp only[dF,bL] at cu
 exact wC mc (C:=(FV n o len m p lo nT nS T V S aj ah c q ak an i th tx I v x)) (lP H0 H1) 2000 ((fun(q1:Pl)=>((fun(q2:Pl)=>(gJ 1 (.fk (gE 6 (.bI (.bJ (bn (.ofNat 10) th tx I v x (.ofNat 1)) (gA 2 1 2 (.il (gC 8 4 (.fk .no (gA 1 2 15 (.kp (aB 10 th tx I v x 1 (nT:Int) V (nS:Int)) inferInstance (gA 2 7 11 (.ix (.go 1 (.il (gC 11 3 (.ld [(.int .i64 c.I)] (.fk (.go 5 (.il (gC 3 2 (.il (gC 3 5 (.ix (.go 1 (.ld [(.int .i64 q.owner)] (.fk (gH 1 1 (.go 15 q2)) (gH 1 1 (.go 7 (.ix (.go 1 (.ld [(.int .i64 q.owner)] (.go 2 (.fk (gH 2 1 (gA 2 7 7 (.dj (aD dc (aj.set th.toNat {c with I:=7})) (.go 2 (.dj (aD dc (aj.set th.toNat {c with I:=7,full:=false})) (gB 2 3 (.ld [(.int .u32 c.au)] (.fk (gB 1 3 (.dj (aD dc (aj.set th.toNat {c with I:=0,full:=false})) (gI 3 (gA 1 3 4 (.vl (.int .i64 (an+1)) (gH 3 3 (gD 1 3 (.vl (.int .i64 (i+1)) (gK 1 1 (.bk (aP n o len m p lo nT nS T V S (aj.set th.toNat {c with I:=0,full:=false}) ah ak (an+1) (i+1)).l (ay++(aP n o len m p lo nT nS T V S (aj.set th.toNat {c with I:=0,full:=false}) ah ak (an+1) (i+1)).o) 275 .no)))))))))) (gI 5 (gA 1 3 4 (.vl (.int .i64 (an+1)) (gH 3 3 (gD 1 3 (.vl (.int .i64 (i+1)) (gK 1 1 (.bk (aP n o len m p lo nT nS T V S (aj.set th.toNat {c with I:=7,full:=false}) ah ak (an+1) (i+1)).l (ay++(aP n o len m p lo nT nS T V S (aj.set th.toNat {c with I:=7,full:=false}) ah ak (an+1) (i+1)).o) 275 .no)))))))))))))))) (.go 2 q2))))))))))))))))) (gH 8 8 (.go 1 q1))))))))) (.go 2 q1)))))))))) .no))) (gI 1 (gH 2 8 (.go 1 q1))))) (gI 4 (gF 1 4))) (U (i<(len:Int)) (fun _=>aV i (len:Int) J J (ai hn (ai (c9 bB 0 7 ar) (U (an>=1048576) aA (fun _=>ai (jt 10 th tx I v x 1 (nT:Int) V (nS:Int) ⟨ho,by unfold bL;omega⟩) (U (aB 10 th tx I v x 1 (nT:Int) V (nS:Int)) (fun h3=>have hm:=eh h3;(have fF:=jU aT;(aV th (nT:Int) J J (ai (bN bc.len aH (hC J) 0 1 rfl) (U (c.I=1) (fun _=>aV I (nS:Int) J J (ai (bN fh.len bA (hQ J) 0 1 rfl) (U (q.owner=(-1)) dp (fun _=>aV I (nS:Int) J J (ai (bN fh.len bA (hQ J) 0 1 rfl) (U (q.owner≠th) (fun _=>ai (fR bc.len aH (hC J) (c':={c with I:=7}) (r:=[(.int .i64 (.ofNat 7))]) 0 rfl rfl rfl) (ai (fH bc.len aH (hC J) (c:={c with I:=7}) (c':={c with I:=7,full:=false}) (r:=[(.bool false)]) 12 rfl rfl rfl) (ai (iO bc.len aH (hC J) (c:={c with I:=7,full:=false}) 7 1 rfl) (U (c.au=0) (fun h7=>ai (fH bc.len aH (hC J) (c:={c with I:=7,full:=false}) (c':={c with I:=0,full:=false}) (r:=[(.int .i64 (.ofNat 0))]) 0 rfl rfl rfl) (ai eV (ai cS (eK hn bu eU gd (FV n o len m p lo nT nS T V S aj ah c q ak an i th tx I v x) ((.inl ⟨⟨h3,by omega,h7⟩,rfl,rfl⟩)))))) (fun h7=>ai eV (ai cS (eK hn bu eU gd (FV n o len m p lo nT nS T V S aj ah c q ak an i th tx I v x) (.inr (⟨⟨h3,by omega,h7⟩,rfl,rfl⟩))))))))) dp)))))) dp))))) jj)))))) aA)
end eG
end
section
open Go Go.Rn Go.RowKit Go.Proofs
namespace eG
open cd cj cv cD cH cI cN gw eW fy fm fA
abbrev FX(n o len m p lo nT nS:Nat)(T V S:Int)(aj:List Th)(ah:List Sr)(c:Th)(q:Sr)(ak an i th tx I v x:Int):bz:=fun fr s1 _=>((aB 10 th tx I v x 2 (nT:Int) V (nS:Int)/\(c.I=1/\q.owner= -1/\c.rv<q.version)/\(c.au=0))/\FC (aP n o len m p lo nT nS T V S (aj.set th.toNat {c with I:=0,full:=false}) ah ak (an+1) (i+1)) fr s1)\/((aB 10 th tx I v x 2 (nT:Int) V (nS:Int)/\(c.I=1/\q.owner= -1/\c.rv<q.version)/\(¬(c.au=0)))/\FC (aP n o len m p lo nT nS T V S (aj.set th.toNat {c with I:=7,full:=false}) ah ak (an+1) (i+1)) fr s1)
theorem XK{B:aZ}(mc:Mc (sp LN) 6 B){n o len m p lo nT nS:Nat}{T V S:Int}{aj:List Th}{ah:List Sr}{c:Th}{q:Sr}{ak an i th tx I v x:Int}{v':AV}(H_:jV n o len m nT nS V aj ah c an i 10 th tx I v x 2)(hQ:0<=I/\I<(nS:Int)->ah[(I).toNat]? =some q)(hF:¬(aB 10 th tx I v x 2 (nT:Int) V (nS:Int)/\(c.I=1/\q.owner= -1/\c.rv<q.version))->v'= .bool false)(H0:(aB 10 th tx I v x 2 (nT:Int) V (nS:Int)/\(c.I=1/\q.owner= -1/\c.rv<q.version)/\(c.au=0))->FSQ B v' cg (aP n o len m p lo nT nS T V S (aj.set th.toNat {c with I:=0,full:=false}) ah ak (an+1) (i+1)))(H1:(aB 10 th tx I v x 2 (nT:Int) V (nS:Int)/\(c.I=1/\q.owner= -1/\c.rv<q.version)/\(¬(c.au=0)))->FSQ B v' cg (aP n o len m p lo nT nS T V S (aj.set th.toNat {c with I:=7,full:=false}) ah ak (an+1) (i+1))):FSQ B v' cg (aP n o len m p lo nT nS T V S aj ah ak an i):=by
 obtain⟨ho,hn,bu,hlen,h0,hi,bB,hV,bE,de,aH,bA,cZ,c7,aT,hC⟩:=H_
 have cu:=ho;simp only[dF,bL] at cu
 exact wC mc (C:=(FX n o len m p lo nT nS T V S aj ah c q ak an i th tx I v x)) (lP H0 H1) 2000 ((fun(q1:Pl)=>((fun(q2:Pl)=>(gJ 1 (.fk (gE 6 (.bI (.bJ (bn (.ofNat 10) th tx I v x (.ofNat 2)) (gA 2 1 2 (.il (gC 8 4 (.fk .no (gA 1 2 15 (.kp (aB 10 th tx I v x 2 (nT:Int) V (nS:Int)) inferInstance (gA 2 7 11 (.ix (.go 1 (.il (gC 14 3 (.ld [(.int .i64 c.I)] (.fk (.go 4 (.il (gC 3 5 (.ix (.go 1 (.ld [(.int .i64 q.owner)] (.fk (gH 1 1 (.go 6 (.il (gC 3 5 (.ix (.go 1 (.ld [(.int .i64 q.version)] (.go 3 (.ld [(.int .i64 c.rv)] (.fk (gH 1 1 (gA 2 7 7 (.dj (aD dc (aj.set th.toNat {c with I:=7})) (.go 2 (.dj (aD dc (aj.set th.toNat {c with I:=7,full:=false})) (gB 2 3 (.ld [(.int .u32 c.au)] (.fk (gB 1 3 (.dj (aD dc (aj.set th.toNat {c with I:=0,full:=false})) (gI 3 (gA 1 3 4 (.vl (.int .i64 (an+1)) (gH 3 3 (gD 1 3 (.vl (.int .i64 (i+1)) (gK 1 1 (.bk (aP n o len m p lo nT nS T V S (aj.set th.toNat {c with I:=0,full:=false}) ah ak (an+1) (i+1)).l (ay++(aP n o len m p lo nT nS T V S (aj.set th.toNat {c with I:=0,full:=false}) ah ak (an+1) (i+1)).o) 275 .no)))))))))) (gI 5 (gA 1 3 4 (.vl (.int .i64 (an+1)) (gH 3 3 (gD 1 3 (.vl (.int .i64 (i+1)) (gK 1 1 (.bk (aP n o len m p lo nT nS T V S (aj.set th.toNat {c with I:=7,full:=false}) ah ak (an+1) (i+1)).l (ay++(aP n o len m p lo nT nS T V S (aj.set th.toNat {c with I:=7,full:=false}) ah ak (an+1) (i+1)).o) 275 .no)))))))))))))))) (gH 1 1 (.go 2 q2)))))))))))) (gH 1 1 (.go 9 q2))))))))) (.go 14 q2)))))))) (.go 2 q1)))))))))) .no))) (gI 8 (.go 1 q1)))) (gI 4 (gF 1 4))) (U (i<(len:Int)) (fun _=>aV i (len:Int) J J (ai hn (ai (c9 bB 0 7 ar) (U (an>=1048576) aA (fun _=>ai (jt 10 th tx I v x 2 (nT:Int) V (nS:Int) ⟨ho,by unfold bL;omega⟩) (U (aB 10 th tx I v x 2 (nT:Int) V (nS:Int)) (fun h3=>have hm:=eh h3;(have fF:=jU aT;(aV th (nT:Int) J J (ai (bN bc.len aH (hC J) 0 1 rfl) (U (c.I=1) (fun _=>aV I (nS:Int) J J (ai (bN fh.len bA (hQ J) 0 1 rfl) (U (q.owner=(-1)) (fun _=>aV I (nS:Int) J J (ai (bN fh.len bA (hQ J) 1 1 rfl) (ai (bN bc.len aH (hC J) 2 1 rfl) (U (q.version>c.rv) (fun _=>ai (fR bc.len aH (hC J) (c':={c with I:=7}) (r:=[(.int .i64 (.ofNat 7))]) 0 rfl rfl rfl) (ai (fH bc.len aH (hC J) (c:={c with I:=7}) (c':={c with I:=7,full:=false}) (r:=[(.bool false)]) 12 rfl rfl rfl) (ai (iO bc.len aH (hC J) (c:={c with I:=7,full:=false}) 7 1 rfl) (U (c.au=0) (fun h7=>ai (fH bc.len aH (hC J) (c:={c with I:=7,full:=false}) (c':={c with I:=0,full:=false}) (r:=[(.int .i64 (.ofNat 0))]) 0 rfl rfl rfl) (ai eV (ai cS (eK hn bu eU gd (FX n o len m p lo nT nS T V S aj ah c q ak an i th tx I v x) ((.inl ⟨⟨h3,by omega,h7⟩,rfl,rfl⟩)))))) (fun h7=>ai eV (ai cS (eK hn bu eU gd (FX n o len m p lo nT nS T V S aj ah c q ak an i th tx I v x) (.inr (⟨⟨h3,by omega,h7⟩,rfl,rfl⟩))))))))) dp)))) dp))) dp))))) jj)))))) aA)
end eG
end
section
open Go Go.Rn Go.RowKit Go.Proofs
namespace eG
open cd cj cv cD cH cI cN gw eW fy fm fA
abbrev yK(n o len m p lo nT nS:Nat)(T V S:Int)(aj:List Th)(ah:List Sr)(c:Th)(q:Sr)(ak an i th tx I v x:Int):bz:=fun fr s1 _=>((aB 10 th tx I v x 3 (nT:Int) V (nS:Int)/\(c.I=2/\I=c.bX/\(q.owner≠ -1\/q.version≠c.v))/\(c.au=0))/\FC (aP n o len m p lo nT nS T V S (aj.set th.toNat {c with I:=0,full:=false}) ah ak (an+1) (i+1)) fr s1)\/((aB 10 th tx I v x 3 (nT:Int) V (nS:Int)/\(c.I=2/\I=c.bX/\(q.owner≠ -1\/q.version≠c.v))/\(¬(c.au=0)))/\FC (aP n o len m p lo nT nS T V S (aj.set th.toNat {c with I:=7,full:=false}) ah ak (an+1) (i+1)) fr s1)
theorem XL{B:aZ}(mc:Mc (sp LN) 6 B){n o len m p lo nT nS:Nat}{T V S:Int}{aj:List Th}{ah:List Sr}{c:Th}{q:Sr}{ak an i th tx I v x:Int}{v':AV}(H_:jV n o len m nT nS V aj ah c an i 10 th tx I v x 3)(hQ:0<=c.bX/\c.bX<(nS:Int)->ah[(c.bX).toNat]? =some q)(hF:¬(aB 10 th tx I v x 3 (nT:Int) V (nS:Int)/\(c.I=2/\I=c.bX/\(q.owner≠ -1\/q.version≠c.v)))->v'= .bool false)(H0:(aB 10 th tx I v x 3 (nT:Int) V (nS:Int)/\(c.I=2/\I=c.bX/\(q.owner≠ -1\/q.version≠c.v))/\(c.au=0))->FSQ B v' cg (aP n o len m p lo nT nS T V S (aj.set th.toNat {c with I:=0,full:=false}) ah ak (an+1) (i+1)))(H1:(aB 10 th tx I v x 3 (nT:Int) V (nS:Int)/\(c.I=2/\I=c.bX/\(q.owner≠ -1\/q.version≠c.v))/\(¬(c.au=0)))->FSQ B v' cg (aP n o len m p lo nT nS T V S (aj.set th.toNat {c with I:=7,full:=false}) ah ak (an+1) (i+1))):FSQ B v' cg (aP n o len m p lo nT nS T V S aj ah ak an i):=by
 obtain⟨ho,hn,bu,hlen,h0,hi,bB,hV,bE,de,aH,bA,cZ,c7,aT,hC⟩:=H_
 have cu:=ho;simp only[dF,bL] at cu
 exact wC mc (C:=(yK n o len m p lo nT nS T V S aj ah c q ak an i th tx I v x)) (lP H0 H1) 2000 ((fun(q1:Pl)=>((fun(q2:Pl)=>((fun(q3:Pl)=>(gJ 1 (.fk (gE 6 (.bI (.bJ (bn (.ofNat 10) th tx I v x (.ofNat 3)) (gA 2 1 2 (.il (gC 8 4 (.fk .no (gA 1 2 15 (.kp (aB 10 th tx I v x 3 (nT:Int) V (nS:Int)) inferInstance (gA 2 7 11 (.ix (.go 1 (.il (gC 17 3 (.ld [(.int .i64 c.I)] (.fk (.go 6 (.ld [(.int .i64 c.bX)] (.fk (.go 4 (.il (gC 3 4 (.ld [(.int .i64 c.bX)] (.il (gC 3 5 (.ix (.go 1 (.ld [(.int .i64 q.owner)] (.fk (gH 1 1 (.go 8 (.ld [(.int .i64 c.bX)] (.ix (.go 1 (.ld [(.int .i64 q.version)] (.go 3 (.ld [(.int .i64 c.v)] (.fk (gH 2 1 (.go 3 q2)) (.go 2 q3)))))))))) (gH 1 1 (.go 19 q3)))))))))))) (.go 8 q2)))) (.go 16 q2)))))))) (.go 2 q1)))))))))) .no))) (gI 1 (gA 3 7 7 (.dj (aD dc (aj.set th.toNat {c with I:=7})) (.go 2 (.dj (aD dc (aj.set th.toNat {c with I:=7,full:=false})) (gB 2 3 (.ld [(.int .u32 c.au)] (.fk (gB 1 3 (.dj (aD dc (aj.set th.toNat {c with I:=0,full:=false})) (gI 3 (gA 1 3 4 (.vl (.int .i64 (an+1)) (gH 3 3 (gD 1 3 (.vl (.int .i64 (i+1)) (gK 1 1 (.bk (aP n o len m p lo nT nS T V S (aj.set th.toNat {c with I:=0,full:=false}) ah ak (an+1) (i+1)).l (ay++(aP n o len m p lo nT nS T V S (aj.set th.toNat {c with I:=0,full:=false}) ah ak (an+1) (i+1)).o) 275 .no)))))))))) (gI 5 (gA 1 3 4 (.vl (.int .i64 (an+1)) (gH 3 3 (gD 1 3 (.vl (.int .i64 (i+1)) (gK 1 1 (.bk (aP n o len m p lo nT nS T V S (aj.set th.toNat {c with I:=7,full:=false}) ah ak (an+1) (i+1)).l (ay++(aP n o len m p lo nT nS T V S (aj.set th.toNat {c with I:=7,full:=false}) ah ak (an+1) (i+1)).o) 275 .no)))))))))))))))))) (gI 8 (.go 1 q1)))) (gI 4 (gF 1 4))) (U (i<(len:Int)) (fun _=>aV i (len:Int) J J (ai hn (ai (c9 bB 0 7 ar) (U (an>=1048576) aA (fun _=>ai (jt 10 th tx I v x 3 (nT:Int) V (nS:Int) ⟨ho,by unfold bL;omega⟩) (U (aB 10 th tx I v x 3 (nT:Int) V (nS:Int)) (fun h3=>have hm:=eh h3;(have fF:=jU aT;(aV th (nT:Int) J J (ai (bN bc.len aH (hC J) 0 1 rfl) (U (c.I=2) (fun _=>ai (bN bc.len aH (hC J) 4 1 rfl) (U (I=c.bX) (fun _=>ai (bN bc.len aH (hC J) 4 1 rfl) (aV c.bX (nS:Int) J J (ai (bN fh.len bA (hQ J) 0 1 rfl) (U (q.owner=(-1)) (fun _=>ai (bN bc.len aH (hC J) 4 1 rfl) (aV c.bX (nS:Int) J J (ai (bN fh.len bA (hQ J) 1 1 rfl) (ai (bN bc.len aH (hC J) 5 1 rfl) (U (q.version=c.v) dp (fun _=>ai (fR bc.len aH (hC J) (c':={c with I:=7}) (r:=[(.int .i64 (.ofNat 7))]) 0 rfl rfl rfl) (ai (fH bc.len aH (hC J) (c:={c with I:=7}) (c':={c with I:=7,full:=false}) (r:=[(.bool false)]) 12 rfl rfl rfl) (ai (iO bc.len aH (hC J) (c:={c with I:=7,full:=false}) 7 1 rfl) (U (c.au=0) (fun h8=>ai (fH bc.len aH (hC J) (c:={c with I:=7,full:=false}) (c':={c with I:=0,full:=false}) (r:=[(.int .i64 (.ofNat 0))]) 0 rfl rfl rfl) (ai eV (ai cS (eK hn bu eU gd (yK n o len m p lo nT nS T V S aj ah c q ak an i th tx I v x) ((.inl ⟨⟨h3,by omega,h8⟩,rfl,rfl⟩)))))) (fun h8=>ai eV (ai cS (eK hn bu eU gd (yK n o len m p lo nT nS T V S aj ah c q ak an i th tx I v x) (.inr (⟨⟨h3,by omega,h8⟩,rfl,rfl⟩)))))))))))))) (fun _=>ai (fR bc.len aH (hC J) (c':={c with I:=7}) (r:=[(.int .i64 (.ofNat 7))]) 0 rfl rfl rfl) (ai (fH bc.len aH (hC J) (c:={c with I:=7}) (c':={c with I:=7,full:=false}) (r:=[(.bool false)]) 12 rfl rfl rfl) (ai (iO bc.len aH (hC J) (c:={c with I:=7,full:=false}) 7 1 rfl) (U (c.au=0) (fun h9=>ai (fH bc.len aH (hC J) (c:={c with I:=7,full:=false}) (c':={c with I:=0,full:=false}) (r:=[(.int .i64 (.ofNat 0))]) 0 rfl rfl rfl) (ai eV (ai cS (eK hn bu eU gd (yK n o len m p lo nT nS T V S aj ah c q ak an i th tx I v x) ((.inl ⟨⟨h3,by omega,h9⟩,rfl,rfl⟩)))))) (fun h9=>ai eV (ai cS (eK hn bu eU gd (yK n o len m p lo nT nS T V S aj ah c q ak an i th tx I v x) (.inr (⟨⟨h3,by omega,h9⟩,rfl,rfl⟩))))))))))))) dp)) dp))))) jj)))))) aA)
end eG
end
section
open Go Go.Rn Go.RowKit Go.Proofs
namespace eG
open cd cj cv cD cH cI cN gw eW fy fm fA
abbrev yL(n o len m p lo nT nS:Nat)(T V S:Int)(aj:List Th)(ah:List Sr)(c:Th)(q:Sr)(ak an i th tx I v x:Int):bz:=fun fr s1 _=>((aB 10 th tx I v x 4 (nT:Int) V (nS:Int)/\((c.I=1\/c.I=3)/\c.ao<I/\(q.owner≠ -1/\q.owner≠th))/\(c.au=0))/\FC (aP n o len m p lo nT nS T V S (aj.set th.toNat {c with I:=0,full:=false}) ah ak (an+1) (i+1)) fr s1)\/((aB 10 th tx I v x 4 (nT:Int) V (nS:Int)/\((c.I=1\/c.I=3)/\c.ao<I/\(q.owner≠ -1/\q.owner≠th))/\(¬(c.au=0)))/\FC (aP n o len m p lo nT nS T V S (aj.set th.toNat {c with I:=7,full:=false}) ah ak (an+1) (i+1)) fr s1)
theorem XM{B:aZ}(mc:Mc (sp LN) 6 B){n o len m p lo nT nS:Nat}{T V S:Int}{aj:List Th}{ah:List Sr}{c:Th}{q:Sr}{ak an i th tx I v x:Int}{v':AV}(H_:jV n o len m nT nS V aj ah c an i 10 th tx I v x 4)(hQ:0<=I/\I<(nS:Int)->ah[(I).toNat]? =some q)(hF:¬(aB 10 th tx I v x 4 (nT:Int) V (nS:Int)/\((c.I=1\/c.I=3)/\c.ao<I/\(q.owner≠ -1/\q.owner≠th)))->v'= .bool false)(H0:(aB 10 th tx I v x 4 (nT:Int) V (nS:Int)/\((c.I=1\/c.I=3)/\c.ao<I/\(q.owner≠ -1/\q.owner≠th))/\(c.au=0))->FSQ B v' cg (aP n o len m p lo nT nS T V S (aj.set th.toNat {c with I:=0,full:=false}) ah ak (an+1) (i+1)))(H1:(aB 10 th tx I v x 4 (nT:Int) V (nS:Int)/\((c.I=1\/c.I=3)/\c.ao<I/\(q.owner≠ -1/\q.owner≠th))/\(¬(c.au=0)))->FSQ B v' cg (aP n o len m p lo nT nS T V S (aj.set th.toNat {c with I:=7,full:=false}) ah ak (an+1) (i+1))):FSQ B v' cg (aP n o len m p lo nT nS T V S aj ah ak an i):=by
 obtain⟨ho,hn,bu,hlen,h0,hi,bB,hV,bE,de,aH,bA,cZ,c7,aT,hC⟩:=H_
 have cu:=ho;simp only[dF,bL] at cu
 exact wC mc (C:=(yL n o len m p lo nT nS T V S aj ah c q ak an i th tx I v x)) (lP H0 H1) 2000 ((fun(q1:Pl)=>((fun(q2:Pl)=>((fun(q3:Pl)=>(gJ 1 (.fk (gE 6 (.bI (.bJ (bn (.ofNat 10) th tx I v x (.ofNat 4)) (gA 2 1 2 (.il (gC 8 4 (.fk .no (gA 1 2 15 (.kp (aB 10 th tx I v x 4 (nT:Int) V (nS:Int)) inferInstance (gA 2 7 11 (.ix (.go 1 (.il (gC 20 3 (.ld [(.int .i64 c.I)] (.fk (.go 13 q3) (.go 4 (.ld [(.int .i64 c.I)] (.fk (.go 7 q3) (.go 18 q2))))))))))) (.go 2 q1)))))))))) .no))) (.ld [(.int .i64 c.ao)] (.fk (.go 6 (.il (gC 3 2 (.il (gC 3 5 (.ix (.go 1 (.ld [(.int .i64 q.owner)] (.fk (gH 1 1 (gH 15 1 (.go 2 q2))) (gH 1 1 (.go 7 (.ix (.go 1 (.ld [(.int .i64 q.owner)] (.go 2 (.fk (gH 2 1 (gA 2 7 7 (.dj (aD dc (aj.set th.toNat {c with I:=7})) (.go 2 (.dj (aD dc (aj.set th.toNat {c with I:=7,full:=false})) (gB 2 3 (.ld [(.int .u32 c.au)] (.fk (gB 1 3 (.dj (aD dc (aj.set th.toNat {c with I:=0,full:=false})) (gI 3 (gA 1 3 4 (.vl (.int .i64 (an+1)) (gH 3 3 (gD 1 3 (.vl (.int .i64 (i+1)) (gK 1 1 (.bk (aP n o len m p lo nT nS T V S (aj.set th.toNat {c with I:=0,full:=false}) ah ak (an+1) (i+1)).l (ay++(aP n o len m p lo nT nS T V S (aj.set th.toNat {c with I:=0,full:=false}) ah ak (an+1) (i+1)).o) 275 .no)))))))))) (gI 5 (gA 1 3 4 (.vl (.int .i64 (an+1)) (gH 3 3 (gD 1 3 (.vl (.int .i64 (i+1)) (gK 1 1 (.bk (aP n o len m p lo nT nS T V S (aj.set th.toNat {c with I:=7,full:=false}) ah ak (an+1) (i+1)).l (ay++(aP n o len m p lo nT nS T V S (aj.set th.toNat {c with I:=7,full:=false}) ah ak (an+1) (i+1)).o) 275 .no)))))))))))))))) (gH 2 1 (.go 2 q2)))))))))))))))))) (.go 9 q2))))) (gI 8 (.go 1 q1)))) (gI 4 (gF 1 4))) (U (i<(len:Int)) (fun _=>aV i (len:Int) J J (ai hn (ai (c9 bB 0 7 ar) (U (an>=1048576) aA (fun _=>ai (jt 10 th tx I v x 4 (nT:Int) V (nS:Int) ⟨ho,by unfold bL;omega⟩) (U (aB 10 th tx I v x 4 (nT:Int) V (nS:Int)) (fun h3=>have hm:=eh h3;(have fF:=jU aT;(aV th (nT:Int) J J (ai (bN bc.len aH (hC J) 0 1 rfl) (U (c.I=1) (fun _=>ai (bN bc.len aH (hC J) 10 1 rfl) (U (I>c.ao) (fun _=>aV I (nS:Int) J J (ai (bN fh.len bA (hQ J) 0 1 rfl) (U (q.owner=(-1)) dp (fun _=>aV I (nS:Int) J J (ai (bN fh.len bA (hQ J) 0 1 rfl) (U (q.owner≠th) (fun _=>ai (fR bc.len aH (hC J) (c':={c with I:=7}) (r:=[(.int .i64 (.ofNat 7))]) 0 rfl rfl rfl) (ai (fH bc.len aH (hC J) (c:={c with I:=7}) (c':={c with I:=7,full:=false}) (r:=[(.bool false)]) 12 rfl rfl rfl) (ai (iO bc.len aH (hC J) (c:={c with I:=7,full:=false}) 7 1 rfl) (U (c.au=0) (fun h8=>ai (fH bc.len aH (hC J) (c:={c with I:=7,full:=false}) (c':={c with I:=0,full:=false}) (r:=[(.int .i64 (.ofNat 0))]) 0 rfl rfl rfl) (ai eV (ai cS (eK hn bu eU gd (yL n o len m p lo nT nS T V S aj ah c q ak an i th tx I v x) ((.inl ⟨⟨h3,by omega,h8⟩,rfl,rfl⟩)))))) (fun h8=>ai eV (ai cS (eK hn bu eU gd (yL n o len m p lo nT nS T V S aj ah c q ak an i th tx I v x) (.inr (⟨⟨h3,by omega,h8⟩,rfl,rfl⟩))))))))) dp)))))) dp)) (fun _=>ai (bN bc.len aH (hC J) 0 1 rfl) (U (c.I=3) (fun _=>ai (bN bc.len aH (hC J) 10 1 rfl) (U (I>c.ao) (fun _=>aV I (nS:Int) J J (ai (bN fh.len bA (hQ J) 0 1 rfl) (U (q.owner=(-1)) dp (fun _=>aV I (nS:Int) J J (ai (bN fh.len bA (hQ J) 0 1 rfl) (U (q.owner≠th) (fun _=>ai (fR bc.len aH (hC J) (c':={c with I:=7}) (r:=[(.int .i64 (.ofNat 7))]) 0 rfl rfl rfl) (ai (fH bc.len aH (hC J) (c:={c with I:=7}) (c':={c with I:=7,full:=false}) (r:=[(.bool false)]) 12 rfl rfl rfl) (ai (iO bc.len aH (hC J) (c:={c with I:=7,full:=false}) 7 1 rfl) (U (c.au=0) (fun np=>ai (fH bc.len aH (hC J) (c:={c with I:=7,full:=false}) (c':={c with I:=0,full:=false}) (r:=[(.int .i64 (.ofNat 0))]) 0 rfl rfl rfl) (ai eV (ai cS (eK hn bu eU gd (yL n o len m p lo nT nS T V S aj ah c q ak an i th tx I v x) ((.inl ⟨⟨h3,by omega,np⟩,rfl,rfl⟩)))))) (fun np=>ai eV (ai cS (eK hn bu eU gd (yL n o len m p lo nT nS T V S aj ah c q ak an i th tx I v x) (.inr (⟨⟨h3,by omega,np⟩,rfl,rfl⟩))))))))) dp)))))) dp)) dp))))))) jj)))))) aA)
end eG
end
