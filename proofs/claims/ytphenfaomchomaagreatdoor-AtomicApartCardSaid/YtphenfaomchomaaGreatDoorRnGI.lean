import Derived.Test.YtphenfaomchomaaGreatDoorRnGG
import Derived.Test.YtphenfaomchomaaGreatDoorRnGD
import Derived.ChangeArms
import Derived.ChangeShapes
import Derived.DataReads
import Derived.Test.YtphenfaomchomaaGreatDoorRnGE
import Derived.OpenShut
set_option maxRecDepth 100000
set_option maxHeartbeats 8000000
set_option linter.unusedSimpArgs false
set_option linter.unusedVariables false
namespace Go.Rn
open Go.RowKit Go.ChangeShapes
variable {ρ:Ren} {v:Value} {α:Type} {t e:TypeId} {fuel K:Nat}
abbrev mB:=List<|Nat×Nat×List AV
def Has(σ:Ren)(ms:mB):Prop:=∀p∈ms,σ (hn (nm p.2.2) p.1 p.2.1)≠none
def Good(w:World)(ms:mB):Prop:=∀p∈ms,p.2.2.all AV.gh=true/\∃c e fr,w.heap[p.1]? =some (.cells c e fr)/\∀(i:Nat) (x:AV),p.2.2[i]? =some x->∃v,c[p.2.1+i]? =some v/\∀σ,Has σ ms->VR (gp σ) x v
def Is(ms:mB)(x:AV)(v:Value):Prop:=∀σ,Has σ ms->VR (gp σ) x v
theorem Has.sub{σ:Ren}{a b:mB}(h:Has σ b)(hs:∀p∈a,p∈b):Has σ a:=fun p hp=>h p<|hs p hp
theorem Is.sub{a b:mB}{x:AV}(h:Is a x v)(hs:∀p∈a,p∈b):Is b x v:=fun σ hh=>h σ<|hh.sub hs
theorem Good.nil{w:World}:Good w []:=fun p hp=>by cases hp
theorem Good.app{w:World}{a b:mB}(h:Good w a)(k:Good w b):Good w<|a++b:=fun p hp=>by
 rcases List.mem_append.1 hp with hp|hp
 ·obtain⟨h1,c,e,fr,h2,h3⟩:=h p hp;exact⟨h1,c,e,fr,h2,fun i x hx=>by obtain⟨v,k1,k2⟩:=h3 i x hx;exact⟨v,k1,fun σ hh=>k2 σ<|hh.sub fun p hp=>List.mem_append_left _ hp⟩⟩
 ·obtain⟨h1,c,e,fr,h2,h3⟩:=k p hp;exact⟨h1,c,e,fr,h2,fun i x hx=>by obtain⟨v,k1,k2⟩:=h3 i x hx;exact⟨v,k1,fun σ hh=>k2 σ<|hh.sub fun p hp=>List.mem_append_right _ hp⟩⟩
section
variable {H:Type} {enc:TypeId×Value->H} {P:Program} {w:World} {base:Nat} {spare:Nat->Bool} {held:Bool}
theorem Tw{a:Addr}{n:Nat}{cs:List Value}(h:w.cells? base a n=some cs):cs.length=n/\∀(j:Nat) (x:Value),cs[j]? =some x->w.cell? (a.add j)=some x:=by
 unfold World.cells? at h;split at h
 ·have hlen:cs.length=n:=by simpa using mapM_some_length h
  refine⟨hlen,fun j x hx=>?_⟩;have hj:j<n:=by have:=(List.getElem?_eq_some_iff.1 hx).1;omega
  have:=mapM_some_get h j j (by simp[hj]);exact this.trans hx
 ·cases h
theorem Uo(b o m:Nat):(⟨b,o,none⟩:Addr).add m=⟨b,o+m,none⟩:=by
 unfold Addr.add;split
 ·rename_i h;subst h;rfl
 ·rfl
theorem add_zero(a:Addr):a.add 0=a:=by unfold Addr.add;rw[if_pos rfl]
theorem abF{x:DataW H×List MemPlace}(DQ:0<K)(ht:P.underlying t=some (.slice e))(hK:P.cellsOf e=K)(h:DataW.trod enc P w base spare held fuel t [v]=some x):
 (∃a cap,v= .slice a 0 cap/\(a=none->cap=0))\/∃(b o len cap:Nat) (c:Array Value) (el:TypeId) (fr:Nat×Nat) (rows:List<|List Value),v= .slice (some ⟨b,o,none⟩) len cap/\len<=cap/\w.heap[b]? =some (.cells c el fr)/\rows.length=len/\∀(i:Nat) (row:List Value),rows[i]? =some row->row.length=K/\(∃n y,n<fuel/\DataW.trod enc P w base spare held n e row=some y)/\∀(j:Nat) (x:Value),row[j]? =some x->c[o+i*K+j]? =some x:=by
 rcases DataW.trod_slice ht h with⟨h0,_⟩|⟨a,len,cap,elems,rest,n,YN,qM,_,_,hl,_,hlen,hel,_,_⟩
 ·left;injection h0 with h0 _
  exact⟨none,0,h0,fun _=>rfl⟩
 ·injection qM with hv _
  subst hv;rcases Nat.eq_zero_or_pos len with rfl|hlp
  ·exact .inl ⟨some a,cap,rfl,fun e=>by cases e⟩
  right;have Xx:∀i,i<len->∃cs y,w.cells? base (a.add<|i*K) K=some cs/\DataW.trod enc P w base spare held n e cs=some y:=fun i hi=>by have he:=hel i hi;rw[hK,List.getElem?_eq_getElem aj] at he;obtain⟨cs,h1,h2⟩:=Option.bind_eq_some_iff.1 he;exact⟨cs,_,h1,h2⟩
  obtain⟨YL,_,h1,_⟩:=Xx 0 hlp;obtain⟨k1,k2⟩:=Tw h1;have jr:=k2 0 _<|List.getElem?_eq_getElem aj;rw[Nat.zero_mul,add_zero,add_zero] at jr;have KX:a.spot=none:=World.cell?_spot jr;obtain⟨b,o,sp⟩:=a;simp only at KX;subst KX;unfold World.cell? at jr;simp only at jr;cases hb:w.heap[b]? with
  |none=>rw[hb] at jr;cases jr
  |some ob=>
   rw[hb] at jr;cases ob with
   |cells c el fr=>
    refine⟨b,o,len,cap,c,el,fr,(List.range len).map fun i=>(w.cells? base ((⟨b,o,none⟩:Addr).add<|i*K) K).getD [],rfl,hl,hb,by simp,fun i row eU=>?_⟩;have hi:i<len:=by have:=(List.getElem?_eq_some_iff.1 eU).1;simpa using this
    obtain⟨cs,y,h1,h2⟩:=Xx i hi;rw[List.getElem?_map,List.getElem?_range hi,Option.map_some,h1] at eU;injection eU with eU
    have ahw:cs=row:=eU;subst ahw;obtain⟨k1,k2⟩:=Tw h1;refine⟨k1,⟨n,_,by omega,h2⟩,fun j x hx=>?_⟩;have:=k2 j x hx;rw[Uo,Uo] at this;unfold World.cell? at this;simp only[hb] at this;simpa using this
   |_=>cases jr
theorem R8{β:Type}{K:Nat}:∀{l:List<|List β} {i:Nat} {x:β},(∀c∈l,c.length=K)->l.flatten[i]? =some x->∃q j row,l[q]? =some row/\row[j]? =some x/\i=q*K+j
 |[],i,x,_,h=>by simp at h
 |c::l,i,x,hl,h=>by
  have hc:=hl c List.mem_cons_self;rw[List.flatten_cons] at h;by_cases q:i<c.length
  ·rw[List.getElem?_append_left q] at h;exact⟨0,i,c,rfl,h,by omega⟩
  ·rw[List.getElem?_append_right aj] at h;obtain⟨a,j,row,h1,h2,h3⟩:=R8 (fun c' h'=>hl c'<|List.mem_cons_of_mem _ h') h;exact⟨a+1,j,row,by simpa using h1,h2,by rw[Nat.add_mul,Nat.one_mul];omega⟩
def J8(w:World)(ue:α->List AV)(Q:α->Prop)(row:List Value)(a:α)(ms:mB):Prop:=Q a/\Good w ms/\∀(j:Nat) (x:AV),(ue a)[j]? =some x->∃u,row[j]? =some u/\Is ms x u
theorem Vm{α:Type}{ue:α->List AV}{Q:α->Prop}:∀{rows:List<|List Value},(∀row∈rows,∃a ms,J8 w ue Q row a ms)->
 ∃(l:List α) (ms:mB),l.length=rows.length/\(∀a∈l,Q a)/\Good w ms/\∀(i:Nat) a row,l[i]? =some a->rows[i]? =some row->∀(j:Nat) (x:AV),(ue a)[j]? =some x->∃u,row[j]? =some u/\Is ms x u
 |[],_=>⟨[],[],rfl,(fun a ha=>by cases ha),Good.nil,(fun i a row h=>by simp at h)⟩
 |row::rows,h=>by
  obtain⟨a,ms,h1,h2,h3⟩:=h row List.mem_cons_self;obtain⟨l,ns,k1,k2,k3,k4⟩:=Vm (rows:=rows) fun r hr=>h r<|List.mem_cons_of_mem _ hr;refine⟨a::l,ms++ns,(by simp[k1]),fun b hb=>?_,h2.app k3,fun i b r hb hr j x hx=>?_⟩
  ·rcases List.mem_cons.1 hb with rfl|hb
   ·exact h1
   ·exact k2 b hb
  ·cases i with
   |zero=>simp at hb hr;subst hb;subst hr;obtain⟨u,e1,e2⟩:=h3 j x hx;exact⟨u,e1,e2.sub fun p hp=>List.mem_append_left _ hp⟩
   |succ i=>simp at hb hr;obtain⟨u,e1,e2⟩:=k4 i b r hb hr j x hx;exact⟨u,e1,e2.sub fun p hp=>List.mem_append_right _ hp⟩
theorem IA{ue:α->List AV}{Q:α->Prop}(he:mo K ue)(DQ:0<K){x:DataW H×List MemPlace}(ht:P.underlying t=some (.slice e))(hK:P.cellsOf e=K)(eU:∀row:List Value,row.length=K->(∃n y,n<fuel/\DataW.trod enc P w base spare held n e row=some y)->∃a ms,J8 w ue Q row a ms)(h:DataW.trod enc P w base spare held fuel t [v]=some x):
 ∃(l:List α) (ms:mB),(∀a∈l,Q a)/\Good w ms/\Is ms (aw ue l) v:=by
 rcases abF DQ ht hK h with⟨a,cap,rfl,hz⟩|⟨b,o,len,cap,c,el,fr,rows,rfl,h2,h3,h4,h5⟩
 ·refine⟨[],[],(fun a ha=>by cases ha),Good.nil,fun σ _=>?_⟩;unfold aw;simp only[VR];exact .inl ⟨cN _,rfl,a,cap,rfl,hz,(fun e=>absurd e (zj _).1),fun e=>absurd e (zj _).2⟩
 ·obtain⟨l,ms,k1,k2,k3,k4⟩:=Vm (w:=w) (ue:=ue) (Q:=Q) (rows:=rows) fun row hr=>by obtain⟨i,hi⟩:=List.mem_iff_getElem?.1 hr;obtain⟨a1,a2,_⟩:=h5 i row hi;exact eU row a1 a2
  refine⟨l,(b,o,(l.map ue).flatten)::ms,k2,fun p hp=>?_,fun σ hh=>?_⟩
  ·rcases List.mem_cons.1 hp with rfl|hp
   ·refine⟨he.all l,c,el,fr,h3,fun i x hx=>?_⟩;obtain⟨q,j,row,e1,e2,e3⟩:=R8 (K:=K) (fun c' QP=>by obtain⟨a,_,rfl⟩:=List.mem_map.1 QP;exact he.len a) hx;rw[List.getElem?_map] at e1;cases ha:l[q]? with
    |none=>rw[ha] at e1;cases e1
    |some a=>
     rw[ha] at e1;injection e1 with e1
     subst e1;have hq:q<rows.length:=by have:=(List.getElem?_eq_some_iff.1 ha).1;omega
     obtain⟨u,g1,g2⟩:=k4 q a rows[q] ha (List.getElem?_eq_getElem hq) j x e2;obtain⟨_,_,g4⟩:=h5 q rows[q]<|List.getElem?_eq_getElem hq;exact⟨u,by rw[e3, ←Nat.add_assoc];exact g4 j u g1,fun σ hh=>g2 σ<|hh.sub fun p hp=>List.mem_cons_of_mem _ hp⟩
   ·obtain⟨h1,c',e',pV,rW,Qg⟩:=k3 p hp;exact⟨h1,c',e',pV,rW,fun i x hx=>by obtain⟨v,q1,q2⟩:=Qg i x hx;exact⟨v,q1,fun σ hh=>q2 σ<|hh.sub fun p hp=>List.mem_cons_of_mem _ hp⟩⟩
  ·unfold aw;simp only[VR];refine .inr ⟨b,o,cap,.inr ⟨cN _,?_⟩,?_,fun _=>⟨by omega,(zj _).1⟩⟩
   ·have:=hh _ List.mem_cons_self;unfold gp;rw[if_pos<|gf _ _ _];exact this
   ·rw[Nat.add_zero,k1,h4]
end
open Classical in
noncomputable def pF(ms:mB)(ρ:Ren):Ren:=fun k=>if ρ k=none/\∃p∈ms,k=hn (nm p.2.2) p.1 p.2.1 then some (0,0) else ρ k
theorem IB{ms:mB}:ρ.le<|pF ms ρ:=fun k x e=>by unfold pF;rw[if_neg (fun q=>by rw[e] at q;cases q.1)];exact e
theorem MW{ms:mB}{k:Nat}(hk:k<top):pF ms ρ k=ρ k:=by unfold pF;rw[if_neg (fun⟨_,p,_,q⟩=>by have:=gf (nm p.2.2) p.1 p.2.1;omega)]
theorem Tx{ms:mB}:Has (pF ms ρ) ms:=fun p hp=>by
 unfold pF;by_cases q:ρ (hn (nm p.2.2) p.1 p.2.1)=none
 ·rw[if_pos ⟨q,p,hp,rfl⟩];exact fun h=>by cases h
 ·rw[if_neg fun z=>q z.1];exact q
theorem Start.ahx(B:aI){J:Nat}{h0:Tr ae}{w:World}{ms:mB}(S:Start J h0 ρ w)(ht:J<=top)(hg:Good w ms):Rel ⟨fun k=>w.heap.size<=k,FU,fun _=>True,B.inv,w.heap.size,B.mono⟩ (pF ms ρ) h0 w:=by
 have r:=S.rel ht;refine⟨fun n o hn h=>?_,fun n m o p b N M hn hm h1 h2 cS e1 e2=>?_,fun n m es ex left cur hn h=>?_,r.size,r.lone,fun n b sh e=>?_,uf.no (fun n k v hn hg=>by have:=(S.is n _ hn hg).1;cases this) ⟨Nat.le_refl _,fun n o hn hg _=>by obtain⟨_,b,N,o',h1,h2,_⟩:=S.is n o hn hg;exact⟨b,N,IB _ _ h1,ib h2⟩⟩⟩
 ·obtain⟨b,N,o',h1,h2,h3,h4⟩:=r.is n o hn h;exact⟨b,N,o',IB _ _ h1,h2,h3.mono IB,h4⟩
 ·rw[MW hn] at e1;rw[MW hm] at e2;exact r.one n m o p b N M hn hm h1 h2 cS e1 e2
 ·have:=(S.is n _ hn h).1;cases this
 ·refine⟨.inl trivial,?_⟩;have lZ:ρ (hn n b sh)=Option.none:=S.free _<|Nat.le_trans ht<|gf _ _ _;unfold pF at e;split at e
  ·rename_i q;obtain⟨_,p,hp,q⟩:=q;obtain⟨rfl,rfl,rfl⟩:=I9 q;obtain⟨h1,c,el,fr,h2,h3⟩:=hg p hp;refine⟨p.2.2,c,el,fr,Dx h1,h2,fun m o N hm ho cr=>?_,fun i x hx=>?_⟩
   ·rw[ae.ki (S.is m o hm ho).1] at cr;cases cr
   ·obtain⟨v,q1,q2⟩:=h3 i x hx;exact⟨v,q1,q2 _ Tx,HW<|List.all_eq_true.1 h1 x<|List.mem_of_getElem? hx⟩
  ·exact absurd lZ e
end Go.Rn
namespace Go.Rn
open Go.RowKit
variable {ρ:Ren} {ty:TypeId} {J g:Nat} {h:Tr ae} {c:Array Value} {W:World}
theorem Start.ahA{m:Nat}{t:Tr AV}{fr:Nat×Nat}(S:Start J h ρ W)(Qi:g<top)(jv:ρ g=some (g,c.size))(hW:W.heap[g]? =some (.cells c ty fr))(hm:m=c.size)(row:∀i,i<m->∃x v,t.get i=some x/\x.bR=true/\c[i]? =some v/\VR ρ x v):Start J (h.put g<|some<|.ro m t) ρ W:=by
 refine⟨S.g,S.free,fun n o hn ho=>?_⟩;rw[Tr.di _ _ _ _ Qi hn] at ho;by_cases q:n=g
 ·subst q;rw[if_pos rfl] at ho;injection ho with ho;subst ho
  exact⟨rfl,n,c.size,_,jv,hW,c,ty,fr,rfl,rfl,hm,row⟩
 ·rw[if_neg q] at ho;exact S.is n o hn ho
noncomputable section
end
theorem Start.alF{fr:Nat×Nat}(S:Start J h ρ W)(low:∀k,k<fL->ρ k=TO W k)(hg:g<fL)(hW:W.heap[g]? =some (.cells c ty fr))(l:List AV)(hl:l.length<=top)(hs:l.length=c.size)(row:∀(i:Nat) x,l[i]? =some x->x.bR=true/\∃v,c[i]? =some v/\VR ρ x v):Start J (h.put g<|some<|.ro l.length<|Tr.fill l 0 .nil) ρ W:=by
 refine S.ahA (Nat.lt_of_lt_of_le hg (by unfold fL top;decide)) ?_ hW hs fun i hi=>?_
 ·rw[low g hg];unfold TO;rw[if_pos hg,hW]
 ·obtain⟨x,hx⟩:∃x,l[i]? =some x:=⟨l[i],List.getElem?_eq_getElem hi⟩;obtain⟨h1,v,h2,h3⟩:=row i x hx;exact⟨x,v,by rw[abZ _ hl i hi];exact hx,h1,h2,h3⟩
end Go.Rn
