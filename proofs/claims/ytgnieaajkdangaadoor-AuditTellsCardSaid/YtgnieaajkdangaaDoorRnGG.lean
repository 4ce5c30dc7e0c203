import Derived.Test.YtgnieaajkdangaaDoorRnGD
import Derived.Test.YtgnieaajkdangaaDoorRnGE
import Derived.OpenShut
import Derived.Test.YtgnieaajkdangaaDoorRnGF
import Derived.ChangeArms
import Derived.ChangeShapes
import Derived.DataReads
set_option maxRecDepth 100000
set_option maxHeartbeats 8000000
set_option linter.unusedSimpArgs false
namespace Go.Rn
open Go.RowKit
variable {W:World} {P:Program} {g aI n m:Nat} {d:DataW Unit} {ty t e st fe:TypeId} {c:Array Value} {ρ:Ren} {h:Tr aE} {va:Bool} {rs ps:Array TypeId} {l:List (List UInt8×List FuncId)} {k:IntKind}
theorem Start.Y8{t:Tr AV}{fr:Nat×Nat}(S:Start aI h ρ W)(Ik:g<top)(ni:ρ g=some (g,c.size))(hW:W.heap[g]? =some (.cells c ty fr))(hm:m=c.size)(row:∀i,i<m->∃x v,t.get i=some x/\x.ct=true/\c[i]? =some v/\VR ρ x v):Start aI (h.put g (some (.ro m t))) ρ W:=by
 refine⟨S.g,S.free,fun n o hn ho=>?_⟩
 rw[Tr.hH _ _ _ _ Ik hn] at ho
 by_cases q:n=g
 ·subst q
  rw[if_pos rfl] at ho;injection ho with ho;subst ho
  exact⟨rfl,n,c.size,_,ni,hW,c,ty,fr,rfl,rfl,hm,row⟩
 ·rw[if_neg q] at ho;exact S.is n o hn ho
theorem Start.WR{b sh:Nat}{t:Tr AV}{fr:Nat×Nat}(S:Start aI h ρ W)(hg:fb<=aI)(ht:aI<top)(hW:W.heap[b]? =some (.cells c ty fr))(row:∀i,i<m->∃x v,t.get i=some x/\x.ct=true/\c[sh+i]? =some v/\VR ρ x v):Start (aI+1) (h.put aI (some (.pR m t))) (hY ρ aI (b,sh)) W:=by
 have hle:ρ.le (hY ρ aI (b,sh)):=pL (S.free aI (Nat.le_refl _))
 refine⟨fun g Dt=>?_,fun k hk=>?_,fun n o hn ho=>?_⟩
 ·obtain⟨N,e⟩:=S.g g Dt
  exact⟨N,hle _ _ e⟩
 ·rw[mD ρ _ aF];exact S.free k aF
 ·rw[Tr.hH _ _ _ _ ht hn] at ho
  by_cases q:n=aI
  ·subst q
   rw[if_pos rfl] at ho;injection ho with ho;subst ho
   exact⟨rfl,b,sh,_,lE _ _ _,hW,c,ty,fr,rfl,fun i hi=>let ⟨x,v,a1,a2,a3,a4⟩:=row i hi;⟨x,v,a1,a2,a3,VR.mono hle _ _ a4⟩⟩
  ·rw[if_neg q] at ho
   obtain⟨h1,b',N,o',h2,h3,h4⟩:=S.is n o hn ho
   exact⟨h1,b',N,o',hle _ _ h2,h3,h4.mono hle⟩
noncomputable section
def zL(f:FuncId):AV:=.func (.func f) [] []
def Ax(f:FuncId):Value:=.func (.func f) #[] #[]
def Bt:Nat->List (List FuncId)->Tr aE->Tr aE
 |_,[],h=>h
 |aI,fs::l,h=>Bt (aI+1) l (h.put aI (some (.pR fs.length (Tr.fill (fs.map zL) 0 .nil))))
def Cf(aI:Nat):List FuncId->AV
 |[]=>.slice none 0 (.known 0)
 |fs=>.ae aI 0 fs.length
def nw:Nat->List (List UInt8×List FuncId)->List AV
 |_,[]=>[]
 |aI,(bs,fs)::l=>.str ⟨bs.toArray⟩::Cf aI fs::nw (aI+1) l
end
theorem WS(ρ:Ren)(f:FuncId):VR ρ (zL f) (Ax f):=by
 simp only[zL,Ax,VR,aQ];exact⟨rfl,_,_,rfl,rfl,rfl⟩
def Cg(W:World)(a:Nat×Nat)(fs:List FuncId):Prop:=∃c ty fr,W.heap[a.1]? =some (.cells c ty fr)/\∀(j:Nat) f,fs[j]? =some f->c[a.2+j]? =some (Ax f)
theorem Start.L7:∀{l:List (List FuncId)} {aI:Nat} {h:Tr aE} {ρ:Ren} {rows:Nat->Nat×Nat},Start aI h ρ W->fb<=aI->aI+l.length<=top->(∀fs∈l,fs.length<=top)->(∀(i:Nat) fs,l[i]? =some fs->Cg W (rows i) fs)->
    ∃mw,Start (aI+l.length) (Bt aI l h) mw W/\ρ.le mw/\(∀k,k<aI->mw k=ρ k)/\∀i,i<l.length->mw (aI+i)=some (rows i)
  |[],aI,h,ρ,rows,S,_,_,_,_=>⟨ρ,S,Ren.le_refl _,fun _ _=>rfl,fun i hi=>by simp at hi⟩
  | fs::l,aI,h,ρ,rows,S,hg,ht,hlen,hr=>by
    obtain⟨c,ty,fr,h1,h2⟩:=hr 0 fs rfl
    have nh:=hlen fs List.mem_cons_self
    have S1:=S.WR (m:=fs.length) (t:=Tr.fill (fs.map zL) 0 .nil) (sh:=(rows 0).2) hg (by simp at ht;omega) h1 (fun i hi=>by
      obtain⟨f,hf⟩:∃f,fs[i]? =some f:=⟨fs[i],List.getElem?_eq_getElem hi⟩
      refine⟨zL f,Ax f,?_,rfl,h2 i f hf,WS ρ f⟩
      rw[vY _ (by simpa using nh) i (by simpa using hi),List.getElem?_map,hf];rfl)
    obtain⟨mw,S2,hle,cV,aW⟩:=Start.L7 (l:=l) (rows:=fun i=>rows (i+1)) S1 aF (by simp at ht;omega) (fun fs h=>hlen fs (List.mem_cons_of_mem _ h)) (fun i sU h=>hr (i+1) sU (by simpa using h))
    have ui:ρ.le (hY ρ aI ((rows 0).1,(rows 0).2)):=pL (S.free aI (Nat.le_refl _))
    refine⟨mw,by rw[List.length_cons,show aI+(l.length+1)=aI+1+l.length by omega];exact S2,Ren.le_trans ui hle,fun k hk=>by rw[cV k aF,mD ρ _ aF],fun i hi=>?_⟩
    cases i with
    |zero=>rw[Nat.add_zero,cV aI aF,lE]
    |succ i=>rw[show aI+(i+1)=aI+1+i by omega];exact aW i (by simpa using hi)
theorem Ju:∀{l:List (List UInt8×List FuncId)} {aI i:Nat} {x:AV},(nw aI l)[i]? =some x->
    ∃j bs fs,l[j]? =some (bs,fs)/\((i=2*j/\x= .str ⟨bs.toArray⟩)\/(i=2*j+1/\x=Cf (aI+j) fs))
  |[],aI,i,x,h=>by simp[nw] at h
  | (bs,fs)::l,aI,i,x,h=>by
    match i with
    |0=>simp[nw] at h;exact⟨0,bs,fs,rfl,.inl ⟨rfl,h.symm⟩⟩
    |1=>simp[nw] at h;exact⟨0,bs,fs,rfl,.inr ⟨rfl,h.symm⟩⟩
    | i+2=>
      simp[nw] at h
      obtain⟨j,DF,sU,h1,h2⟩:=Ju h
      refine⟨j+1,DF,sU,by simpa using h1,?_⟩
      rcases h2 with⟨h2,h3⟩|⟨h2,h3⟩
      · exact .inl ⟨by omega,h3⟩
      · exact .inr ⟨by omega,by rw[h3];congr 1;omega⟩
theorem DX:∀{l:List (List UInt8×List FuncId)} {aI:Nat},(nw aI l).length=2*l.length
 |[],_=>rfl
 |(bs,fs)::l,aI=>by simp[nw,DX (l:=l)];omega
def sg(P:Program):List (DataW (List UInt8))->List FuncId->Bool
 |[],[]=>true
 |d::ds,f::fs=>wk P d (some f)&&sg P ds fs
 |_,_=>false
def kindOk(P:Program):DataW (List UInt8)->List UInt8×List FuncId->Bool
 | .agg [.lit (.string b),.nil],(bs,[])=>b == bs
 | .agg [.lit (.string b),.slice ds []],(bs,f::fs)=>b == bs&&sg P ds (f::fs)
 |_,_=>false
def tL(P:Program):List (DataW (List UInt8))->List (List UInt8×List FuncId)->Bool
 |[],[]=>true
 |d::ds,k::l=>kindOk P d k&&tL P ds l
 |_,_=>false
def T6(P:Program)(d:DataW (List UInt8))(l:List (List UInt8×List FuncId)):Bool:=
 match d with
 | .agg ds=>tL P ds l
 |_=>false
theorem K0:∀{ds:List (DataW (List UInt8))} {fs:List FuncId},sg P ds fs=true->ds.length=fs.length/\∀(i:Nat) f,fs[i]? =some f->∃d,ds[i]? =some d/\wk P d (some f)=true
  |[],[],_=>⟨rfl,fun i f h=>by simp at h⟩
  |[],_::_,h=>by simp[sg] at h
  |_::_,[],h=>by simp[sg] at h
  | d::ds,f::fs,h=>by
    simp only[sg,Bool.and_eq_true] at h
    obtain⟨h1,h2⟩:=K0 h.2
    refine⟨by simp[h1],fun i g hg=>?_⟩
    cases i with
    |zero=>simp at hg;subst hg;exact⟨d,rfl,h.1⟩
    |succ i=>simp at hg;obtain⟨d',a,b⟩:=h2 i g hg;exact⟨d',by simpa using a,b⟩
theorem J0:∀{ds:List (DataW (List UInt8))} {l:List (List UInt8×List FuncId)},tL P ds l=true->ds.length=l.length/\∀(i:Nat) k,l[i]? =some k->∃d,ds[i]? =some d/\kindOk P d k=true
  |[],[],_=>⟨rfl,fun i f h=>by simp at h⟩
  |[],_::_,h=>by simp[tL] at h
  |_::_,[],h=>by simp[tL] at h
  | d::ds,k::l,h=>by
    simp only[tL,Bool.and_eq_true] at h
    obtain⟨h1,h2⟩:=J0 h.2
    refine⟨by simp[h1],fun i g hg=>?_⟩
    cases i with
    |zero=>simp at hg;subst hg;exact⟨d,rfl,h.1⟩
    |succ i=>simp at hg;obtain⟨d',a,b⟩:=h2 i g hg;exact⟨d',by simpa using a,b⟩
def yF(W:World)(fs:List FuncId)(v:Value)(a:Nat×Nat):Prop:=
 match fs with
 |[]=>v= .slice none 0 0
 |f::fs=>(∃cap,v= .slice (some ⟨a.1,a.2,none⟩) (f::fs).length cap)/\Cg W a (f::fs)
theorem Ru{fuel:Nat}{v:Value}{ds:List (DataW (List UInt8))}{q:List MemPlace}{f:FuncId}{fs:List FuncId}(hs:P.underlying st=some (.slice fe))(hf:P.underlying fe=some (.func ps rs va))(hc:P.cellsOf fe=1)(h:DataW.trod (funcToken P) P W 0 (fun _=>true) true fuel st [v]=some (.slice ds [],q))(hk:sg P ds (f::fs)=true):∃a,yF W (f::fs) v a:=by
  obtain⟨ad,cap,h1,h2,h3⟩:=open_row hs hc h
  obtain⟨k1,k2⟩:=K0 hk
  injection h1 with h1 _
  have get:∀(i:Nat) g,(f::fs)[i]? =some g->W.cell? (ad.add i)=some (Ax g):=by
    intro i g hg
    obtain⟨d,e1,e2⟩:=k2 i g hg
    obtain⟨u,n,q',e3,e4⟩:=h3 i d e1
    have:=Jt (f:=some g) hf e4 e2
    rw[e3,this];rfl
  have spot:ad.spot=none:=by
    have:=get 0 f rfl
    cases u7:ad.spot with
    |none=>rfl
    | some s=>
      have e:ad.add 0=ad:=by simp[Addr.add]
      rw[e] at this
      simp only[World.cell?] at this
      split at this
      · simp[u7] at this
      · cases this
  have IW:ad=⟨ad.block,ad.off,none⟩:=by rw[←spot]
  have mJ:∃c ty fr,W.heap[ad.block]? =some (.cells c ty fr):=by
    have:=get 0 f rfl
    rw[IW] at this
    have e:(Addr.mk ad.block ad.off none).add 0=⟨ad.block,ad.off,none⟩:=by simp[Addr.add]
    rw[e] at this
    simp only[World.cell?] at this
    split at this
    · rename_i c ty fr e2;exact⟨c,ty,fr,e2⟩
    · cases this
  obtain⟨c,ty,fr,mJ⟩:=mJ
  refine⟨(ad.block,ad.off),⟨cap,by rw[h1, ←k1, ←IW]⟩,c,ty,fr,mJ,fun j g hg=>?_⟩
  have:=get j g hg
  rw[IW] at this
  have e:(Addr.mk ad.block ad.off none).add j=⟨ad.block,ad.off+j,none⟩:=by
    unfold Addr.add
    by_cases q:j=0
    · subst q;simp
    · rw[if_neg q]
  rw[e] at this
  simp only[World.cell?,mJ] at this
  exact this
theorem aec{name:String}{ft:TypeId}{f0 f1:Field}(h:funcsAt P W name d)(hg:P.globalNamed name=some g)(vd:(P.globals[g]?).map (·.type)=some t)(ht:P.underlying t=some (.array n e))(he:P.underlying e=some (.struct #[f0,f1]))(hc:P.cellsOf e=2)(h0:f0.offset=0/\f0.type=ft)(h1:f1.offset=1/\f1.type=st)(hft:P.underlying ft=some .string)(u9:P.cellsOf ft=1)(kk:P.underlying st=some (.slice fe))(aaA:P.cellsOf st=1)(hfe:P.underlying fe=some (.func ps rs va))(hcf:P.cellsOf fe=1)(vg:P.cellsOf t=2*n)(hd:T6 P d.funcsOut l=true):
    ∃c ty fr,W.heap[g]? =some (.cells c ty fr)/\2*l.length=c.size/\∃rows:Nat->Nat×Nat,∀(i:Nat) bs fs,l[i]? =some (bs,fs)->c[2*i]? =some (.string ⟨bs.toArray⟩)/\∃v,c[2*i+1]? =some v/\yF W fs v (rows i):=by
  obtain⟨g',t',cs,fuel,p,k1,k2,k3,k4⟩:=h
  obtain rfl:g=g':=Option.some.inj (hg.symm.trans k1)
  obtain rfl:t=t':=Option.some.inj (vd.symm.trans k2)
  have iG:∃ty fr,W.heap[g]? =some (.cells cs ty fr):=by
    unfold World.var? at k3
    rw[hg] at k3
    simp only[Option.bind_some] at k3
    split at k3
    · rename_i c ty fr e;injection k3 with k3;subst k3;exact⟨ty,fr,e⟩
    · cases k3
  obtain⟨ty,fr,iG⟩:=iG
  obtain⟨xs,m,_,hx,hlen,IE,vu⟩:=DataW.trod_array ht k4
  have uo:d.funcsOut= .agg (xs.map (·.1)):=by injection hx
  rw[uo] at hd
  obtain⟨m1,m2⟩:=J0 (show tL P (xs.map (·.1)) l=true from hd)
  have Qh:l.length=n:=by simp at m1;omega
  have each :∀(i:Nat) bs fs,l[i]? =some (bs,fs)->∃a,cs[2*i]? =some (.string ⟨bs.toArray⟩)/\∃v,cs[2*i+1]? =some v/\yF W fs v a:=by
    intro i bs fs hi
    have fZ:i<n:=by have:=(List.getElem?_eq_some_iff.1 hi).1;omega
    obtain⟨dd,e1,e2⟩:=m2 i _ hi
    rw[List.getElem?_map] at e1
    have hy:=vu i fZ
    cases ey:xs[i]? with
    |none=>rw[ey] at e1;cases e1
    | some y=>
      rw[ey] at hy e1
      simp only[Option.map_some,Option.some.injEq] at e1
      rw[hc] at hy
      obtain⟨y0,y1,mm,r1,r2,r3,r4⟩:=Go.ChangeShapes.trod_struct2 he hy
      rw[h0.1,h0.2,u9,List.drop_zero] at r3
      rw[h1.1,h1.2,aaA] at r4
      have iZ:((cs.toList.drop (i*2)).take 2).length=2:=by rw[r2,hc]
      obtain⟨v0,v1,hv⟩:∃v0 v1,(cs.toList.drop (i*2)).take 2=[v0,v1]:=by
        match hq:(cs.toList.drop (i*2)).take 2,iZ with
        |[a,b],_=>exact⟨a,b,rfl⟩
      have g0:cs[2*i]? =some v0:=by
        have:((cs.toList.drop (i*2)).take 2)[0]? =some v0:=by rw[hv];rfl
        rw[List.getElem?_take_of_lt aF,List.getElem?_drop,Nat.add_zero,Array.getElem?_toList,Nat.mul_comm] at this;exact this
      have g1:cs[2*i+1]? =some v1:=by
        have:((cs.toList.drop (i*2)).take 2)[1]? =some v1:=by rw[hv];rfl
        rw[List.getElem?_take_of_lt aF,List.getElem?_drop,Array.getElem?_toList,Nat.mul_comm] at this;exact this
      rw[hv] at r3 r4
      have r3':DataW.trod (funcToken P) P W 0 (fun _=>true) true mm ft [v0]=some y0:=r3
      have Qi:DataW.trod (funcToken P) P W 0 (fun _=>true) true mm st [v1]=some y1:=r4
      obtain⟨s,s1,s2,_⟩:=DataW.trod_string hft r3'
      injection s1 with s1 _
      have hyy:dd= .agg [y0.1,y1.1]:=by rw[←e1,r1]
      rw[hyy] at e2
      have nk:y0.1= .lit (.string s.data.toList):=by rw[s2]
      rw[nk] at e2
      cases fs with
      | nil =>
        have key:s.data.toList=bs/\y1.1= .nil:=by
          unfold kindOk at e2
          split at e2
          · rename_i b DF uw ux
            cases ux
            injection uw with uw
            injection uw with pg uy
            injection uy with uy _
            injection pg with pg
            injection pg with pg
            exact⟨by rw[pg];simpa using e2,uy⟩
          · rename_i ux;cases ux
          · cases e2
        obtain⟨HB,C6⟩:=key
        refine⟨(0,0),by rw[g0,s1, ←HB],v1,g1,?_⟩
        rcases DataW.trod_slice kk Qi with⟨q1,_⟩|⟨a,len,cap,elems,rest,n',_,_,q2,_⟩
        · injection q1
        · rw[q2] at C6;cases C6
      | cons f fs=>
        have key:s.data.toList=bs/\∃ds,y1.1= .slice ds []/\sg P ds (f::fs)=true:=by
          unfold kindOk at e2
          split at e2
          · rename_i ux;cases ux
          · rename_i b ds DF f' sU uw ux
            cases ux
            injection uw with uw
            injection uw with pg uy
            injection uy with uy _
            injection pg with pg
            injection pg with pg
            obtain⟨z1,z2⟩:=and_true.1 e2
            exact⟨by rw[pg];simpa using z1,ds,uy,z2⟩
          · cases e2
        obtain⟨HB,ds,C6,aaB⟩:=key
        obtain⟨a,ha⟩:=Ru (v:=v1) (q:=y1.2) kk hfe hcf (by rw[Qi, ←C6]) aaB
        exact⟨a,by rw[g0,s1, ←HB],v1,g1,ha⟩
  have N4:∀i:Nat,∃a,∀bs fs,l[i]? =some (bs,fs)->cs[2*i]? =some (.string ⟨bs.toArray⟩)/\∃v,cs[2*i+1]? =some v/\yF W fs v a:=by
    intro i
    cases e:l[i]? with
    |none=>exact⟨(0,0),fun bs fs h=>by cases h⟩
    | some k=>
      obtain⟨bs,fs⟩:=k
      obtain⟨a,ha⟩:=each i bs fs e
      exact⟨a,fun DF sU h=>by injection h with h;injection h with q1 q2;subst q1;subst q2;exact ha⟩
  refine⟨cs,ty,fr,iG,?_,fun i=>Classical.choose (N4 i),fun i bs fs hi=>Classical.choose_spec (N4 i) bs fs hi⟩
  rw[vg,Array.length_toList] at hlen
  omega
theorem Start.T7{fr:Nat×Nat}(S:Start aI h ρ W)(low:∀k,k<fb->ρ k=oN W k)(hg:g<fb)(hW:W.heap[g]? =some (.cells c ty fr))(l:List AV)(hl:l.length<=top)(hs:l.length=c.size)(row:∀(i:Nat) x,l[i]? =some x->x.ct=true/\∃v,c[i]? =some v/\VR ρ x v):Start aI (h.put g (some (.ro l.length (Tr.fill l 0 .nil)))) ρ W:=by
 refine S.Y8 (Nat.lt_of_lt_of_le hg (by unfold fb top;decide)) ?_ hW hs fun i hi=>?_
 ·rw[low g hg];unfold oN;rw[if_pos hg,hW]
 ·obtain⟨x,hx⟩:∃x,l[i]? =some x:=⟨l[i],List.getElem?_eq_getElem hi⟩
  obtain⟨h1,v,h2,h3⟩:=row i x hx
  exact⟨x,v,by rw[vY _ hl i hi];exact hx,h1,h2,h3⟩
theorem aed{fr:Nat×Nat}{rows:Nat->Nat×Nat}(hg:g<fb)(dS:fb+l.length<=top)(iZ:2*l.length<=top)(xN:∀k∈l,k.2.length<=top)(hW:W.heap[g]? =some (.cells c ty fr))(hs:2*l.length=c.size)(hr:∀(i:Nat) bs fs,l[i]? =some (bs,fs)->c[2*i]? =some (.string ⟨bs.toArray⟩)/\∃v,c[2*i+1]? =some v/\yF W fs v (rows i)):
    ∃ρ,Start (fb+l.length) ((Bt fb (l.map (·.2)) .nil).put g (some (.ro (nw fb l).length (Tr.fill (nw fb l) 0 .nil)))) ρ W/\∀k,k<fb->ρ k=oN W k:=by
  have cF:∀(i:Nat) fs,(l.map (·.2))[i]? =some fs->Cg W (match fs with|[]=>(g,0)|_=>rows i) fs:=by
    intro i fs h
    rw[List.getElem?_map] at h
    cases e:l[i]? with
    |none=>rw[e] at h;cases h
    | some k=>
      obtain⟨bs,sU⟩:=k
      rw[e] at h;simp only[Option.map_some,Option.some.injEq] at h;subst h
      obtain⟨_,v,_,h3⟩:=hr i bs sU e
      cases sU with
      |nil=>exact⟨c,ty,fr,hW,fun j f hj=>by simp at hj⟩
      |cons f fs=>exact h3.2
  obtain⟨ρ,S,_,low,I⟩:=Start.L7 (l:=l.map (·.2)) (rows:=fun i=>match (l.map (·.2))[i]? with|some []=>(g,0)|_=>rows i) (Start.none W) (Nat.le_refl _) (by simpa using dS)
    (fun fs h=>by
      obtain⟨k,hk,rfl⟩:=List.mem_map.1 h
      exact xN k hk)
    (fun i fs h=>by
      have:=cF i fs h
      show Cg W (match (l.map (·.2))[i]? with|some []=>(g,0)|_=>rows i) fs
      rw[h]
      cases fs with
      |nil=>exact this
      |cons f fs=>exact this)
  rw[List.length_map] at S I
  refine⟨ρ,S.T7 low hg hW _ (by rw[DX];exact iZ) (by rw[DX];exact hs) fun i x hx=>?_,low⟩
  obtain⟨j,bs,fs,h1,h2⟩:=Ju hx
  obtain⟨h3,v,h4,h5⟩:=hr j bs fs h1
  have hj:j<l.length:=(List.getElem?_eq_some_iff.1 h1).1
  rcases h2 with⟨rfl,rfl⟩|⟨rfl,rfl⟩
  · exact⟨rfl,_,h3,by simp only[VR]⟩
  · cases fs with
    | nil=>
      have hv:v= .slice none 0 0:=h5
      exact⟨rfl,v,h4,by simp[Cf,VR,hv]⟩
    | cons f fs=>
      obtain⟨⟨cap,hv⟩,_⟩:=h5
      have e:=I j hj
      rw[List.getElem?_map,h1] at e
      exact⟨rfl,v,h4,by simp only[Cf,VR];exact .inr ⟨_,_,cap,.inl ⟨by omega,e⟩,by rw[hv,Nat.add_zero],fun q=>absurd q aF⟩⟩
def N5(k:IntKind):DataW Unit->Int->Bool
 | .lit (.int k' n),m=>decide (k'=k)&&decide (n=m)
 |_,_=>false
def tU(k:IntKind):List (DataW Unit)->List Int->Bool
 |[],[]=>true
 |d::ds,n::l=>N5 k d n&&tU k ds l
 |_,_=>false
def Vo(k:IntKind)(d:DataW Unit)(l:List Int):Bool:=
 match d with
 | .agg ds=>tU k ds l
 |_=>false
theorem Ko:∀{ds:List (DataW Unit)} {l:List Int},tU k ds l=true->ds.length=l.length/\∀(i:Nat) n,l[i]? =some n->ds[i]? =some (.lit (.int k n))
  |[],[],_=>⟨rfl,fun i f h=>by simp at h⟩
  |[],_::_,h=>by simp[tU] at h
  |_::_,[],h=>by simp[tU] at h
  | d ::ds,n::l,h=>by
    simp only[tU,Bool.and_eq_true] at h
    obtain⟨h1,h2⟩:=Ko h.2
    refine⟨by simp[h1],fun i g hg=>?_⟩
    cases i with
    | zero=>
      simp at hg;subst hg
      have h3:=h.1
      unfold N5 at h3
      split at h3
      · simp only[Bool.and_eq_true,decide_eq_true_eq] at h3
        obtain⟨rfl,rfl⟩:=h3;rfl
      · cases h3
    |succ i=>simp at hg;simpa using h2 i g hg
theorem JK{n:String}:∀{l:List (String×DataW Unit)} {ps:List MemPlace},DataW.LaidVars P W l ps->(n,d)∈l->∃qs,DataW.LaidVars P W [(n,d)] qs
  |[],_,_,h=>by cases h
  | (m,e)::l,ps,h,hm=>by
    obtain⟨g,t,cs,fuel,p,q,k1,k2,k3,k4,k5,k6⟩:=h
    rcases List.mem_cons.1 hm with hm|hm
    · injection hm with h1 h2
      subst h1;subst h2
      exact⟨_,g,t,cs,fuel,p,[],k1,k2,k3,k4,rfl,rfl⟩
    · exact JK k5 hm
theorem aee{n:String}{l:List (String×DataW Unit)}(h:laidMet P l W)(hm:(n,d)∈l):∃qs,DataW.LaidVars P W [(n,d)] qs:=by
 obtain⟨ps,h1,_⟩:=h
 exact JK h1 hm
theorem aef{name:String}{l:List Int}(h:∃qs,DataW.LaidVars P W [(name,d)] qs)(hg:P.globalNamed name=some g)(vd:(P.globals[g]?).map (·.type)=some t)(ht:P.underlying t=some (.array n e))(he:P.underlying e=some (.int k))(hc:P.cellsOf e=1)(vg:P.cellsOf t=n)(hd:Vo k d l=true):
    ∃c ty fr,W.heap[g]? =some (.cells c ty fr)/\l.length=c.size/\∀(i:Nat) m,l[i]? =some m->c[i]? =some (.int k m):=by
  obtain⟨qs,g',t',cs,fuel,p,q,k1,k2,k3,k4,_⟩:=h
  obtain rfl:g=g':=Option.some.inj (hg.symm.trans k1)
  obtain rfl:t=t':=Option.some.inj (vd.symm.trans k2)
  have iG:∃ty fr,W.heap[g]? =some (.cells cs ty fr):=by
    unfold World.var? at k3
    rw[hg] at k3
    simp only[Option.bind_some] at k3
    split at k3
    · rename_i c ty fr e;injection k3 with k3;subst k3;exact⟨ty,fr,e⟩
    · cases k3
  obtain⟨ty,fr,iG⟩:=iG
  obtain⟨xs,m,_,hx,hlen,IE,vu⟩:=DataW.trod_array ht k4
  have uo:d= .agg (xs.map (·.1)):=by injection hx
  rw[uo] at hd
  obtain⟨m1,m2⟩:=Ko (show tU k (xs.map (·.1)) l=true from hd)
  have Qh:l.length=n:=by simp at m1;omega
  have get:∀(i:Nat) z,l[i]? =some z->cs[i]? =some (.int k z):=by
    intro i z hi
    have fZ:i<n:=by have:=(List.getElem?_eq_some_iff.1 hi).1;omega
    have e1:=m2 i z hi
    rw[List.getElem?_map] at e1
    have hy:=vu i fZ
    cases ey:xs[i]? with
    |none=>rw[ey] at e1;cases e1
    | some y=>
      rw[ey] at hy e1
      simp only[Option.map_some,Option.some.injEq] at e1
      rw[hc,Nat.mul_one] at hy
      obtain⟨z',z1,z2⟩:=DataW.trod_int he hy
      have z3:y.1= .lit (.int k z'):=by rw[z2.1]
      rw[z3] at e1
      injection e1 with e1;injection e1 with _ e1
      have:((cs.toList.drop i).take 1)[0]? =some (.int k z'):=by rw[z1];rfl
      rw[List.getElem?_take_of_lt aF,List.getElem?_drop,Nat.add_zero,Array.getElem?_toList] at this
      rw[this,e1]
  refine⟨cs,ty,fr,iG,?_,get⟩
  rw[vg,Array.length_toList] at hlen
  omega
def N6:DataW Unit->List UInt8->Bool
 | .lit (.string b),m=>decide (b=m)
 |_,_=>false
def tV:List (DataW Unit)->List (List UInt8)->Bool
 |[],[]=>true
 |d::ds,n::l=>N6 d n&&tV ds l
 |_,_=>false
def Vp(d:DataW Unit)(l:List (List UInt8)):Bool:=
 match d with
 | .agg ds=>tV ds l
 |_=>false
theorem Kp:∀{ds:List (DataW Unit)} {l:List (List UInt8)},tV ds l=true->ds.length=l.length/\∀(i:Nat) n,l[i]? =some n->ds[i]? =some (.lit (.string n))
  |[],[],_=>⟨rfl,fun i f h=>by simp at h⟩
  |[],_::_,h=>by simp[tV] at h
  |_::_,[],h=>by simp[tV] at h
  | d ::ds,n::l,h=>by
    simp only[tV,Bool.and_eq_true] at h
    obtain⟨h1,h2⟩:=Kp h.2
    refine⟨by simp[h1],fun i g hg=>?_⟩
    cases i with
    | zero=>
      simp at hg;subst hg
      have h3:=h.1
      unfold N6 at h3
      split at h3
      · simp only[decide_eq_true_eq] at h3
        subst h3;rfl
      · cases h3
    |succ i=>simp at hg;simpa using h2 i g hg
theorem aeg{name:String}{l:List (List UInt8)}(h:∃qs,DataW.LaidVars P W [(name,d)] qs)(hg:P.globalNamed name=some g)(vd:(P.globals[g]?).map (·.type)=some t)(ht:P.underlying t=some (.array n e))(he:P.underlying e=some .string)(hc:P.cellsOf e=1)(vg:P.cellsOf t=n)(hd:Vp d l=true):
    ∃c ty fr,W.heap[g]? =some (.cells c ty fr)/\l.length=c.size/\∀(i:Nat) m,l[i]? =some m->c[i]? =some (.string ⟨m.toArray⟩):=by
  obtain⟨qs,g',t',cs,fuel,p,q,k1,k2,k3,k4,_⟩:=h
  obtain rfl:g=g':=Option.some.inj (hg.symm.trans k1)
  obtain rfl:t=t':=Option.some.inj (vd.symm.trans k2)
  have iG:∃ty fr,W.heap[g]? =some (.cells cs ty fr):=by
    unfold World.var? at k3
    rw[hg] at k3
    simp only[Option.bind_some] at k3
    split at k3
    · rename_i c ty fr e;injection k3 with k3;subst k3;exact⟨ty,fr,e⟩
    · cases k3
  obtain⟨ty,fr,iG⟩:=iG
  obtain⟨xs,m,_,hx,hlen,IE,vu⟩:=DataW.trod_array ht k4
  have uo:d= .agg (xs.map (·.1)):=by injection hx
  rw[uo] at hd
  obtain⟨m1,m2⟩:=Kp (show tV (xs.map (·.1)) l=true from hd)
  have Qh:l.length=n:=by simp at m1;omega
  have get:∀(i:Nat) z,l[i]? =some z->cs[i]? =some (.string ⟨z.toArray⟩):=by
    intro i z hi
    have fZ:i<n:=by have:=(List.getElem?_eq_some_iff.1 hi).1;omega
    have e1:=m2 i z hi
    rw[List.getElem?_map] at e1
    have hy:=vu i fZ
    cases ey:xs[i]? with
    |none=>rw[ey] at e1;cases e1
    | some y=>
      rw[ey] at hy e1
      simp only[Option.map_some,Option.some.injEq] at e1
      rw[hc,Nat.mul_one] at hy
      obtain⟨z',z1,z2,_⟩:=DataW.trod_string he hy
      have z3:y.1= .lit (.string z'.data.toList):=by rw[z2]
      rw[z3] at e1
      injection e1 with e1;injection e1 with e1
      have:((cs.toList.drop i).take 1)[0]? =some (.string z'):=by rw[z1];rfl
      rw[List.getElem?_take_of_lt aF,List.getElem?_drop,Nat.add_zero,Array.getElem?_toList] at this
      rw[this, ←e1]
  refine⟨cs,ty,fr,iG,?_,get⟩
  rw[vg,Array.length_toList] at hlen
  omega
end Go.Rn
namespace Go.Rn
open Go.RowKit Go.ChangeShapes
variable {ρ:Ren} {α:Type} {v:Value} {K fuel:Nat} {t e:TypeId} {cq:α->List AV} {Q:α->Prop}
abbrev kZ:=List (Nat×Nat×List AV)
def Has(σ:Ren)(ms:kZ):Prop:=∀p∈ms,σ (hn (nm p.2.2) p.1 p.2.1)≠none
def Good(w:World)(ms:kZ):Prop:=∀p∈ms,p.2.2.all AV.jK=true/\∃c e fr,w.heap[p.1]? =some (.cells c e fr)/\∀(i:Nat) (x:AV),p.2.2[i]? =some x->∃v,c[p.2.1+i]? =some v/\∀σ,Has σ ms->VR (iS σ) x v
def Is(ms:kZ)(x:AV)(v:Value):Prop:=∀σ,Has σ ms->VR (iS σ) x v
theorem Has.sub{σ:Ren}{a b:kZ}(h:Has σ b)(hs:∀p∈a,p∈b):Has σ a:=fun p hp=>h p (hs p hp)
theorem Is.sub{a b:kZ}{x:AV}(h:Is a x v)(hs:∀p∈a,p∈b):Is b x v:=fun σ hh=>h σ (hh.sub hs)
theorem Good.nil{w:World}:Good w []:=fun p hp=>by cases hp
theorem Good.app{w:World}{a b:kZ}(h:Good w a)(k:Good w b):Good w (a++b):=fun p hp=>by
 rcases List.mem_append.1 hp with hp|hp
 ·obtain⟨h1,c,e,fr,h2,h3⟩:=h p hp
  exact⟨h1,c,e,fr,h2,fun i x hx=>by obtain⟨v,k1,k2⟩:=h3 i x hx;exact⟨v,k1,fun σ hh=>k2 σ (hh.sub fun p hp=>List.mem_append_left _ hp)⟩⟩
 ·obtain⟨h1,c,e,fr,h2,h3⟩:=k p hp
  exact⟨h1,c,e,fr,h2,fun i x hx=>by obtain⟨v,k1,k2⟩:=h3 i x hx;exact⟨v,k1,fun σ hh=>k2 σ (hh.sub fun p hp=>List.mem_append_right _ hp)⟩⟩
section
variable {H:Type} {enc:TypeId×Value->H} {P:Program} {w:World} {base:Nat} {spare:Nat->Bool} {held:Bool}
theorem K9{a:Addr}{n:Nat}{cs:List Value}(h:w.cells? base a n=some cs):cs.length=n/\∀(j:Nat) (x:Value),cs[j]? =some x->w.cell? (a.add j)=some x:=by
 unfold World.cells? at h
 split at h
 ·have hlen:cs.length=n:=by simpa using mapM_some_length h
  refine⟨hlen,fun j x hx=>?_⟩
  have hj:j<n:=by
   have:=(List.getElem?_eq_some_iff.1 hx).1
   omega
  have:=mapM_some_get h j j (by simp[hj])
  exact this.trans hx
 ·cases h
theorem LK(b o m:Nat):(⟨b,o,none⟩:Addr).add m=⟨b,o+m,none⟩:=by
 unfold Addr.add
 split
 ·rename_i h;subst h;rfl
 ·rfl
theorem add_zero(a:Addr):a.add 0=a:=by
 unfold Addr.add
 rw[if_pos rfl]
theorem Tp{x:DataW H×List MemPlace}(xf:0<K)(ht:P.underlying t=some (.slice e))(hK:P.cellsOf e=K)(h:DataW.trod enc P w base spare held fuel t [v]=some x):
    (∃a cap,v= .slice a 0 cap)\/∃(b o len cap:Nat) (c:Array Value) (el:TypeId) (fr:Nat×Nat) (rows:List (List Value)),v= .slice (some ⟨b,o,none⟩) len cap/\len<=cap/\w.heap[b]? =some (.cells c el fr)/\rows.length=len/\
      ∀(i:Nat) (row:List Value),rows[i]? =some row->row.length=K/\(∃n y,DataW.trod enc P w base spare held n e row=some y)/\∀(j:Nat) (x:Value),row[j]? =some x->c[o+i*K+j]? =some x:=by
  rcases DataW.trod_slice ht h with⟨h0,_⟩|⟨a,len,cap,elems,rest,n,_,u9,_,_,hl,_,hlen,vu,_,_⟩
  · left
    injection h0 with h0 _
    exact⟨none,0,h0⟩
  · injection u9 with hv _
    subst hv
    rcases Nat.eq_zero_or_pos len with rfl|hlp
    · exact .inl ⟨some a,cap,rfl⟩
    right
    have PV:∀i,i<len->∃cs y,w.cells? base (a.add (i*K)) K=some cs/\DataW.trod enc P w base spare held n e cs=some y:=fun i hi=>by
      have he:=vu i hi
      rw[hK,List.getElem?_eq_getElem aF] at he
      obtain⟨cs,h1,h2⟩:=Option.bind_eq_some_iff.1 he
      exact⟨cs,_,h1,h2⟩
    obtain⟨cs0,_,h1,_⟩:=PV 0 hlp
    obtain⟨k1,k2⟩:=K9 h1
    have iz:=k2 0 _ (List.getElem?_eq_getElem aF)
    rw[Nat.zero_mul,add_zero,add_zero] at iz
    have xI:a.spot=none:=World.cell?_spot iz
    obtain⟨b,o,sp⟩:=a
    simp only at xI
    subst xI
    unfold World.cell? at iz
    simp only at iz
    cases hb:w.heap[b]? with
    |none=>rw[hb] at iz;cases iz
    | some ob=>
      rw[hb] at iz
      cases ob with
      | cells c el fr=>
        refine⟨b,o,len,cap,c,el,fr,(List.range len).map fun i=>(w.cells? base ((⟨b,o,none⟩:Addr).add (i*K)) K).getD [],rfl,hl,hb,by simp,fun i row cF=>?_⟩
        have hi:i<len:=by
          have:=(List.getElem?_eq_some_iff.1 cF).1
          simpa using this
        obtain⟨cs,y,h1,h2⟩:=PV i hi
        rw[List.getElem?_map,List.getElem?_range hi,Option.map_some,h1] at cF
        injection cF with cF
        have pa:cs=row:=cF
        subst pa
        obtain⟨k1,k2⟩:=K9 h1
        refine⟨k1,⟨n,_,h2⟩,fun j x hx=>?_⟩
        have:=k2 j x hx
        rw[LK,LK] at this
        unfold World.cell? at this
        simp only[hb] at this
        simpa using this
      |_=>cases iz
theorem J1{β:Type}:∀{l:List (List β)} {i:Nat} {x:β},(∀c∈l,c.length=K)->l.flatten[i]? =some x->∃q j row,l[q]? =some row/\row[j]? =some x/\i=q*K+j
  |[],i,x,_,h=>by simp at h
  | c ::l,i,x,hl,h=>by
    have hc:=hl c List.mem_cons_self
    rw[List.flatten_cons] at h
    by_cases q:i<c.length
    · rw[List.getElem?_append_left q] at h
      exact⟨0,i,c,rfl,h,by omega⟩
    · rw[List.getElem?_append_right aF] at h
      obtain⟨a,j,row,h1,h2,h3⟩:=J1 (fun c' h'=>hl c' (List.mem_cons_of_mem _ h')) h
      exact⟨a+1,j,row,by simpa using h1,h2,by rw[Nat.add_mul,Nat.one_mul];omega⟩
def zp(w:World)(cq:α->List AV)(Q:α->Prop)(row:List Value)(a:α)(ms:kZ):Prop:=Q a/\Good w ms/\∀(j:Nat) (x:AV),(cq a)[j]? =some x->∃u,row[j]? =some u/\Is ms x u
theorem MO:∀{rows:List (List Value)},(∀row∈rows,∃a ms,zp w cq Q row a ms)->
    ∃(l:List α) (ms:kZ),l.length=rows.length/\(∀a∈l,Q a)/\Good w ms/\∀(i:Nat) a row,l[i]? =some a->rows[i]? =some row->∀(j:Nat) (x:AV),(cq a)[j]? =some x->∃u,row[j]? =some u/\Is ms x u
  |[],_=>⟨[],[],rfl,(fun a ha=>by cases ha),Good.nil,(fun i a row h=>by simp at h)⟩
  | row ::rows,h=>by
    obtain⟨a,ms,h1,h2,h3⟩:=h row List.mem_cons_self
    obtain⟨l,ns,k1,k2,k3,k4⟩:=MO (rows:=rows) fun r hr=>h r (List.mem_cons_of_mem _ hr)
    refine⟨a::l,ms++ns,(by simp[k1]),fun b hb=>?_,h2.app k3,fun i b r hb hr j x hx=>?_⟩
    · rcases List.mem_cons.1 hb with rfl|hb
      · exact h1
      · exact k2 b hb
    · cases i with
      | zero=>
        simp at hb hr
        subst hb;subst hr
        obtain⟨u,e1,e2⟩:=h3 j x hx
        exact⟨u,e1,e2.sub fun p hp=>List.mem_append_left _ hp⟩
      | succ i=>
        simp at hb hr
        obtain⟨u,e1,e2⟩:=k4 i b r hb hr j x hx
        exact⟨u,e1,e2.sub fun p hp=>List.mem_append_right _ hp⟩
theorem Bz(he:lv K cq)(xf:0<K){x:DataW H×List MemPlace}(ht:P.underlying t=some (.slice e))(hK:P.cellsOf e=K)(cF:∀row:List Value,row.length=K->(∃n y,DataW.trod enc P w base spare held n e row=some y)->∃a ms,zp w cq Q row a ms)(h:DataW.trod enc P w base spare held fuel t [v]=some x):
    ∃(l:List α) (ms:kZ),(∀a∈l,Q a)/\Good w ms/\Is ms (aL cq l) v:=by
  rcases Tp xf ht hK h with⟨a,cap,rfl⟩|⟨b,o,len,cap,c,el,fr,rows,rfl,h2,h3,h4,h5⟩
  · refine⟨[],[],(fun a ha=>by cases ha),Good.nil,fun σ _=>?_⟩
    unfold aL
    simp only[VR]
    exact .inl ⟨dB _,rfl,a,cap,rfl⟩
  · obtain⟨l,ms,k1,k2,k3,k4⟩:=MO (w:=w) (cq:=cq) (Q:=Q) (rows:=rows) fun row hr=>by
      obtain⟨i,hi⟩:=List.mem_iff_getElem?.1 hr
      obtain⟨a1,a2,_⟩:=h5 i row hi
      exact cF row a1 a2
    refine⟨l,(b,o,(l.map cq).flatten)::ms,k2,fun p hp=>?_,fun σ hh=>?_⟩
    · rcases List.mem_cons.1 hp with rfl|hp
      · refine⟨he.all l,c,el,fr,h3,fun i x hx=>?_⟩
        obtain⟨q,j,row,e1,e2,e3⟩:=J1 (K:=K) (fun c' oq=>by obtain⟨a,_,rfl⟩:=List.mem_map.1 oq;exact he.len a) hx
        rw[List.getElem?_map] at e1
        cases ha:l[q]? with
        |none=>rw[ha] at e1;cases e1
        | some a=>
          rw[ha] at e1
          injection e1 with e1
          subst e1
          have hq:q<rows.length:=by have:=(List.getElem?_eq_some_iff.1 ha).1;omega
          obtain⟨u,g1,g2⟩:=k4 q a rows[q] ha (List.getElem?_eq_getElem hq) j x e2
          obtain⟨_,_,g4⟩:=h5 q rows[q] (List.getElem?_eq_getElem hq)
          exact⟨u,by rw[e3, ←Nat.add_assoc];exact g4 j u g1,fun σ hh=>g2 σ (hh.sub fun p hp=>List.mem_cons_of_mem _ hp)⟩
      · obtain⟨h1,c',e',ja,lS,Ii⟩:=k3 p hp
        exact⟨h1,c',e',ja,lS,fun i x hx=>by obtain⟨v,q1,q2⟩:=Ii i x hx;exact⟨v,q1,fun σ hh=>q2 σ (hh.sub fun p hp=>List.mem_cons_of_mem _ hp)⟩⟩
    · unfold aL
      simp only[VR]
      refine .inr ⟨b,o,cap,.inr ⟨dB _,?_⟩,?_,fun _=>by omega⟩
      · have:=hh _ List.mem_cons_self
        unfold iS
        rw[if_pos (mG _ _ _)]
        exact this
      · rw[Nat.add_zero,k1,h4]
end
open Classical in
noncomputable def mT(ms:kZ)(ρ:Ren):Ren:=fun k=>if ρ k=none/\∃p∈ms,k=hn (nm p.2.2) p.1 p.2.1 then some (0,0) else ρ k
theorem Fv{ms:kZ}:ρ.le (mT ms ρ):=fun k x e=>by
 unfold mT
 rw[if_neg (fun q=>by rw[e] at q;cases q.1)];exact e
theorem EV{ms:kZ}{k:Nat}(hk:k<top):mT ms ρ k=ρ k:=by
 unfold mT
 rw[if_neg (fun⟨_,p,_,q⟩=>by have:=mG (nm p.2.2) p.1 p.2.1;omega)]
theorem La{ms:kZ}:Has (mT ms ρ) ms:=fun p hp=>by
 unfold mT
 by_cases q:ρ (hn (nm p.2.2) p.1 p.2.1)=none
 ·rw[if_pos ⟨q,p,hp,rfl⟩];exact fun h=>by cases h
 ·rw[if_neg (fun z=>q z.1)];exact q
theorem Start.Z6{aI:Nat}{h0:Tr aE}{w:World}{ms:kZ}(S:Start aI h0 ρ w)(ht:aI<=top)(hg:Good w ms):Rel ⟨fun k=>w.heap.size<=k,FU,fun _=>True⟩ (mT ms ρ) h0 w:=by
  have r:=S.rel ht
  refine⟨fun n o hn h=>?_,fun n m o p b N M hn hm h1 h2 eX e1 e2=>?_,fun n m es ex left cur hn h=>?_,r.size,r.lone,fun n b sh e=>?_⟩
  · obtain⟨b,N,o',h1,h2,h3,h4⟩:=r.is n o hn h
    exact⟨b,N,o',Fv _ _ h1,h2,h3.mono Fv,h4⟩
  · rw[EV hn] at e1
    rw[EV hm] at e2
    exact r.one n m o p b N M hn hm h1 h2 eX e1 e2
  · have:=(S.is n _ hn h).1;cases this
  · refine⟨.inl trivial,?_⟩
    have cK:ρ (hn n b sh)=Option.none:=S.free _ (Nat.le_trans ht (mG _ _ _))
    unfold mT at e
    split at e
    · rename_i q
      obtain⟨_,p,hp,q⟩:=q
      obtain⟨rfl,rfl,rfl⟩:=MQ q
      obtain⟨h1,c,el,fr,h2,h3⟩:=hg p hp
      refine⟨p.2.2,c,el,fr,GF h1,h2,fun m o N hm ho iL=>?_,fun i x hx=>?_⟩
      · rw[(S.is m o hm ho).1] at iL;cases iL
      · obtain⟨v,q1,q2⟩:=h3 i x hx
        exact⟨v,q1,q2 _ La,KY (List.all_eq_true.1 h1 x (List.mem_of_getElem? hx))⟩
    · exact absurd cK e
end Go.Rn
