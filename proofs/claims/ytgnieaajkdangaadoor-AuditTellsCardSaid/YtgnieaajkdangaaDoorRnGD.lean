import Derived.Test.YtgnieaajkdangaaDoorRnGC
import Derived.Orders
import Derived.RangeFuncIn
import Derived.RangeFuncLeaves
import GoSem.Extern.MapsClone
import Derived.Maps.RangeRun
set_option maxRecDepth 100000
set_option maxHeartbeats 8000000
set_option linter.unusedSimpArgs false
namespace Go.Rn
open Go.RowKit
variable {listed:Array Bool} {i:Nat}
def lG(acc:Array Nat)(o:Oper):Nat:=o.after.foldl (fun s e=>if Region.binds .any e then s|||2 ^ e.on|||acc.getD e.on 0 else s) 0
theorem JB(acc:Array Nat)(o:Oper)(i:Nat):(lG acc o).testBit i=true↔∃e∈o.after.toList,Region.binds .any e=true/\(e.on=i\/(acc.getD e.on 0).testBit i=true):=by
  unfold lG
  rw[←Array.foldl_toList]
  have : ∀ (l:List Edge) (s:Nat),(l.foldl (fun s e=>if Region.binds .any e then s|||2 ^ e.on|||acc.getD e.on 0 else s) s).testBit i=true↔
      s.testBit i=true\/∃e∈l,Region.binds .any e=true/\(e.on=i\/(acc.getD e.on 0).testBit i=true):=by
    intro l
    induction l with
    |nil=>intro s;simp
    | cons e l ih=>
      intro s
      rw[List.foldl_cons,ih]
      by_cases q:Region.binds .any e=true
      · rw [if_pos q]
        simp only[Nat.testBit_or,Bool.or_eq_true,Nat.testBit_two_pow,decide_eq_true_eq,List.mem_cons,exists_eq_or_imp,q,true_and]
        constructor
        · rintro ((h|h)|h)
          · rcases h with h|h
            · exact .inl h
            · exact .inr (.inl (.inl h))
          · exact .inr (.inl (.inr h))
          · exact .inr (.inr h)
        · rintro (h|(h|h)|h)
          · exact .inl (.inl (.inl h))
          · exact .inl (.inl (.inr h))
          · exact .inl (.inr h)
          · exact .inr h
      · rw[if_neg q]
        simp only[List.mem_cons,exists_eq_or_imp,q,false_and,false_or,Bool.false_eq_true]
  have h:=this o.after.toList 0
  simpa using h
theorem Eh(l:List Oper):∀(acc:Array Nat),(l.foldl (fun acc o=>acc.push (lG acc o)) acc).size=acc.size+l.length/\
    (∀k,k<acc.size->(l.foldl (fun acc o=>acc.push (lG acc o)) acc).getD k 0=acc.getD k 0):=by
  induction l with
  |nil=>intro acc;exact⟨by simp,fun k _=>rfl⟩
  | cons o l ih=>
    intro acc
    rw[List.foldl_cons]
    obtain⟨h1,h2⟩:=ih (acc.push (lG acc o))
    refine⟨by rw[h1];simp;omega,fun k hk=>?_⟩
    rw[h2 k qd]
    simp only[Array.getD_eq_getD_getElem?,Array.getElem?_push]
    rw[if_neg aF]
theorem KF{ops:Array Oper}{j:Nat}{o:Oper}(ho:ops[j]? =some o):
  (Region.before ops).getD j 0=lG ((ops.toList.take j).foldl (fun acc o=>acc.push (lG acc o)) #[]) o/\
  ∀k,k<j->((ops.toList.take j).foldl (fun acc o=>acc.push (lG acc o)) #[]).getD k 0=(Region.before ops).getD k 0:=by
 have hb:Region.before ops=ops.toList.foldl (fun acc o=>acc.push (lG acc o)) #[]:=by
  unfold Region.before
  rw[←Array.foldl_toList]
  rfl
 have hj:j<ops.toList.length:=by
  have:=(Array.getElem?_eq_some_iff.1 ho).1;simpa using this
 have cu:ops.toList[j]? =some o:=by simpa using ho
 have Wx:ops.toList=ops.toList.take j++o::ops.toList.drop (j+1):=by
  have e:ops.toList.drop j=o::ops.toList.drop (j+1):=by
   rw[List.drop_eq_getElem_cons hj]
   congr 1
   rw[List.getElem?_eq_getElem hj] at cu
   injection cu
  rw[←e,List.take_append_drop]
 obtain⟨s1,_⟩:=Eh (ops.toList.take j) #[]
 have lR:((ops.toList.take j).foldl (fun acc o=>acc.push (lG acc o)) #[]).size=j:=by
  rw[s1,List.length_take,Nat.min_eq_left aF];exact Nat.zero_add j
 generalize hA:(ops.toList.take j).foldl (fun acc o=>acc.push (lG acc o)) #[]=A at*
 have xJ:Region.before ops=(ops.toList.drop (j+1)).foldl (fun acc o=>acc.push (lG acc o)) (A.push (lG A o)):=by
  rw[hb]
  conv=>lhs;rw[Wx]
  rw[List.foldl_append,hA,List.foldl_cons]
 obtain⟨_,q2⟩:=Eh (ops.toList.drop (j+1)) (A.push (lG A o))
 refine⟨?_,fun k hk=>?_⟩
 ·rw[xJ,q2 j qd]
  rw[Array.getD_eq_getD_getElem?,Array.getElem?_push,if_pos lR.symm];rfl
 ·rw[xJ,q2 k qd]
  simp only[Array.getD_eq_getD_getElem?,Array.getElem?_push]
  rw[if_neg aF]
theorem JV(ops:Array Oper):(Region.before ops).size=ops.size:=by
 have hb:Region.before ops=ops.toList.foldl (fun acc o=>acc.push (lG acc o)) #[]:=by
  unfold Region.before
  rw[←Array.foldl_toList]
  rfl
 rw[hb,(Eh ops.toList #[]).1];simp
theorem QV{ops:Array Oper}(he:BA ops)(D:Nat->Prop)(hD:∀(j:Nat) (o:Oper) (e:Edge),ops[j]? =some o->D j->e∈o.after->Region.binds .any e=true->D e.on):
    ∀(n j i:Nat),j<=n->((Region.before ops).getD j 0).testBit i=true->i<j/\(D j->D i)/\((∀(o:Oper) (e:Edge),ops[j]? =some o->e∈o.after->Region.binds .any e=true->D e.on)->D i):=by
  intro n
  induction n with
  | zero=>
    intro j i hj h
    have:j=0:=by omega
    subst this
    cases ho:ops[0]? with
    | none=>
      have:¬0<(Region.before ops).size:=by
        rw[JV];intro q;rw[Array.getElem?_eq_getElem q] at ho;cases ho
      rw[Array.getD_eq_getD_getElem?,Array.getElem?_eq_none aF] at h
      simp at h
    | some o=>
      obtain⟨h1,_⟩:=KF ho
      rw[h1,JB] at h
      obtain⟨e,hm,km,_⟩:=h
      exact absurd (he 0 o e ho (Array.mem_toList_iff.1 hm) km) (Nat.not_lt_zero _)
  | succ n ih=>
    intro j i hj h
    by_cases q:j<=n
    · exact ih j i q h
    · have:j=n+1:=by omega
      subst this
      cases ho:ops[n+1]? with
      | none=>
        have:¬n+1<(Region.before ops).size:=by
          rw[JV];intro q;rw[Array.getElem?_eq_getElem q] at ho;cases ho
        rw[Array.getD_eq_getD_getElem?,Array.getElem?_eq_none aF] at h
        simp at h
      | some o=>
        obtain⟨h1,h2⟩:=KF ho
        rw[h1,JB] at h
        obtain⟨e,hm,km,eX⟩:=h
        have lU:=Array.mem_toList_iff.1 hm
        have cQ:=he (n+1) o e ho lU km
        rcases eX with rfl|eX
        · exact⟨cQ,fun Iv=>hD _ o e ho Iv lU km,fun eF=>eF o e rfl lU km⟩
        · rw[h2 e.on cQ] at eX
          obtain⟨a,b,_⟩:=ih e.on i aF eX
          exact⟨by omega,fun Iv=>b (hD _ o e ho Iv lU km),fun eF=>b (eF o e rfl lU km)⟩
def open_(listed:Array Bool):Nat:=(List.range listed.size).countP fun i=> !listed.getD i true
theorem SA{n:Nat}{p q:Nat->Bool}(hi:i<n)(hp:p i=true)(hq:q i=false)(fD:∀k,k≠i->q k=p k):(List.range n).countP q<(List.range n).countP p:=by
  induction n with
  |zero=>omega
  | succ n ih=>
    rw[List.range_succ,List.countP_append,List.countP_append]
    by_cases e:i=n
    · subst e
      have:(List.range i).countP q=(List.range i).countP p:=by
        apply List.countP_congr
        intro k hk
        have:k≠i:=by have:=List.mem_range.1 hk;omega
        rw[fD k this]
      rw[this];simp[hp,hq]
    · have:=ih aF
      have e2:(List.countP q [n])=List.countP p [n]:=by
        simp[List.countP_cons,fD n (Ne.symm e)]
      rw[e2];omega
theorem TA(hi:listed.getD i true=false):open_ (listed.setIfInBounds i true)<open_ listed:=by
 have cQ:i<listed.size:=by
  rcases Nat.lt_or_ge i listed.size with q|q
  ·exact q
  ·rw[Array.getD_eq_getD_getElem?,Array.getElem?_eq_none q] at hi;cases hi
 unfold open_
 rw[Array.size_setIfInBounds]
 refine SA cQ (by simp[hi]) ?_ (fun k hk=>?_)
 ·simp[Array.getD_eq_getD_getElem?,Array.getElem?_setIfInBounds_self_of_lt cQ]
 ·simp only[Array.getD_eq_getD_getElem?]
  rw[Array.getElem?_setIfInBounds_ne aF]
theorem SB(h:open_ listed=0):∀i,i<listed.size->listed.getD i false=true:=by
 intro i hi
 unfold open_ at h
 rw[List.countP_eq_zero] at h
 have:=h i (List.mem_range.2 hi)
 rw[Array.getD_eq_getD_getElem?,Array.getElem?_eq_getElem hi] at this ⊢
 simpa using this
theorem RU{ops:Array Oper}(he:BA ops)(hs:listed.size=ops.size)(hr:Region.ready .any ops listed=[]):∀n i,i<n->i<ops.size->listed.getD i false=true:=by
  intro n
  induction n with
  |zero=>intro i hi;omega
  | succ n ih=>
    intro i hi cQ
    by_cases q:i<n
    · exact ih i q cQ
    · have:i=n:=by omega
      subst this
      cases h:listed.getD i false with
      |true=>rfl
      | false=>
        exfalso
        have pc:i∈Region.ready .any ops listed:=by
          unfold Region.ready
          rw[List.mem_filter]
          refine⟨List.mem_range.2 cQ,?_⟩
          have h1:listed.getD i true=false:=by
            rw[Array.getD_eq_getD_getElem?,Array.getElem?_eq_getElem aF] at h ⊢
            simpa using h
          rw[h1,Array.getElem?_eq_getElem cQ]
          simp only[Bool.not_false,Bool.true_and,Option.map_some,Option.getD_some]
          rw[Array.all_eq_true_iff_forall_mem]
          intro e hm
          cases hb:Region.binds .any e with
          |false=>rfl
          | true=>
            have aag:=he i ops[i] e (Array.getElem?_eq_getElem cQ) hm hb
            simp only[Bool.not_true,Bool.false_or]
            exact ih e.on aag aF
        rw[hr] at pc;cases pc
section
variable {P:Program} {ops:Array Oper}
theorem SC(he:BA ops)(b:Frame)(k:List Item)(cs:List Frame)(Inv:Array Bool->Act->World->Prop)(YM:∀(listed:Array Bool) (a:Act) (w:World) (i:Nat) (o:Oper) (rest:List Nat),listed.size=ops.size->Inv listed a w->ops[i]? =some o->listed.getD i true=false->
      (∀e∈o.after,Region.binds .any e=true->listed.getD e.on false=true)->
      ∃a' w',Inv (listed.setIfInBounds i true) a' w'/\Steps P (lone (b.atR a (.inRegion ops (i::rest)::k)) cs w) (lone (b.atR a' (.inRegion ops rest::k)) cs w')):
    ∀ (fuel t:Nat) (listed:Array Bool) (a:Act) (w:World),listed.size=ops.size->open_ listed<=fuel->Inv listed a w->
      ∃ tF a' w',tF.size=ops.size/\(∀i,i<ops.size->tF.getD i false=true)/\Inv tF a' w'/\
        Steps P (lone (b.atR a (.inRegion ops (Region.linearise.go .any ops fuel t listed [])::k)) cs w) (lone (b.atR a' k) cs w'):=by
  intro fuel
  induction fuel with
  | zero=>
    intro t listed a w hs ho hi
    refine⟨listed,a,w,hs,?_,hi,?_⟩
    · intro i cQ;exact SB aF i aF
    · simp only[Region.linearise.go,List.reverse_nil]
      exact .one stepR_region_end
  | succ fuel ih=>
    intro t listed a w hs ho hi
    simp only[Region.linearise.go]
    change ∃tF a' w',tF.size=ops.size/\(∀i,i<ops.size->tF.getD i false=true)/\Inv tF a' w'/\
        Steps P (lone (b.atR a (.inRegion ops (match (Region.ready .any ops listed)[t % (Region.ready .any ops listed).length]? with
          |some i=>Region.linearise.go .any ops fuel (t / (Region.ready .any ops listed).length) (listed.setIfInBounds i true) [i]
          |none=>[].reverse)::k)) cs w) (lone (b.atR a' k) cs w')
    cases hq:(Region.ready .any ops listed)[t % (Region.ready .any ops listed).length]? with
    | none=>
      have aah:Region.ready .any ops listed=[]:=by
        cases hr:Region.ready .any ops listed with
        |nil=>rfl
        | cons x xs=>
          rw[hr] at hq
          have cQ:t % (x::xs).length<(x::xs).length:=Nat.mod_lt _ jQ
          simp at hq
          simp at cQ
          omega
      refine⟨listed,a,w,hs,fun i cQ=>RU he hs aah (i+1) i aF cQ,hi,?_⟩
      simp only[List.reverse_nil]
      exact .one stepR_region_end
    | some i=>
      simp only[]
      have pc:=List.mem_of_getElem? hq
      unfold Region.ready at pc
      rw[List.mem_filter,Bool.and_eq_true] at pc
      obtain⟨cQ,h1,h2⟩:=pc
      have aai:=List.mem_range.1 cQ
      have P5:ops[i]? =some ops[i]:=Array.getElem?_eq_getElem aai
      rw[P5] at h2
      simp only[Option.map_some,Option.getD_some] at h2
      rw[Array.all_eq_true_iff_forall_mem] at h2
      have gX:listed.getD i true=false:=by simpa using h1
      rw[linearise_go_acc,List.reverse_singleton,List.singleton_append]
      obtain⟨a',w',j1,j2⟩:=YM listed a w i ops[i] (Region.linearise.go .any ops fuel (t / (Region.ready .any ops listed).length) (listed.setIfInBounds i true) []) hs hi P5 gX (fun e hm hb=>by
        have:=h2 e hm
        rw[hb] at this;simpa using this)
      obtain⟨l',Al,lT,k0,k1,k2,k3⟩:=ih (t / (Region.ready .any ops listed).length) (listed.setIfInBounds i true) a' w' (by simp[hs]) (by have:=TA gX;omega) j1
      exact⟨l',Al,lT,k0,k1,k2,Steps.trans j2 k3⟩
theorem TB(n:Nat):open_ (Array.replicate n false)<=n:=by
 unfold open_
 have:=List.countP_le_length (p:=fun i=> !(Array.replicate n false).getD i true) (l:=List.range (Array.replicate n false).size)
 simpa using this
end
end Go.Rn
namespace Go.Rn
open Go.RowKit
variable {g f:Operand->Option AV}
section
variable {P:Program} {call:bf} {t u:Tr AV}
theorem A1:∀{l:List Operand},(∀y∈l,f y=g y)->iv f l=iv g l
 |[],_=>rfl
 |y::l,h=>by simp only[iv,h y List.mem_cons_self,A1 fun z hz=>h z (List.mem_cons_of_mem _ hz)]
theorem Ei:∀{l:List (Nat×Operand)},(∀y∈l,f y.2=g y.2)->pS f l=pS g l
 |[],_=>rfl
 |(i,y)::l,h=>by simp only[pS,h (i,y) List.mem_cons_self,Ei fun z hz=>h z (List.mem_cons_of_mem _ hz)]
theorem EH{y:Option Operand}(h:∀z,y=some z->f z=g z):opt f y=opt g y:=by
 cases y with
 |none=>rfl
 |some z=>simp only[opt,h z rfl]
theorem SD{op:Op}(h:∀y∈op.operands,aR t y=aR u y):(cW P op).val call t=(cW P op).val call u:=by
 cases op
 case move y=>show pT y call t=pT y call u;simp only[pT,h y fj]
 case assign y=>show pT y call t=pT y call u;simp only[pT,h y fj]
 case pick c p q=>show tY c p q call t=tY c p q call u;simp only[tY,h c fj,h p fj,h q fj]
 case alloc e=>rfl
 case box e y=>show uh y call t=uh y call u;simp only[uh,h y fj]
 case build ty parts=>
  show tP P ty parts.toList call t=tP P ty parts.toList call u
  simp only[tP,Ei (f:=aR t) (g:=aR u) (l:=parts.toList) fun y hy=>h y.2 (by simp only[Op.operands,List.mem_toArray];exact List.mem_map_of_mem hy)]
 case buildSlice ty len parts=>
  show td P ty len parts.toList call t=td P ty len parts.toList call u
  simp only[td,Ei (f:=aR t) (g:=aR u) (l:=parts.toList) fun y hy=>h y.2 (by simp only[Op.operands,List.mem_toArray];exact List.mem_map_of_mem hy)]
 case load ty y=>show o5 P ty y call t=o5 P ty y call u;simp only[o5,h y fj]
 case store ty y z=>show qG P ty y z call t=qG P ty y z call u;simp only[qG,h y fj,h z fj]
 case nilCheck y=>show ti y call t=ti y call u;simp only[ti,h y fj]
 case binOp op ty y z v=>show kK P op ty y z call t=kK P op ty y z call u;simp only[kK,h y fj,h z fj]
 case unOp op ty y=>show uV op y call t=uV op y call u;simp only[uV,h y fj]
 case convert src dst y=>show tk P src dst y call t=tk P src dst y call u;simp only[tk,h y fj]
 case makeInterface ty y=>show tb P ty y call t=tb P ty y call u;simp only[tb,h y fj]
 case makeFunc fn first captured=>
  show tj fn first.toList captured.toList call t=tj fn first.toList captured.toList call u
  simp only[tj,A1 (f:=aR t) (g:=aR u) (l:=first.toList) fun y hy=>h y (by simp only[Op.operands,Array.mem_append];exact .inl (Array.mem_toList_iff.1 hy)),
   A1 (f:=aR t) (g:=aR u) (l:=captured.toList) fun y hy=>h y (by simp only[Op.operands,Array.mem_append];exact .inr (Array.mem_toList_iff.1 hy))]
 case makeMap ty y=>
  cases y with
  |none=>rfl
  |some y=>show tl P ty (some y) call t=tl P ty (some y) call u;simp only[tl,h y fj]
 case makeSlice ty l c=>show te P ty l c call t=te P ty l c call u;simp only[te,h l fj,h c fj]
 case slice ty y lo hi mx=>
  show qH P ty y lo hi mx call t=qH P ty y lo hi mx call u
  simp only[qH,h y fj,EH (f:=aR t) (g:=aR u) (y:=lo) (fun z hz=>h z (by simp[Op.operands,hz])),EH (f:=aR t) (g:=aR u) (y:=hi) (fun z hz=>h z (by simp[Op.operands,hz])),
   EH (f:=aR t) (g:=aR u) (y:=mx) (fun z hz=>h z (by simp[Op.operands,hz]))]
 case fieldAddr ty y f=>show tf P ty y f call t=tf P ty y f call u;simp only[tf,h y fj]
 case field ty y f=>show wB P ty y f call t=wB P ty y f call u;simp only[wB,h y fj]
 case indexAddr ty y z=>show oA P ty y z call t=oA P ty y z call u;simp only[oA,h y fj,h z fj]
 case index ty y z=>show wD P ty y z call t=wD P ty y z call u;simp only[wD,h y fj,h z fj]
 case lookup ty y z ok=>show qB P ty y z ok call t=qB P ty y z ok call u;simp only[qB,h y fj,h z fj]
 case mapUpdate ty m k y=>show mC P ty m k y call t=mC P ty m k y call u;simp only[mC,h m fj,h k fj,h y fj]
 case insert ty m k y=>show mC P ty m k y call t=mC P ty m k y call u;simp only[mC,h m fj,h k fj,h y fj]
 case typeAssert y xt asserted ok=>show wg P asserted ok y call t=wg P asserted ok y call u;simp only[wg,h y fj]
 case range ty y=>show wE P ty y call t=wE P ty y call u;simp only[wE,h y fj]
 case entry y=>show wF y call t=wF y call u;simp only[wF,h y fj]
 case next y Iu=>
  cases Iu with
  |true=>show vV y call t=vV y call u;simp only[vV,h y fj]
  |false=>rfl
 case extract y i=>show tm y i call t=tm y i call u;simp only[tm,h y fj]
 case call c=>
  obtain⟨callee,args,ts⟩:=c
  have ha:∀(cl:Callee),(∀y∈(Op.call ⟨cl,args,ts⟩).operands,aR t y=aR u y)->iv (aR t) args.toList=iv (aR u) args.toList:=fun cl hh=>
   A1 fun y hy=>hh y (by simp only[Op.operands,Call.operands,Array.mem_append];exact .inr (Array.mem_toList_iff.1 hy))
  cases callee with
  |builtin b=>show oJ P b ts args.toList call t=oJ P b ts args.toList call u;simp only[oJ,ha _ h]
  |value f=>show mN f args.toList call t=mN f args.toList call u;simp only[mN,ha _ h,h f (by simp[Op.operands,Call.operands])]
  |invoke r name=>show tE P r name args.toList call t=tE P r name args.toList call u;simp only[tE,ha _ h,h r (by simp[Op.operands,Call.operands])]
 all_goals rfl
theorem TC{y:Operand}(h:∀d,y= .tmp d->t.get d=u.get d):aR t y=aR u y:=by
 cases y with
 |tmp d=>show t.get d=u.get d;rw[h d rfl]
 |_=>rfl
theorem J7{nt:Nat}{ops:Array Oper}{o:Oper}(h:∀d∈o.looksAt ops,t.get d=u.get d){s s1:AS}{t1:Tr AV}(hr:fL P call nt ops o t s= .ok t1 s1):
    ∃v,gW nt t o.dst v=some t1/\∀u1,gW nt u o.dst v=some u1->fL P call nt ops o u s= .ok u1 s1:=by
  have dV:(cW P o.op).val call t=(cW P o.op).val call u:=SD fun y hy=>TC fun d hd=>h d (by
    unfold Oper.looksAt
    refine List.mem_append_left _ (List.mem_filterMap.2 ⟨y,Array.mem_toList_iff.2 hy,by rw[hd]⟩))
  have main:nZ (cW P o.op) o.dst call nt t s= .ok t1 s1->∃v,gW nt t o.dst v=some t1/\∀u1,gW nt u o.dst v=some u1->nZ (cW P o.op) o.dst call nt u s= .ok u1 s1:=by
    intro hk
    unfold nZ at hk
    obtain⟨v,s2,h1,h2⟩:=M.bG hk
    obtain⟨h3,rfl⟩:=gq h2
    refine⟨v,h3,fun u1 hu=>?_⟩
    unfold nZ
    rw[←dV,M.dA h1]
    unfold lift
    rw[hu]
  unfold fL tZ at hr ⊢
  cases hg:o.guard with
  | none=>
    rw[hg] at hr
    exact main hr
  | some g=>
    rw[hg] at hr
    have u0:o6 ops g (cW P o.op) o.dst call nt t s= .ok t1 s1:=hr
    have hw :lZ ops g t=lZ ops g u:=by
      unfold lZ yn
      cases e1:ops[g.1]? with
      |none=>rfl
      | some q=>
        simp only
        cases e2:q.dst with
        |none=>rfl
        | some d=>
          simp only
          rw[h d (by
            unfold Oper.looksAt
            refine List.mem_append_right _ ?_
            rw[hg]
            simp[e1,e2])]
    have hkn:nH ops t g.1=nH ops u g.1:=by
      unfold nH
      cases e1:ops[g.1]? with
      |none=>rfl
      | some q=>
        simp only
        cases e2:q.dst with
        |none=>rfl
        | some d=>
          simp only
          rw[h d (by
            unfold Oper.looksAt
            refine List.mem_append_right _ ?_
            rw[hg]
            simp[e1,e2])]
    show ∃v,gW nt t o.dst v=some t1/\∀u1,gW nt u o.dst v=some u1->o6 ops g (cW P o.op) o.dst call nt u s= .ok u1 s1
    unfold o6 at u0 ⊢
    obtain⟨hk,u0⟩:=dY u0
    rw[←hw, ←hkn,hk,fG]
    cases q:lZ ops g t with
    |true=>rw[q] at u0;exact main u0
    | false=>
      rw[q] at u0
      obtain⟨h3,rfl⟩:=gq (show lift (gW nt t o.dst lH) s= .ok t1 s1 from u0)
      refine⟨lH,h3,fun u1 hu=>?_⟩
      show lift (gW nt u o.dst lH) s1= .ok u1 s1
      unfold lift
      rw[hu]
end
end Go.Rn
namespace Go.Rn
open Go.RowKit
variable {b:Array Nat}
theorem Rel.congr{B:aZ}{ρ:Ren}{h h':Tr aE}{w:World}(r:Rel B ρ h w)(e:∀m,m<top->h'.get m=h.get m):Rel B ρ h' w:=by
 refine⟨fun n o hn hg=>r.is n o hn (by rw[←e n hn];exact hg),fun n m o p b N M hn hm h1 h2 eX=>r.one n m o p b N M hn hm (by rw[←e n hn];exact h1) (by rw[←e m hm];exact h2) eX,fun n m es ex left cur hn h1=>?_,r.size,
  fun i j m es ex left cur kj mo lJ lM hi hj h1 h2=>r.lone i j m es ex left cur kj mo lJ lM hi hj (by rw[←e i hi];exact h1) (by rw[←e j hj];exact h2),
  r.fz.of (Ren.le_refl _) (fun _ _ _=>rfl) (fun b1 _ hn=>hn.sub fun m q hm hq nb=>⟨q,by rw[←e m hm];exact hq,nb⟩)⟩
 obtain⟨a,b,c⟩:=r.iter n m es ex left cur hn (by rw[←e n hn];exact h1)
 exact⟨a,by rw[e m a];exact b,c⟩
theorem Jn{x:cT}:∀{all:List cT},oB b x all=true->∀y∈all,x.i=y.i\/oW x y=true\/loose b x.i y.i=false
  |[],_,y,hy=>by cases hy
  | z ::l,h,y,hy=>by
    simp only[oB] at h
    cases q:(Nat.beq x.i z.i||(oW x z|| !loose b x.i z.i)) with
    |false=>rw[q] at h;cases h
    | true=>
      rw[q] at h
      rcases List.mem_cons.1 hy with rfl|hy
      · simp only[Bool.or_eq_true,Bool.not_eq_true'] at q
        rcases q with q|q|q
        · exact .inl (fT.1 q)
        · exact .inr (.inl q)
        · exact .inr (.inr q)
      · exact Jn h y hy
theorem KG{all:List cT}:∀{l:List cT},mO b all l=true->∀x∈l,oX x=true\/oB b x all=true
  |[],_,x,hx=>by cases hx
  | z ::l,h,x,hx=>by
    simp only[mO] at h
    cases q:(oX z||oB b z all) with
    |false=>rw[q] at h;cases h
    | true=>
      rw[q] at h
      rcases List.mem_cons.1 hx with rfl|hx
      · exact Bool.or_eq_true_iff.1 q
      · exact KG h x hx
theorem JW{m:List Nat}:∀{l:List Nat},meets l m=false->∀x∈l,x ∉ m
  |[],_,x,hx=>by cases hx
  | z ::l,h,x,hx=>by
    simp only[meets] at h
    cases q:pY z m with
    |true=>rw[q] at h;cases h
    | false=>
      rw[q] at h
      rcases List.mem_cons.1 hx with rfl|hx
      · intro e;rw[yo.2 e] at q;cases q
      · exact JW h x hx
theorem JX{lo hi:Nat}:∀{l:List Nat},sc lo hi l=false->∀x∈l,¬(lo<=x/\x<hi)
  |[],_,x,hx=>by cases hx
  | z ::l,h,x,hx=>by
    simp only[sc] at h
    cases q:(Nat.ble lo z&&Nat.blt z hi) with
    |true=>rw[q] at h;cases h
    | false=>
      rw[q] at h
      rcases List.mem_cons.1 hx with rfl|hx
      · rintro ⟨h1,h2⟩
        rw[show Nat.ble lo x=true from bH.2 h1,show Nat.blt x hi=true from(blt_eq _ _).mpr h2] at q
        cases q
      · exact JX h x hx
section
variable {P:Program} {call:bf} {ops:Array Oper} {nt:Nat}
structure GY (P:Program) (call:bf) (ops:Array Oper) (nt:Nat) (H:Nat->Tr aE) (N:Nat->Nat) (T:Nat->Tr AV) (k:Nat) (o:Oper) (x:cT) (s1:AS):Prop where
 lo:x.lo=N k
 hi:x.hi=N (k+1)
 run:fL P call nt ops o (T k) ⟨H k,N k,N k,[],[]⟩= .ok (T (k+1)) s1
 h:s1.h=H (k+1)
 nx:s1.nx=N (k+1)
 rd:x.rd=below (N k) s1.rd
 wr:x.wr=below (N k) s1.wr
theorem KH(hl:∀t a,Local (call t a)):∀(l:List Oper) (i:Nat) {t t':Tr AV} {s s':AS} {ms:List cT},bY s->kG P call nt ops l i t s= .ok (t',ms) s'->
    bY s'/\∃(H:Nat->Tr aE) (N:Nat->Nat) (T:Nat->Tr AV),H 0=s.h/\N 0=s.nx/\T 0=t/\H l.length=s'.h/\N l.length=s'.nx/\T l.length=t'/\
      (∀k,k<=l.length->N k<=top)/\∀k o,l[k]? =some o->∃x s1,ms[k]? =some x/\x.i=i+k/\GY P call ops nt H N T k o x s1
  | [],i,t,t',s,s',ms,fi,h=>by
    obtain⟨e,rfl⟩:=bW (show M.pure (t,[]) s= .ok (t',ms) s' from h)
    cases e
    exact⟨fi,fun _=>s'.h,fun _=>s'.nx,fun _=>t,rfl,rfl,rfl,rfl,rfl,rfl,fun _ _=>fi.nx,fun k o h=>by simp at h⟩
  | o ::l,i,t,t',s,s',ms,fi,h=>by
    obtain⟨x,s2,h1,h2⟩:=M.bG (show((alone i (fL P call nt ops o t)).bind fun x=>(kG P call nt ops l (i+1) x.1).bind fun y=>M.pure (y.1,x.2::y.2)) s= .ok (t',ms) s' from h)
    obtain⟨y,s3,h3,h4⟩:=M.bG h2
    obtain⟨e,rfl⟩:=bW h4
    cases e
    obtain⟨a,s1,g1,rfl,rfl⟩:=Kx h1
    have Iw:bY s1:=(Local.fL P hl nt ops o t).dD (s:=⟨s.h,s.nx,s.nx,[],[]⟩) ⟨Nat.le_refl _,fi.nx⟩ g1
    have fle:s.nx<=s1.nx:=(Local.fL P hl nt ops o t).le (s:=⟨s.h,s.nx,s.nx,[],[]⟩) ⟨Nat.le_refl _,fi.nx⟩ g1
    have gz:bY ⟨s1.h,s1.nx,s.mark,below s.mark s1.rd++s.rd,below s.mark s1.wr++s.wr⟩:=⟨Nat.le_trans fi.mark fle,Iw.nx⟩
    obtain⟨f3,H,N,T,a1,a2,a3,a4,a5,a6,a7,a8⟩:=KH hl l (i+1) (t':=y.1) (ms:=y.2) gz h3
    refine⟨f3,fun k=>match k with|0=>s.h|k+1=>H k,fun k=>match k with|0=>s.nx|k+1=>N k,fun k=>match k with|0=>t|k+1=>T k,rfl,rfl,rfl,a4,a5,a6,?_,?_⟩
    · intro k hk
      cases k with
      |zero=>exact fi.nx
      |succ k=>exact a7 k (by simpa using hk)
    · intro k o2 hk
      cases k with
      | zero=>
        simp only[List.getElem?_cons_zero,Option.some.injEq] at hk
        subst hk
        refine⟨_,s1,rfl,rfl,⟨rfl,a2.symm,?_,a1.symm,a2.symm,rfl,rfl⟩⟩
        show fL P call nt ops o t ⟨s.h,s.nx,s.nx,[],[]⟩= .ok (T 0) s1
        rw[a3];exact g1
      | succ k=>
        simp only[List.getElem?_cons_succ] at hk
        obtain⟨x,s4,b1,b2,b3⟩:=a8 k o2 hk
        exact⟨x,s4,by simpa using b1,by rw[b2];omega,⟨b3.lo,b3.hi,b3.run,b3.h,b3.nx,b3.rd,b3.wr⟩⟩
structure Text (P:Program) (call:bf) (ops:Array Oper) (nt:Nat) (H:Nat->Tr aE) (N:Nat->Nat) (T:Nat->Tr AV) (Rd Wr:Nat->Nat->Prop):Prop where
 top:∀k,k<=ops.size->N k<=Rn.top
 up:∀k,k<ops.size->N k<=N (k+1)
 zq:∀k m,k<ops.size->¬Wr k m->m<Rn.top->(H (k+1)).get m=(H k).get m
 made:∀k m,k<ops.size->N k<=m->m<N (k+1)->Wr k m
 wrote:∀k m,k<ops.size->Wr k m->m<N (k+1)/\(m<N k->Rd k m)
 slot:∀k o d,ops[k]? =some o->o.dst≠some d->(T (k+1)).get d=(T k).get d
 apart:∀i j m,i<ops.size->j<ops.size->i≠j->loose (Region.before ops) i j=true->Wr i m->¬Rd j m
 again:∀j o,ops[j]? =some o->∀(h:Tr aE),(∀m,m<Rn.top->Rd j m->h.get m=(H j).get m)->∃t1,fL P call nt ops o (T j) ⟨h,N j,N j,[],[]⟩= .ok (T (j+1)) t1/\t1.nx=N (j+1)/\
  (∀m,Wr j m->t1.h.get m=(H (j+1)).get m)/\(∀m,¬Wr j m->m<Rn.top->t1.h.get m=h.get m)
theorem U6(hl:∀t a,Local (call t a))(kl:nt<=top){t t':Tr AV}{s s':AS}{ms:List cT}(fi:bY s)(h:kG P call nt ops ops.toList 0 t s= .ok (t',ms) s')(hm:mO (Region.before ops) ms ms=true):
    bY s'/\∃(H:Nat->Tr aE) (N:Nat->Nat) (T:Nat->Tr AV) (Rd Wr:Nat->Nat->Prop),H 0=s.h/\N 0=s.nx/\T 0=t/\H ops.size=s'.h/\N ops.size=s'.nx/\T ops.size=t'/\Text P call ops nt H N T Rd Wr:=by
  obtain⟨f',H,N,T,a1,a2,a3,a4,a5,a6,a7,a8⟩:=KH hl ops.toList 0 fi h
  have hlen:ops.toList.length=ops.size:=by simp
  rw[hlen] at a4 a5 a6 a7
  refine⟨f',H,N,T,fun k m=>∃x,ms[k]? =some x/\m∈x.rd,fun k m=>∃x,ms[k]? =some x/\(m∈x.wr\/(N k<=m/\m<N (k+1))),a1,a2,a3,a4,a5,a6,?_⟩
  have I:∀k,k<ops.size->∃o x s1,ops[k]? =some o/\ms[k]? =some x/\x.i=k/\GY P call ops nt H N T k o x s1:=by
    intro k hk
    have ho:ops.toList[k]? =some ops[k]:=by simp[hk]
    obtain⟨x,s1,b1,b2,b3⟩:=a8 k _ ho
    exact⟨ops[k],x,s1,Array.getElem?_eq_getElem hk,b1,by omega,b3⟩
  have Dm:∀k,k<ops.size->∀o x s1,GY P call ops nt H N T k o x s1->∃dr dw,sJ ⟨H k,N k,N k,[],[]⟩ s1 dr dw/\
      (∀A m0 t,Gk A m0 ⟨H k,N k,N k,[],[]⟩ t->(∀q∈dr,q<m0->A q)->∃t1,fL P call nt ops o (T k) t= .ok (T (k+1)) t1/\xb A m0 s1 t t1 dr dw)/\(∀m,m∈x.rd↔m∈dr/\m<N k)/\(∀m,m∈x.wr↔m∈dw/\m<N k):=by
    intro k hk o x s1 hd
    obtain⟨dr,dw,d1,d2⟩:=Local.fL P hl nt ops o (T k) _ _ _ ⟨Nat.le_refl _,a7 k aF⟩ hd.run
    refine⟨dr,dw,d1,d2,fun m=>?_,fun m=>?_⟩
    · rw[hd.rd,qp,d1.rd];simp
    · rw[hd.wr,qp,d1.wr];simp
  refine⟨a7,?_,?_,?_,?_,?_,?_,?_⟩
  · intro k hk
    obtain⟨o,x,s1,_,_,_,hd⟩:=I k hk
    obtain⟨dr,dw,d1,_⟩:=Dm k hk o x s1 hd
    have:=d1.nx
    rw[hd.nx] at this;exact this
  · intro k m hk hw pw
    obtain⟨o,x,s1,_,hx,_,hd⟩:=I k hk
    obtain⟨dr,dw,d1,_,_,d4⟩:=Dm k hk o x s1 hd
    rw[←hd.h]
    by_cases q:m<N k
    · refine d1.same m q fun e=>hw ⟨_,hx,.inl ((d4 m).2 ⟨e,q⟩)⟩
    · refine d1.na m ?_ pw
      rw[hd.nx]
      rcases Nat.lt_or_ge m (N (k+1)) with q2|q2
      · exact absurd ⟨_,hx,.inr ⟨by omega,q2⟩⟩ hw
      · exact q2
  · intro k m hk h1 h2
    obtain⟨o,x,s1,_,hx,_,hd⟩:=I k hk
    exact⟨x,hx,.inr ⟨h1,h2⟩⟩
  · rintro k m hk ⟨x',sN,hw⟩
    obtain⟨o,x,s1,_,hx,_,hd⟩:=I k hk
    rw[hx] at sN;cases sN
    obtain⟨dr,dw,d1,_,d3,d4⟩:=Dm k hk o _ s1 hd
    have Am:=d1.nx
    rw[hd.nx] at Am
    have aaj:N k<=N (k+1):=Am
    rcases hw with hw|⟨h1,h2⟩
    · obtain⟨e1,e2⟩:=(d4 m).1 hw
      exact⟨by omega,fun _=>⟨_,hx,(d3 m).2 ⟨d1.sub m e1,e2⟩⟩⟩
    · exact⟨h2,fun q=>by omega⟩
  · intro k o d ho fD
    have hk:k<ops.size:=(Array.getElem?_eq_some_iff.1 ho).1
    obtain⟨o',x,s1,cu,hx,_,hd⟩:=I k hk
    rw[ho] at cu;cases cu
    obtain⟨v,hv,_⟩:=J7 (u:=T k) (fun _ _=>rfl) hd.run
    rcases vX hv with⟨_,e⟩|⟨d',e1,e2,e3⟩
    · rw[e]
    · rw[e3,Tr.qu _ _ _ _ (Nat.lt_of_lt_of_le e2 kl),if_neg (by intro e;subst e;exact fD e1)]
  · rintro i j m hi hj fD Wy ⟨x',sN,hw⟩ ⟨y',kU,hr⟩
    obtain⟨_,x,s1,_,hx,xi,hd⟩:=I i hi
    obtain⟨_,y,s2,_,hy,yi,he⟩:=I j hj
    rw[hx] at sN;cases sN
    rw[hy] at kU;cases kU
    rcases KG hm _ (List.mem_of_getElem? hx) with q|q
    · unfold oX at q
      split at q
      · rename_i hwr
        rcases hw with hw|⟨h1,h2⟩
        · rw[hwr] at hw;cases hw
        · have:=bH.1 q
          rw[hd.lo,hd.hi] at this;omega
      · cases q
    · rcases Jn q _ (List.mem_of_getElem? hy) with e|e|e
      · rw[xi,yi] at e;exact fD e
      · unfold oW at e
        simp only[Bool.and_eq_true,Bool.not_eq_true'] at e
        rcases hw with hw|⟨h1,h2⟩
        · exact JW e.1 m hw hr
        · exact JX e.2 m hr ⟨by rw[hd.lo];exact h1,by rw[hd.hi];exact h2⟩
      · rw[xi,yi,Wy] at e;cases e
  · intro j o ho h' hag
    have hj:j<ops.size:=(Array.getElem?_eq_some_iff.1 ho).1
    obtain⟨o',x,s1,cu,hx,_,hd⟩:=I j hj
    rw[ho] at cu;cases cu
    obtain⟨dr,dw,d1,d2,d3,d4⟩:=Dm j hj o x s1 hd
    obtain⟨t1,c1,c2⟩:=d2 (fun m=>∃x,ms[j]? =some x/\m∈x.rd) (N j) ⟨h',N j,N j,[],[]⟩
      ⟨rfl,rfl,Nat.le_refl _,fun k hk eX=>by
        rcases eX with eX|eX
        · exact(hag k (Nat.lt_of_lt_of_le hk (a7 j aF)) eX).symm
        · exact absurd hk (Nat.not_lt.2 eX)⟩ (fun q hq cQ=>⟨x,hx,(d3 q).2 ⟨hq,cQ⟩⟩)
    have dv:t1.nx=N (j+1):=by rw[←c2.sd.nx,hd.nx]
    refine⟨t1,c1,dv,?_,?_⟩
    · rintro m ⟨x',sN,hw⟩
      rw[hx] at sN;cases sN
      rw[←hd.h]
      have Am:=d1.nx
      rw[hd.nx] at Am
      have aaj:N j<=N (j+1):=Am
      symm
      rcases hw with hw|⟨h1,h2⟩
      · obtain⟨e1,e2⟩:=(d4 m).1 hw
        exact c2.sd.is m (by rw[hd.nx];omega) (.inl ⟨x,hx,(d3 m).2 ⟨d1.sub m e1,e2⟩⟩)
      · exact c2.sd.is m (by rw[hd.nx];exact h2) (.inr h1)
    · intro m hw pw
      by_cases q:m<N j
      · exact c2.same m q fun e=>hw ⟨_,hx,.inl ((d4 m).2 ⟨e,q⟩)⟩
      · refine c2.na m ?_ pw
        rw[hd.nx]
        rcases Nat.lt_or_ge m (N (j+1)) with q2|q2
        · exact absurd ⟨_,hx,.inr ⟨by omega,q2⟩⟩ hw
        · exact q2
end
end Go.Rn
namespace Go.Rn
open Go.RowKit
variable {ρ:Ren} {α:Type} {w:World} {t:Tr AV} {n j:Nat} {listed:Array Bool} {f:Nat->α} {a:Act} {W:Nat->Prop}
section
variable {P:Program} {B:aZ} {call:bf} {ops:Array Oper} {nt:Nat} {H:Nat->Tr aE} {N:Nat->Nat} {T:Nat->Tr AV} {Rd Wr:Nat->Nat->Prop}
def jN(listed:Array Bool)(i:Nat):Prop:=listed.getD i false=true
def Cut(n:Nat)(W:Nat->Prop)(D:Nat->Prop)(c:Nat):Prop:=c<=n/\∀i,i<n->W i->(D i↔i<c)
theorem J8(hk:∀k,k<n->¬W k->f (k+1)=f k):∀(m c:Nat),c+m<=n->(∀i,c<=i->i<c+m->¬W i)->f (c+m)=f c
  |0,_,_,_=>rfl
  | m+1,c,hn,hw=>by
    have h1:=hk (c+m) aF (hw (c+m) aF aF)
    rw[show c+(m+1)=c+m+1 from rfl,h1]
    exact J8 hk m c aF fun i h1 h2=>hw i h1 aF
theorem Bl{D:Nat->Prop}(hk:∀k,k<n->¬W k->f (k+1)=f k){c c':Nat}(h:Cut n W D c)(h':Cut n W D c'):f c=f c':=by
 have key:∀{a b:Nat},Cut n W D a->Cut n W D b->a<=b->f b=f a:=by
  intro a b ha hb PW
  obtain⟨m,rfl⟩:∃m,b=a+m:=⟨b - a,by omega⟩
  refine J8 hk m a hb.1 fun i h1 h2 hw=>?_
  have fZ:i<n:=Nat.lt_of_lt_of_le h2 hb.1
  have:=(ha.2 i fZ hw).1 ((hb.2 i fZ hw).2 h2)
  omega
 rcases Nat.le_total c c' with q|q
 ·exact(key h h' q).symm
 ·exact key h' h q
theorem rX(x:Text P call ops nt H N T Rd Wr):∀{i j:Nat},i<=j->j<=ops.size->N i<=N j:=by
 intro i j jS hj
 obtain⟨m,rfl⟩:∃m,j=i+m:=⟨j - i,by omega⟩
 clear jS
 induction m with
 |zero=>exact Nat.le_refl _
 |succ m ih=>exact Nat.le_trans (ih aF) (x.up (i+m) aF)
structure Inv (B:aZ) (ops:Array Oper) (nt:Nat) (H:Nat->Tr aE) (N:Nat->Nat) (T:Nat->Tr AV) (Wr:Nat->Nat->Prop) (pU:Ren) (CD:World) (CE:Act) (listed:Array Bool) (a:Act) (w:World) (h:Tr aE) (t:Tr AV) (ρ:Ren):Prop where
 rel:Rel B ρ h w
 tr:TR ρ nt t a.tmps
 le:pU.le ρ
 new:∀m,m<top->ρ m≠pU m->∃i,i<ops.size/\jN listed i/\N i<=m/\m<N (i+1)
 heap:∀m,m<top->∃c,Cut ops.size (fun i=>Wr i m) (jN listed) c/\h.get m=(H c).get m
 wR:∀d,∃c,Cut ops.size (fun i=>∃o,ops[i]? =some o/\o.dst=some d) (jN listed) c/\t.get d=(T c).get d
 below:cU B CD w
 defers:a.defers=CE.defers
 closed:∀(j:Nat) (o:Oper) (e:Edge),ops[j]? =some o->jN listed j->e∈o.after->Region.binds .any e=true->jN listed e.on
theorem yp(hj:j<listed.size)(i:Nat):jN (listed.setIfInBounds j true) i↔i=j\/jN listed i:=by
 unfold jN
 simp only[Array.getD_eq_getD_getElem?]
 by_cases e:i=j
 ·subst e;rw[Array.getElem?_setIfInBounds_self_of_lt hj];simp
 ·rw[Array.getElem?_setIfInBounds_ne (Ne.symm e)];simp[e]
theorem TD(sO:B4 ops)(x:Text P call ops nt H N T Rd Wr)(hc:hJ P B call)(hl:∀t a,Local (call t a))(kl:nt<=top){pU:Ren}(hg:iJ pU)(lL:dH (N 0) (N ops.size) pU){CD:World}{CE:Act}{o:Oper}(hs:listed.size=ops.size){h:Tr aE}(inv:Inv B ops nt H N T Wr pU CD CE listed a w h t ρ)(ho:ops[j]? =some o)(hj:listed.getD j true=false)(MZ:∀e∈o.after,Region.binds .any e=true->listed.getD e.on false=true)(b:Frame)(k:List Item)(cs:List Frame)(rest:List Nat):
    ∃a' w' h' t' mw,Inv B ops nt H N T Wr pU CD CE (listed.setIfInBounds j true) a' w' h' t' mw/\Steps P (lone (b.atR a (.inRegion ops (j::rest)::k)) cs w) (lone (b.atR a' (.inRegion ops rest::k)) cs w'):=by
  have sP:j<ops.size:=(Array.getElem?_eq_some_iff.1 ho).1
  have xK:¬jN listed j:=by
    unfold jN
    rw[Array.getD_eq_getD_getElem?,Array.getElem?_eq_getElem aF] at hj ⊢
    simp at hj ⊢;exact hj
  have Ow:=QV sO.Nz (jN listed) inv.closed
  have ordered:∀i,i≠j->loose (Region.before ops) i j=false->(jN listed i↔i<j):=by
    intro i jS eY
    unfold loose at eY
    simp only[Bool.not_eq_false',Bool.or_eq_true] at eY
    rcases eY with q|q
    · obtain⟨h1,h2,_⟩:=Ow i i j (Nat.le_refl _) q
      exact⟨fun hd=>absurd (h2 hd) xK,fun e=>by omega⟩
    · obtain⟨h1,_,h3⟩:=Ow j j i (Nat.le_refl _) q
      exact⟨fun _=>h1,fun _=>h3 fun o' e cu hm hb=>by rw[ho] at cu;cases cu;exact MZ e hm hb⟩
  have Wz:∀i,loose (Region.before ops) i j=loose (Region.before ops) j i:=by
    intro i;unfold loose;rw[Bool.or_comm]
  have cutAt:∀(W:Nat->Prop),(∀i,i<ops.size->W i->i≠j->loose (Region.before ops) i j=false)->Cut ops.size W (jN listed) j:=by
    intro W hW
    refine⟨Nat.le_of_lt sP,fun i hi hw=>?_⟩
    by_cases e:i=j
    · subst e;exact⟨fun hd=>absurd hd xK,fun q=>absurd q (Nat.lt_irrefl _)⟩
    · exact ordered i e (hW i hi hw e)
  have LW:∀(W:Nat->Prop),(∀i,i<ops.size->W i->i≠j->loose (Region.before ops) i j=false)->Cut ops.size W (jN (listed.setIfInBounds j true)) (j+1):=by
    intro W hW
    refine⟨sP,fun i hi hw=>?_⟩
    rw[yp aF]
    by_cases e:i=j
    · subst e;exact⟨fun _=>Nat.lt_succ_self _,fun _=>.inl rfl⟩
    · have:=ordered i e (hW i hi hw e)
      constructor
      · rintro (q|q)
        · exact absurd q e
        · have:=this.1 q;omega
      · intro q;exact .inr (this.2 aF)
  have LY:∀(W:Nat->Prop) (c:Nat),¬W j->Cut ops.size W (jN listed) c->Cut ops.size W (jN (listed.setIfInBounds j true)) c:=by
    intro W c hW Ox
    refine⟨Ox.1,fun i hi hw=>?_⟩
    rw[yp aF]
    have jS:i≠j:=by intro e;subst e;exact hW hw
    rw[←Ox.2 i hi hw]
    exact⟨fun q=>q.resolve_left jS,.inr⟩
  have LZ:∀i m,i<ops.size->i≠j->Wr i m->Rd j m->loose (Region.before ops) i j=false:=by
    intro i m hi jS hw hr
    cases q:loose (Region.before ops) i j with
    |false=>rfl
    |true=>exact absurd hr (x.apart i j m hi sP jS q hw)
  have aeu:∀m,m<N j->m<top:=fun m hm=>Nat.lt_of_lt_of_le hm (x.top j aF)
  have YN:∀m,m<top->Rd j m->h.get m=(H j).get m:=by
    intro m hm hr
    obtain⟨c,jR,u3⟩:=inv.heap m hm
    rw[u3]
    exact Bl (f:=fun c=>(H c).get m) (fun k hk hw=>x.zq k m hk hw hm) jR (cutAt _ fun i hi hw jS=>LZ i m hi jS hw hr)
  have YO:∀d∈o.looksAt ops,(T j).get d=t.get d:=by
    intro d hd
    obtain⟨c,jR,u3⟩:=inv.wR d
    rw[u3]
    refine Bl (f:=fun c=>(T c).get d) (fun k hk hw=>?_) (cutAt _ ?_) jR
    · have aT:ops[k]? =some ops[k]:=Array.getElem?_eq_getElem hk
      exact x.slot k _ d aT fun e=>hw ⟨_,aT,e⟩
    · rintro i hi ⟨y,hy,An⟩ jS
      exact sO.wR i j y o d jS hy ho An (.inl hd)
  obtain⟨t1,c1,c2,c3,c4⟩:=x.again j o ho h YN
  obtain⟨v,v1,v2⟩:=J7 YO c1
  obtain⟨u1,Ix⟩:∃u1,gW nt t o.dst v=some u1:=by
    rcases vX v1 with⟨e,_⟩|⟨d,e,hd,_⟩
    · rw[e];exact⟨t,rfl⟩
    · rw[e]
      refine⟨t.put d (some v),?_⟩
      show @Bool.rec (fun _=>Option (Tr AV)) none (some (t.put d (some v))) (Nat.blt d nt)=_
      rw[wi,if_pos hd]
  have GX:=v2 u1 Ix
  have hNj:N j<=N (j+1):=x.up j sP
  have cL:dH (N j) (N (j+1)) ρ:=by
    intro m h1 h2 pw
    have e0:pU m=none:=lL m (Nat.le_trans (rX x (Nat.zero_le j) aF) h1) (Nat.lt_of_lt_of_le h2 (rX x sP (Nat.le_refl _))) pw
    by_cases e:ρ m=pU m
    · rw[e];exact e0
    · exfalso
      obtain⟨i,hi,Iy,p1,p2⟩:=inv.new m pw e
      have jS:i≠j:=by intro q;subst q;exact xK Iy
      rcases Nat.lt_or_ge i j with q|q
      · have:=rX x (show i+1<=j from q) aF;omega
      · have:=rX x (show j+1<=i from by omega) aF;omega
  have aW:At B ρ ⟨h,N j,N j,[],[]⟩ nt t w a:=⟨inv.tr,inv.rel,hg.mono inv.le,kl,⟨Nat.le_refl _,x.top j aF⟩⟩
  obtain⟨σ,a',w',g1,g2,g3,g4,g5⟩:=Lg hc hl ho aW (by rw[c2];exact cL) GX b k cs rest
  rw[c2] at g1
  refine⟨a',w',t1.h,u1,σ,⟨g2.rel,g2.tr,Ren.le_trans inv.le g1.le,?_,?_,?_,inv.below.trans g4,g3.trans inv.defers,?_⟩,g5⟩
  · intro m pw hm
    by_cases e:ρ m=pU m
    · by_cases q:N j<=m/\m<N (j+1)
      · exact⟨j,sP,(yp aF j).2 (.inl rfl),q.1,q.2⟩
      · exact absurd ((g1.out m pw q).trans e) hm
    · obtain⟨i,hi,Iy,p⟩:=inv.new m pw e
      exact⟨i,hi,(yp aF i).2 (.inr Iy),p⟩
  · intro m hm
    by_cases q:Wr j m
    · refine⟨j+1,LW _ (fun i hi hw jS=>?_),c3 m q⟩
      obtain⟨w1,w2⟩:=x.wrote j m sP q
      by_cases e:m<N j
      · exact LZ i m hi jS hw (w2 e)
      · obtain⟨y1,y2⟩:=x.wrote i m hi hw
        have him:m<N i:=by
          rcases Nat.lt_or_ge i j with r|r
          · have:=rX x (show i+1<=j from r) aF;omega
          · have:=rX x (show j+1<=i from by omega) aF;omega
        cases iZ:loose (Region.before ops) i j with
        |false=>rfl
        | true=>
          rw[Wz] at iZ
          exact absurd (y2 him) (x.apart j i m sP hi (Ne.symm jS) iZ q)
    · obtain⟨c,jR,u3⟩:=inv.heap m hm
      exact⟨c,LY _ c q jR,(c4 m q hm).trans u3⟩
  · intro d
    by_cases q:o.dst=some d
    · refine⟨j+1,LW _ (fun i hi hw jS=>?_),?_⟩
      · obtain⟨y,hy,An⟩:=hw
        exact sO.wR i j y o d jS hy ho An (.inr q)
      · rcases vX v1 with⟨e,_⟩|⟨d1,e,hd,e3⟩
        · rw[e] at q;cases q
        · rw[q] at e;cases e
          rcases vX Ix with⟨e,_⟩|⟨d2,e,Dn,e4⟩
          · rw[e] at q;cases q
          · rw[q] at e;cases e
            rw[e3,e4,Tr.qu _ _ _ _ (Nat.lt_of_lt_of_le hd kl),Tr.qu _ _ _ _ (Nat.lt_of_lt_of_le hd kl),if_pos rfl,if_pos rfl]
    · obtain⟨c,jR,u3⟩:=inv.wR d
      refine⟨c,LY _ c (fun hw=>?_) jR,?_⟩
      · obtain⟨y,hy,An⟩:=hw
        rw[ho] at hy;cases hy;exact q An
      · rw[←u3]
        rcases vX Ix with⟨_,e⟩|⟨d2,e,Dn,e4⟩
        · rw[e]
        · rw[e4,Tr.qu _ _ _ _ (Nat.lt_of_lt_of_le Dn kl),if_neg (by intro r;subst r;exact q e)]
  · intro j' o' e cu hd hm hb
    rw[yp aF] at hd ⊢
    rcases hd with rfl|hd
    · rw[ho] at cu;cases cu;exact .inr (MZ e hm hb)
    · exact .inr (inv.closed j' o' e cu hd hm hb)
theorem EI(n i:Nat):¬jN (Array.replicate n false) i:=by
 unfold jN
 rw[Array.getD_eq_getD_getElem?]
 by_cases h:i<n
 ·simp[h]
 ·simp[h]
theorem Rq(fq:P.follows .mixedOrders=true)(sO:B4 ops)(hc:hJ P B call)(hl:∀t a,Local (call t a)){id:Nat}{t1:Tr AV}{s s1:AS}(aW:At B ρ s nt t w a)(hf:dH s.nx s1.nx ρ)(h:oK P call nt ops t s= .ok t1 s1)(b:Frame)(k:List Item)(cs:List Frame):
  xd P B ρ s s1 nt t1 w a (lone (b.atR a (.code (.region id ops true)::k)) cs w) (fun a' w'=>lone (b.atR a' k) cs w'):=by
 obtain⟨⟨t',ms⟩,s',h1,h2⟩:=M.bG (show((kG P call nt ops ops.toList 0 t).bind fun x=>bC (mO (Region.before ops) x.2 x.2) <| M.pure x.1) s= .ok t1 s1 from h)
 obtain⟨h3,h4⟩:=dY h2
 obtain⟨rfl,rfl⟩:=bW h4
 obtain⟨f',H,N,T,Rd,Wr,a1,a2,a3,a4,a5,a6,x⟩:=U6 hl aW.nt aW.dD h1 h3
 have lL:dH (N 0) (N ops.size) ρ:=by rw[a2,a5];exact hf
 let w1:World:={w with drawn:=w.drawn+1}
 have aak:Rel B ρ s.h w1:=aW.rel.zr (gh.drew w)
 have aal:Inv B ops nt H N T Wr ρ w a (Array.replicate ops.size false) a w1 s.h t ρ:=by
  refine⟨aak,aW.tr,Ren.le_refl ρ,fun m _ hm=>absurd rfl hm,fun m _=>⟨0,⟨Nat.zero_le _,fun i _ _=>⟨fun q=>absurd q (EI _ _),fun q=>absurd q (Nat.not_lt_zero _)⟩⟩,by rw[a1]⟩,
   fun d=>⟨0,⟨Nat.zero_le _,fun i _ _=>⟨fun q=>absurd q (EI _ _),fun q=>absurd q (Nat.not_lt_zero _)⟩⟩,by rw[a3]⟩,(gh.drew w).below aW.rel.size,rfl,fun j o e _ q=>absurd q (EI _ _)⟩
 obtain⟨l',a',w',z1,z2,⟨h',t',mw,inv⟩,z3⟩:=SC (P:=P) sO.Nz b k cs (fun listed a2 w2=>∃h' t' mw,Inv B ops nt H N T Wr ρ w a listed a2 w2 h' t' mw)
  (fun listed a2 w2 i o rest q1 ⟨h',t',mw,inv⟩ q3 q4 q5=>by
   obtain⟨a3,w3,h3,t3,ρ3,i3,st⟩:=TD sO x hc hl aW.nt aW.g lL q1 inv q3 q4 q5 b k cs rest
   exact⟨a3,w3,⟨h3,t3,ρ3,i3⟩,st⟩)
  ops.size (w.tape w.drawn (.order b.fn id)) (Array.replicate ops.size false) a w1 jQ (TB _) ⟨s.h,t,ρ,aal⟩
 have all:∀(W:Nat->Prop),Cut ops.size W (jN l') ops.size:=fun W=>⟨Nat.le_refl _,fun i hi _=>⟨fun _=>hi,fun _=>z2 i hi⟩⟩
 have aam:∀m,m<top->s1.h.get m=h'.get m:=by
  intro m hm
  obtain⟨c,c1,c2⟩:=inv.heap m hm
  rw[c2, ←a4]
  exact Bl (f:=fun c=>(H c).get m) (fun k hk hw=>x.zq k m hk hw hm) (all _) c1
 have aan:∀d,t'.get d=(T ops.size).get d:=by
  intro d
  obtain⟨c,c1,c2⟩:=inv.wR d
  rw[c2]
  refine Bl (f:=fun c=>(T c).get d) (fun k hk hw=>?_) c1 (all _)
  have aT:ops[k]? =some ops[k]:=Array.getElem?_eq_getElem hk
  exact x.slot k _ d aT fun e=>hw ⟨_,aT,e⟩
 refine⟨mw,a',w',⟨inv.le,fun m pw hm=>?_⟩,⟨?_,inv.rel.congr aam,aW.g.mono inv.le,aW.nt,f'⟩,inv.defers,inv.below,?_⟩
 ·by_cases e:mw m=ρ m
  ·exact e
  ·exfalso
   obtain⟨i,hi,_,p1,p2⟩:=inv.new m pw e
   have q1:=rX x (Nat.zero_le i) aF
   have q2:=rX x (show i+1<=ops.size from hi) (Nat.le_refl _)
   exact hm ⟨by omega,by omega⟩
 ·rw[←a6]
  exact⟨inv.tr.1,fun i x hx=>inv.tr.2 i x (by rw[aan i];exact hx)⟩
 ·refine .head stepR_region_draw ?_
  simp only[Region.schedule,fq,Bool.true_or,if_true]
  exact z3
end
end Go.Rn
namespace Go.Rn
open Go.RowKit
variable {l bl N:Nat} {σ:Ren} {r:Loop}
def yR(ρ:Ren):Option Nat->Option Nat->Prop
 |none,none=>True
 |some l,some b=>∃N,ρ l=some (b,N)
 |_,_=>False
theorem yR.mono{ρ:Ren}(h:ρ.le σ):∀{x y:Option Nat},yR ρ x y->yR σ x y
 |none,none,k=>k
 |some _,some _,⟨N,e⟩=>⟨N,h _ _ e⟩
 |none,some _,k=>k
 |some _,none,k=>k
def qU(ρ:Ren):List Nat->List Deferred->Prop
 |[],l=>l=[]
 |d::ds,l=>∃b N r,l={target:=.collected b,args:= #[]}::r/\ρ d=some (b,N)/\qU ρ ds r
theorem qU.mono{ρ:Ren}(h:ρ.le σ):∀{x:List Nat} {y:List Deferred},qU ρ x y->qU σ x y
 |[],_,k=>k
 |_::_,_,⟨b,N,r,e,a,d⟩=>⟨b,N,r,e,h _ _ a,d.mono h⟩
def cr.fr:cr->AF
 | .go fr=>fr
 | .leave fr _=>fr
def Leaves(j:Option Code)(todo:List Item):Prop:=
 match j with
 |none=>todo=[]
 |some .ret=>∃k,todo= .code .ret::k
 |some (.exit id)=>∃k,todo= .code (.exit id)::k/\exitTo id k=none
 |some (.goto l)=>∃k,todo= .code (.goto l)::k/\gotoIn l k=none
 |_=>False
def cr.ok:cr->Prop
 | .go _=>True
 | .leave fr j=>Leaves j fr.todo
theorem Leaves.code{j:Option Code}{todo:List Item}(h:Leaves j todo):∀c,j=some c->gu c:=by
 intro c e
 subst e
 cases c<;>first|trivial|cases h
structure Fr (ρ:Ren) (af:AF) (b:Frame) (a:Act):Prop where
 fn:b.fn=af.fn
 kind:b.kind= .normal
 round:yR ρ af.round b.roundOf
 defs:qU ρ af.defers a.defers
 ok:iE af.todo
def nQ(P:Program)(B:aZ)(ρ:Ren)(s s1:AS)(w:World)(af:AF)(b:Frame)(cs:List Frame)(m:Machine)(x:cr):Prop:=
 ∃σ a' w',Ext s.nx s1.nx ρ σ/\At B σ s1 af.nt x.fr.tmps w' a'/\qU σ x.fr.defers a'.defers/\cU B w w'/\(x.fr.fn=af.fn/\x.fr.nt=af.nt/\x.fr.round=af.round)/\iE x.fr.todo/\x.ok/\Steps P m (lone (b.atR a' x.fr.todo) cs w')
section
variable {P:Program} {B:aZ} {ρ:Ren} {w:World} {s s1:AS} {call:bf} {b:Frame} {a:Act} {cs:List Frame}
theorem x9(hb:w.heap[l]? =some (.loop r)):(Instr.getLoop l).run P w= .ok r w:=by
 simp[Instr.getLoop,getObj,Sem.run,hb]
theorem D0{o:Obj}(hb:w.heap[l]? =some (.loop r)):(setObj l o).run P w= .ok () {w with heap:=w.heap.setIfInBounds l o}:=by
 simp[setObj,Sem.run,hb]
theorem vO{o:aE}(h:getLoop l s= .ok o s1):di l s= .ok o s1/\∃st fV fn t nt ps aa bb d,o= .loop st fV fn t nt ps aa bb d:=by
 unfold getLoop at h
 obtain⟨o',s2,h1,h2⟩:=M.bG h
 split at h2
 ·obtain⟨rfl,rfl⟩:=bW h2
  exact⟨h1,_,_,_,_,_,_,_,_,_,rfl⟩
 ·cases h2
theorem E4{st Dp:LoopState}{fV y7:Option Code}{fn nt d:Nat}{t:Tr AV}{ps:List Tmp}{aa bb:Code}{u:Unit}{s2:AS}(fi:bY s)(r:Rel B ρ s.h w)(hg:di l s= .ok (.loop st fV fn t nt ps aa bb d) s2)(hl:ρ l=some (bl,N))(aT:∀c,y7=some c->gu c)(h:dy l (some (.loop Dp y7 fn t nt ps aa bb d)) s2= .ok u s1):
  s1.nx=s.nx/\∃q:Loop,w.heap[bl]? =some (.loop q)/\q.state=st/\q.pending=fV/\q.fn=fn/\TR ρ nt t q.tmps/\q.params=ps.toArray/\q.assign=aa/\q.body=bb/\nt<=top/\yP fV aa bb/\
   Rel B ρ s1.h {w with heap:=w.heap.setIfInBounds bl (.loop {q with state:=Dp,pending:=y7})}/\cU B w {w with heap:=w.heap.setIfInBounds bl (.loop {q with state:=Dp,pending:=y7})}:=by
 obtain⟨hx,lu,hh,dv⟩:=j0 hg
 have ht:l<top:=Nat.lt_of_lt_of_le hx fi.nx
 obtain⟨o',hb,hO,hB⟩:=r.block ht lu hl
 obtain⟨ta,db,M,rfl,ko,kl,hd,eY⟩:=hO
 obtain⟨_,_,_,e1,e2⟩:=oM h
 obtain⟨g3,g4⟩:=vM (o':=.loop {state:=Dp,pending:=y7,fn:=fn,tmps:=ta,params:=ps.toArray,assign:=aa,body:=bb,defers:=db}) hb
 refine⟨by rw[e2,dv],_,hb,rfl,rfl,rfl,ko,rfl,rfl,rfl,kl,eY,?_,g3.below (hB rfl)⟩
 rw[e1,hh]
 exact r.put ht lu rfl rfl hl rfl g3 g4 ⟨ta,db,M,rfl,ko,kl,hd,aT,eY.assign,eY.body⟩
theorem JC{p:Option Code}(fi:bY s)(r:Rel B ρ s.h w)(hl:ρ l=some (bl,N))(h:kA l s= .ok p s1):
  s1.nx=s.nx/\(∀c,p=some c->gu c)/\∃w',(Instr.endLoop bl).run P w= .ok p w'/\Rel B ρ s1.h w'/\cU B w w':=by
 unfold kA at h
 obtain⟨o,s2,h1,h2⟩:=M.bG h
 obtain⟨h3,st,fV,fn,t,nt,ps,aa,bb,d,rfl⟩:=vO h1
 obtain⟨h4,h5⟩:=dY h2
 obtain⟨u,s3,h6,h7⟩:=M.bG h5
 obtain⟨rfl,rfl⟩:=bW h7
 have lu:=(j0 h3)
 have aT:∀c,p=some c->gu c:=by
  obtain⟨o',hb,hO,_⟩:=r.block (Nat.lt_of_lt_of_le lu.1 fi.nx) lu.2.1 hl
  obtain⟨_,_,_,_,_,_,_,eY⟩:=hO
  exact eY.fV
 obtain⟨e1,q,e2,e3,e4,_,_,_,_,_,_,_,e5,e6⟩:=E4 fi r h3 hl aT h6
 refine⟨e1,aT,_,?_,e5,e6⟩
 have fD:(q.state == LoopState.busy)=false:=by
  rw[e3];cases st<;>first|rfl|cases h4
 simp only[Instr.endLoop,Sem.run_bind,x9 e2,Result.andThen_ok,fD,Bool.false_eq_true,if_false,D0 e2,Sem.run_pure,e4]
theorem Jk{g:Operand}{ps:Array Tmp}{assign body:Code}{k:List Item}{mark:List Deferred}{CF:World}{R:Value->World->Prop}(he:(Instr.enterLoop b.fn a.tmps ps assign body b.roundOf).run P w= .ok (l,mark) CF)(h:kL P ((do let d ←Deferred.ofValue (a.eval g) #[.func (.yield l) #[] #[]];invoke d.target d.args:Sem Next).run P CF) R):
    ∃v w',R v w'/\Steps P (lone (b.atR a (.code (.rangeFunc g ps assign body)::k)) cs w) (lone (b.atR {a with defers:=mark++a.defers} (.endRangeFunc l::k)) cs w'):=by
  have bB:=Frame.eval_atR b {a with defers:=mark++a.defers} (.inRangeFunc l::k)
  simp only[Frame.atR] at bB
  have sq:(do let d ←resolve ({tmps:=a.tmps,defers:=mark++a.defers}:Act).eval {callee:=.value g,args:= #[.const (.func (.yield l) #[] #[])],argTypes:= #[]} 0;invoke d.target d.args:Sem Next)=
      (do let d ←Deferred.ofValue (a.eval g) #[.func (.yield l) #[] #[]];invoke d.target d.args:Sem Next):=by
    have e1:({tmps:=a.tmps,defers:=mark++a.defers}:Act).eval g=a.eval g:=by cases g<;>rfl
    have e2:(#[Operand.const (Value.func (Fn.yield l) #[] #[])]:Array Operand).map ({tmps:=a.tmps,defers:=mark++a.defers}:Act).eval= #[Value.func (Fn.yield l) #[] #[]]:=by simp[Act.eval]
    simp only[resolve,e1,e2]
  generalize hr:(do let d ←Deferred.ofValue (a.eval g) #[.func (.yield l) #[] #[]];invoke d.target d.args:Sem Next).run P CF=res at h
  rw[←sq] at hr
  have B6 :stepG P true {frame:=b.atR a (.code (.rangeFunc g ps assign body)::k),callers:=cs,status:=.running,dying:=none} w=
      GStep.after (seen P b.fn ((Instr.enterLoop b.fn a.tmps ps assign body b.roundOf).runT P w #[]).2)
        (stepG.apply P true (b.atR {a with defers:=mark++a.defers} (.inRangeFunc l::k)) cs none
          (do let d ←resolve ({tmps:=a.tmps,defers:=mark++a.defers}:Act).eval {callee:=.value g,args:= #[.const (.func (.yield l) #[] #[])],argTypes:= #[]} 0;invoke d.target d.args) CF):=by
    simp only[stepG,stepG.exec,Frame.atR,Sem.runT_eq,he,bB]
  unfold kL at h
  split at h
  · rename_i v w'
    refine⟨v,w',h,.one (step_lone_go ?_)⟩
    rw[B6,GStep.bare_after, ←finish_atR_inRangeFunc l v];simp[stepG.apply,hr]
  · rename_i w'
    refine⟨undef,w',h,.one (step_lone_go ?_)⟩
    rw[B6,GStep.bare_after, ←finish_atR_inRangeFunc l undef];simp[stepG.apply,hr]
  · rename_i f args w'
    obtain⟨e,lT,fr,⟨v,rfl,hR⟩,tR,ga,F2⟩:=h (b.atR {a with defers:=mark++a.defers} (.inRangeFunc l::k)::cs)
    have tS:step P (lone (b.atR a (.code (.rangeFunc g ps assign body)::k)) cs w)= .next (lone (Frame.enter P f args .normal) (b.atR {a with defers:=mark++a.defers} (.inRangeFunc l::k)::cs) w'):=
      step_lone_go (by rw[B6,GStep.bare_after];simp[stepG.apply,hr,Frame.atR])
    refine⟨v,lT,hR,.head tS (Steps.trans tR (.one ?_))⟩
    rw[←finish_atR_inRangeFunc l v];exact step_leave_returned F2
  · rename_i l' f tmps U7 YP w'
    obtain⟨v,lT,hR,tR⟩:=h (b.atR {a with defers:=mark++a.defers} (.inRangeFunc l::k)) cs
    have tS:step P (lone (b.atR a (.code (.rangeFunc g ps assign body)::k)) cs w)= .next (lone (Frame.round l' f tmps U7 YP .normal) (b.atR {a with defers:=mark++a.defers} (.inRangeFunc l::k)::cs) w'):=
      step_lone_go (by rw[B6,GStep.bare_after];simp[stepG.apply,hr,Frame.atR])
    refine⟨v,lT,hR,.head tS ?_⟩
    rw[←finish_atR_inRangeFunc l v];exact tR
  · cases h
end
end Go.Rn
namespace Go.Rn
open Go.RowKit
variable {t:Tr AV} {ps:Array Tmp} {k:List Item} {body assign:Code} {af:AF} {x:cr} {nt fn:Nat}
section
variable {P:Program} {B:aZ} {ρ:Ren} {w:World} {s s1:AS} {call:bf} {b:Frame} {a:Act} {cs:List Frame}
theorem vR(cL:Fr ρ af b a)(aW:At B ρ s af.nt af.tmps w a)(h1:x.fr.tmps=af.tmps)(h2:x.fr.defers=af.defers)(h3:x.fr.fn=af.fn/\x.fr.nt=af.nt/\x.fr.round=af.round)(h4:iE x.fr.todo)(h5:x.ok)(h6:Steps P (lone (b.atR a af.todo) cs w) (lone (b.atR a x.fr.todo) cs w)):nQ P B ρ s s w af b cs (lone (b.atR a af.todo) cs w) x:=
 ⟨ρ,a,w,Ext.refl _ _ _,by rw[h1];exact aW,by rw[h2];exact cL.defs,cU.refl _ _,h3,h4,h5,h6⟩
theorem KI{fr:AF}(cL:Fr ρ af b a)(hx:fr={af with tmps:=t,todo:=k})(hk:iE k)(h:xd P B ρ s s1 af.nt t w a (lone (b.atR a af.todo) cs w) (fun a' w'=>lone (b.atR a' k) cs w')):nQ P B ρ s s1 w af b cs (lone (b.atR a af.todo) cs w) (.go fr):=by
 subst hx
 obtain⟨σ,a',w',e1,e2,e3,e4,e5⟩:=h
 exact⟨σ,a',w',e1,e2,by rw[e3];exact cL.defs.mono e1.le,e4,⟨rfl,rfl,rfl⟩,hk,trivial,e5⟩
theorem U8(aW:At B ρ s nt t w a)(h1:ρ s.nx=none)(h2:ρ (s.nx+1)=none)(l1:s.nx<top)(l2:s.nx+1<top)(eY:yP none assign body):
    ∃ σ,Ext s.nx (s.nx+2) ρ σ/\σ s.nx=some (w.heap.size,0)/\σ (s.nx+1)=some (w.heap.size+1,0)/\
      (Instr.enterLoop fn a.tmps ps assign body none).run P w= .ok (w.heap.size+1,[{target:=.collected w.heap.size,args:= #[]}])
        {w with heap:=(w.heap.push (.deferred (some []))).push (.loop {state:=.ready,pending:=none,fn,tmps:=a.tmps,params:=ps,assign,body,defers:=w.heap.size})}/\
      Rel B σ ((s.h.put s.nx (some .defs)).put (s.nx+1) (some (.loop .ready none fn t nt ps.toList assign body s.nx)))
        {w with heap:=(w.heap.push (.deferred (some []))).push (.loop {state:=.ready,pending:=none,fn,tmps:=a.tmps,params:=ps,assign,body,defers:=w.heap.size})}/\
      cU B w {w with heap:=(w.heap.push (.deferred (some []))).push (.loop {state:=.ready,pending:=none,fn,tmps:=a.tmps,params:=ps,assign,body,defers:=w.heap.size})}:=by
  have r1:=aW.rel.new (n:=s.nx) (o:=.defs) (o':=.deferred (some [])) (N:=0) l1 h1 rfl rfl
  have mq:hY ρ s.nx (w.heap.size,0) (s.nx+1)=none:=by rw[mD ρ _ aF];exact h2
  have ui:ρ.le (hY ρ s.nx (w.heap.size,0)):=pL h1
  have CG:(hY ρ s.nx (w.heap.size,0)).le (hY (hY ρ s.nx (w.heap.size,0)) (s.nx+1) (w.heap.size+1,0)):=pL mq
  have lR:({w with heap:=w.heap.push (.deferred (some []))}:World).heap.size=w.heap.size+1:=by simp
  have r2:=r1.new (n:=s.nx+1) (o:=.loop .ready none fn t nt ps.toList assign body s.nx) (o':=.loop {state:=.ready,pending:=none,fn,tmps:=a.tmps,params:=ps,assign,body,defers:=w.heap.size}) (N:=0) l2 mq rfl (by
    rw[lR]
    exact⟨a.tmps,w.heap.size,0,by simp,(aW.tr.mono ui).mono CG,aW.nt,CG _ _ (lE _ _ _),eY⟩)
  rw[lR] at r2
  refine⟨_,⟨Ren.le_trans ui CG,fun k _ hk=>?_⟩,CG _ _ (lE _ _ _),lE _ _ _,?_,r2,?_⟩
  · rw[mD _ _ aF,mD _ _ aF]
  · simp only[Instr.enterLoop,Sem.run_bind,newObj,Sem.run,Result.andThen_ok,Sem.run_pure]
    simp
  · exact((gh.alloc w _).trans (gh.alloc _ _)).below aW.rel.size
theorem U9{l0 bl N:Nat}{st:LoopState}{fV:Option Code}{f0 u4 d0:Nat}{t0:Tr AV}{u5:List Tmp}{a0 b0:Code}{s2:AS}(aW:At B ρ s nt t w a)(h1:ρ s.nx=none)(l1:s.nx<top)(eY:yP none assign body)(hg:di l0 s= .ok (.loop st fV f0 t0 u4 u5 a0 b0 d0) s2)(hl:ρ l0=some (bl,N)):
    ∃ σ w',Ext s.nx (s.nx+1) ρ σ/\(∃bb M,σ s.nx=some (bb,M)/\(Instr.enterLoop fn a.tmps ps assign body (some bl)).run P w= .ok (bb,[]) w')/\
      Rel B σ (s.h.put s.nx (some (.loop .ready none fn t nt ps.toList assign body d0))) w'/\cU B w w':=by
  obtain⟨hx,lu,hh,dv⟩:=j0 hg
  have ht:l0<top:=Nat.lt_of_lt_of_le hx aW.dD.nx
  obtain⟨o',hb,hO,hB⟩:=aW.rel.block ht lu hl
  obtain⟨ta,db,M,rfl,ko,kl,hd,_⟩:=hO
  have ui:ρ.le (hY ρ s.nx (w.heap.size,0)):=pL h1
  have r1:=aW.rel.new (n:=s.nx) (o:=.loop .ready none fn t nt ps.toList assign body d0) (o':=.loop {state:=.ready,pending:=none,fn,tmps:=a.tmps,params:=ps,assign,body,defers:=db}) (N:=0) l1 h1 rfl
    ⟨a.tmps,db,M,by simp,aW.tr.mono ui,aW.nt,ui _ _ hd,eY⟩
  refine⟨_,_,Ext.sK h1,⟨w.heap.size,0,lE _ _ _,?_⟩,r1,(gh.alloc w _).below aW.rel.size⟩
  simp only[Instr.enterLoop,Sem.run_bind,x9 hb,Result.andThen_ok,Sem.run_pure,newObj,Sem.run]
theorem Jl{p:Option Code}(hp:∀c,p=some c->gu c)(hk:iE k):iE (andThen p k):=by
 cases p with
 |none=>exact hk
 |some c=>exact .cons (hp c rfl) hk
theorem J9(p:Option Code)(k:List Item):(p.map Item.code).toList++k=andThen p k:=by cases p<;>rfl
theorem SE{f:Operand}(hc:hJ P B call)(hl:∀t a,Local (call t a))(cL:Fr ρ af b a)(aW:At B ρ s af.nt af.tmps w a)(hf:dH s.nx s1.nx ρ)(B7:af.todo= .code (.rangeFunc f ps assign body)::k)(h:rV f ps.toList assign body call af.fn af.tmps af.nt af.defers af.round k s= .ok x s1):nQ P B ρ s s1 w af b cs (lone (b.atR a af.todo) cs w) x:=by
  have wU:gu assign/\gu body:=by have:=cL.ok;rw[B7] at this;exact this.head
  have eY:yP none assign body:=⟨(fun c e=>by cases e),wU.1,wU.2⟩
  have hk:iE k:=by have:=cL.ok;rw[B7] at this;exact this.tail
  unfold rV at h
  cases hr:af.round with
  | none=>
    rw[hr] at h
    have lh:=cL.round
    rw[hr] at lh
    have Ao:b.roundOf=none:=by
      cases e:b.roundOf with
      |none=>rfl
      |some _=>rw[e] at lh;cases lh
    obtain⟨df,s2,h1,h⟩:=M.bG h
    obtain⟨l,s3,h2,h⟩:=M.bG h
    obtain⟨g,h3,h⟩:=ch h
    obtain⟨y,s4,h4,h⟩:=M.bG h
    obtain⟨p,s5,h5,h⟩:=M.bG h
    obtain⟨rfl,rfl⟩:=bW h
    obtain⟨t1,rfl,rfl⟩:=rL h1
    obtain⟨t2,rfl,rfl⟩:=rL h2
    have my:bY {s with h:=(s.h.put s.nx (some .defs)).put (s.nx+1) (some (.loop .ready none af.fn af.tmps af.nt ps.toList assign body s.nx)),nx:=s.nx+1+1}:=⟨by have:=aW.dD.mark;show s.mark<=s.nx+1+1;omega,t2⟩
    have Ap:=(Local.ju hl _ _).le my h4
    have n8:=(Local.ju hl _ _).dD my h4
    have Iz:=(Local.kA _).le n8 h5
    have GZ:s.nx+2<=s4.nx:=Ap
    obtain⟨σ,e1,e2,e3,e4,e5,e6⟩:=U8 (P:=P) (fn:=af.fn) (ps:=ps) aW (hf _ (Nat.le_refl _) aF aF) (hf _ aF aF aF) t1 t2 eY
    have n7:VR σ g (a.eval f):=(BC aW.tr aW.g h3).mono e1.le
    have lL:dH (s.nx+2) s4.nx σ:=(hf.sub (Nat.le_refl _) Iz).next aF e1
    have Gn:=KE (P:=P) hc (aW.g.mono e1.le) my e5 lL n7 (args:=[.yield (s.nx+1)]) (vs:= #[.func (.yield (w.heap.size+1)) #[] #[]])
      (by simp only[aQ,VR];exact⟨_,_,rfl,⟨_,_,e3,rfl⟩,rfl⟩) h4
    have zu:=(show(Instr.enterLoop b.fn a.tmps ps assign body b.roundOf).run P w=(Instr.enterLoop af.fn a.tmps ps assign body none).run P w by rw[cL.fn,Ao]).trans e4
    obtain⟨v,w',⟨τ,g1,g2,g3,g4⟩,st⟩:=Jk (cs:=cs) (k:=k) zu Gn
    obtain⟨q1,q2,w5,q3,q4,q5⟩:=JC (P:=P) n8 g3 (g1.le _ _ e3) h5
    have ext:Ext s.nx s4.nx ρ τ:=e1.trans aF GZ g1
    refine⟨τ,{a with defers:=[{target:=.collected w.heap.size,args:= #[]}]++a.defers},w5,by rw[q1];exact ext,⟨aW.tr.mono ext.le,q4,aW.g.mono ext.le,aW.nt,(Local.kA _).dD n8 h5⟩,?_,(e6.trans g4).trans q5,⟨rfl,rfl,hr.symm⟩,Jl q2 hk,trivial,?_⟩
    · exact⟨w.heap.size,0,a.defers,rfl,g1.le _ _ e2,cL.defs.mono ext.le⟩
    · rw[B7]
      refine Steps.trans st (.one ?_)
      rw[stepR_endRangeFunc q3,J9]
      rfl
  | some l0=>
    rw[hr] at h
    have lh:=cL.round
    rw[hr] at lh
    obtain⟨bl,Ao,N0,u6⟩:∃bl,b.roundOf=some bl/\∃N,ρ l0=some (bl,N):=by
      cases e:b.roundOf with
      |none=>rw[e] at lh;cases lh
      |some bl=>rw[e] at lh;exact⟨bl,rfl,lh⟩
    obtain⟨ob,s2,h1,h⟩:=M.bG h
    obtain⟨gX,n9,YQ,f0,t0,u4,u5,a0,b0,d0,rfl⟩:=vO h1
    obtain⟨l,s3,h2,h⟩:=M.bG h
    obtain⟨g,h3,h⟩:=ch h
    obtain⟨y,s4,h4,h⟩:=M.bG h
    obtain⟨p,s5,h5,h⟩:=M.bG h
    obtain⟨rfl,rfl⟩:=bW h
    obtain⟨hx,lu,hh,dv⟩:=j0 gX
    have gz:bY s2:=(Local.di _).dD aW.dD gX
    obtain⟨t2,rfl,rfl⟩:=rL h2
    have my:bY {s2 with h:=s2.h.put s2.nx (some (.loop .ready none af.fn af.tmps af.nt ps.toList assign body d0)),nx:=s2.nx+1}:=⟨by have:=gz.mark;show s2.mark<=s2.nx+1;omega,t2⟩
    have Ap:=(Local.ju hl _ _).le my h4
    have n8:=(Local.ju hl _ _).dD my h4
    have Iz:=(Local.kA _).le n8 h5
    have GZ:s2.nx+1<=s4.nx:=Ap
    obtain⟨σ,w2,e1,⟨bb,M2,e3,e4⟩,e5,e6⟩:=U9 (P:=P) (fn:=af.fn) (ps:=ps) aW (hf _ (Nat.le_refl _) aF aF) (by rw[←dv];omega) eY gX u6
    rw[←hh, ←dv] at e5
    rw[←dv] at e1 e3
    have n7:VR σ g (a.eval f):=(BC aW.tr aW.g h3).mono e1.le
    have lL:dH (s2.nx+1) s4.nx σ:=(show dH s2.nx s4.nx ρ by rw[dv];exact hf.sub (Nat.le_refl _) Iz).next aF e1
    have Gn:=KE (P:=P) hc (aW.g.mono e1.le) my e5 lL n7 (args:=[.yield s2.nx]) (vs:= #[.func (.yield bb) #[] #[]])
      (by simp only[aQ,VR];exact⟨_,_,rfl,⟨_,_,e3,rfl⟩,rfl⟩) h4
    have zu:=(show(Instr.enterLoop b.fn a.tmps ps assign body b.roundOf).run P w=(Instr.enterLoop af.fn a.tmps ps assign body (some bl)).run P w by rw[cL.fn,Ao]).trans e4
    obtain⟨v,w',⟨τ,g1,g2,g3,g4⟩,st⟩:=Jk (cs:=cs) (k:=k) zu Gn
    obtain⟨q1,q2,w5,q3,q4,q5⟩:=JC (P:=P) n8 g3 (g1.le _ _ e3) h5
    have ext:Ext s.nx s4.nx ρ τ:=by rw[←dv];exact e1.trans aF GZ g1
    refine⟨τ,{a with defers:=[]++a.defers},w5,by rw[q1];exact ext,⟨aW.tr.mono ext.le,q4,aW.g.mono ext.le,aW.nt,(Local.kA _).dD n8 h5⟩,?_,(e6.trans g4).trans q5,⟨rfl,rfl,hr.symm⟩,Jl q2 hk,trivial,?_⟩
    · exact cL.defs.mono ext.le
    · rw[B7]
      refine Steps.trans st (.one ?_)
      rw[stepR_endRangeFunc q3,J9]
      rfl
end
end Go.Rn
namespace Go.Rn
open Go.RowKit
variable {x:cr} {s2:AS} {k:List Item} {c:Code} {af:AF}
theorem QW{P:Program}{b:Frame}{a:Act}{cs:List Frame}{w:World}:step P (lone (b.atR a (.inScope c::k)) cs w)= .next (lone (b.atR a k) cs w):=
 step_lone_go (by simp[stepG,stepG.exec,Frame.atR])
theorem Rr{P:Program}{b:Frame}{a:Act}{cs:List Frame}{w:World}:step P (lone (b.atR a (.code (.scope c)::k)) cs w)= .next (lone (b.atR a (.code c:: .inScope c::k)) cs w):=
 step_lone_go (by simp[stepG,stepG.exec,Frame.atR])
section
variable {P:Program} {B:aZ} {ρ:Ren} {w:World} {s s1:AS} {call:bf} {b:Frame} {a:Act} {cs:List Frame}
theorem SF{l bl N:Nat}{fV:Option Code}{f0 u4 d0:Nat}{t0:Tr AV}{u5:List Tmp}{a0 b0:Code}{u:Unit}(fi:bY s)(r:Rel B ρ s.h w)(hl:ρ l=some (bl,N))(hg:di l s= .ok (.loop .ready fV f0 t0 u4 u5 a0 b0 d0) s2)(h:dy l (some (.loop .busy fV f0 t0 u4 u5 a0 b0 d0)) s2= .ok u s1):
  s1.nx=s.nx/\∃w',(Instr.beginRound bl).run P w= .ok () w'/\Rel B ρ s1.h w'/\cU B w w':=by
 have lu:=j0 hg
 have aT:∀c,fV=some c->gu c:=by
  obtain⟨o',hb,hO,_⟩:=r.block (Nat.lt_of_lt_of_le lu.1 fi.nx) lu.2.1 hl
  obtain⟨_,_,_,_,_,_,_,eY⟩:=hO
  exact eY.fV
 obtain⟨e1,q,e2,e3,e4,_,_,_,_,_,_,_,e5,e6⟩:=E4 fi r hg hl aT h
 refine⟨e1,_,?_,e5,e6⟩
 subst e4
 simp only[Instr.beginRound,Sem.run_bind,x9 e2,Result.andThen_ok,D0 e2,e3,Sem.run_pure]
theorem KJ(fq:P.follows .mixedOrders=true)(hc:hJ P B call)(hl:∀t a,Local (call t a))(cL:Fr ρ af b a)(aW:At B ρ s af.nt af.tmps w a)(hf:dH s.nx s1.nx ρ)(h:kH P call af s= .ok x s1):nQ P B ρ s s1 w af b cs (lone (b.atR a af.todo) cs w) x:=by
  obtain⟨fn,t,nt,todo,d,r⟩:=af
  cases todo with
  | nil=>
    obtain⟨rfl,rfl⟩:=bW (show M.pure (.leave ⟨fn,t,nt,[],d,r⟩ none) s= .ok x s1 from h)
    exact vR cL aW rfl rfl ⟨rfl,rfl,rfl⟩ .nil rfl (Steps.refl _ _)
  | cons it k=>
    have hk:iE k:=cL.ok.tail
    have lV:BQ it:=cL.ok.head
    have h':(ua P it).val call fn t nt d r k s= .ok x s1:=h
    have calm:∀(l:List Item),iE l->M.pure (.go ⟨fn,t,nt,l,d,r⟩) s= .ok x s1->step P (lone (b.atR a (it::k)) cs w)= .next (lone (b.atR a l) cs w)->nQ P B ρ s s1 w ⟨fn,t,nt,it::k,d,r⟩ b cs (lone (b.atR a (it::k)) cs w) x:=by
      intro l mv hp hs
      obtain⟨rfl,rfl⟩:=bW hp
      exact vR cL aW rfl rfl ⟨rfl,rfl,rfl⟩ mv trivial (.one hs)
    cases it with
    | code c=>
      cases c with
      |skip=>exact calm k hk h' stepR_skip
      |label l=>exact calm k hk h' stepR_label
      |seq p q=>exact calm (.code p:: .code q::k) (.cons lV.1 (.cons lV.2 hk)) h' stepR_seq
      | cond c p q=>
        obtain⟨v,h1,h2⟩:=ch (show(bh (aR t c) fun v=>bh (tO v) fun v=>M.pure (.go ⟨fn,t,nt,.code (@Bool.rec (fun _=>Code) q p v)::k,d,r⟩)) s= .ok x s1 from h')
        obtain⟨y,h3,h4⟩:=ch h2
        have hv:=(BC aW.tr aW.g h1).Ld h3
        cases y with
        |true=>exact calm (.code p::k) (.cons lV.1 hk) h4 (stepR_cond hv)
        |false=>exact calm (.code q::k) (.cons lV.2 hk) h4 (stepR_cond hv)
      |block id c=>exact calm (.code c:: .inBlock id::k) (.cons lV (.cons trivial hk)) h' stepR_block
      |loop c=>exact calm (.code c:: .inLoop c::k) (.cons lV (.cons lV hk)) h' stepR_loop
      |scope c=>exact calm (.code c:: .inScope c::k) (.cons lV (.cons lV hk)) h' Rr
      | exit id=>
        have h2:yY id call fn t nt d r k s= .ok x s1:=h'
        unfold yY at h2
        cases e:exitTo id k with
        |some k'=>rw[e] at h2;exact calm k' (EA e hk) h2 (stepR_exit e)
        | none=>
          rw[e] at h2
          obtain⟨rfl,rfl⟩:=bW h2
          exact vR cL aW rfl rfl ⟨rfl,rfl,rfl⟩ cL.ok ⟨k,rfl,e⟩ (Steps.refl _ _)
      | goto l=>
        have h2:yZ l call fn t nt d r k s= .ok x s1:=h'
        unfold yZ at h2
        cases e:gotoIn l k with
        |some k'=>rw[e] at h2;exact calm k' (EB e hk) h2 (stepR_goto e)
        | none=>
          rw[e] at h2
          obtain⟨rfl,rfl⟩:=bW h2
          exact vR cL aW rfl rfl ⟨rfl,rfl,rfl⟩ cL.ok ⟨k,rfl,e⟩ (Steps.refl _ _)
      | ret=>
        obtain⟨rfl,rfl⟩:=bW (show M.pure (.leave ⟨fn,t,nt,.code .ret::k,d,r⟩ (some .ret)) s= .ok x s1 from h')
        exact vR cL aW rfl rfl ⟨rfl,rfl,rfl⟩ cL.ok ⟨k,rfl⟩ (Steps.refl _ _)
      | region id ops draw=>
        cases draw with
        | false=>
          obtain⟨t1,s2,h1,h2⟩:=M.bG (show((iV P call nt ops ops.toList t).bind fun t=>M.pure (.go ⟨fn,t,nt,k,d,r⟩)) s= .ok x s1 from h')
          obtain⟨rfl,rfl⟩:=bW h2
          exact KI cL rfl hk (RS hc hl aW hf h1 b k cs)
        | true=>
          obtain⟨t1,s2,h1,h2⟩:=M.bG (show((oK P call nt ops t).bind fun t=>M.pure (.go ⟨fn,t,nt,k,d,r⟩)) s= .ok x s1 from h')
          obtain⟨rfl,rfl⟩:=bW h2
          exact KI cL rfl hk (Rq fq (lV rfl) hc hl aW hf h1 b k cs)
      |rangeFunc f ps p q=>exact SE hc hl cL aW hf rfl h'
      |refuse ab=>cases h'
    |inBlock id=>exact calm k hk h' stepR_inBlock
    |inScope c=>exact calm k hk h' QW
    |inLoop c=>exact calm (.code c:: .inLoop c::k) (.cons lV (.cons lV hk)) h' stepR_inLoop
    | beginRound=>
      have h2:wG call fn t nt d r k s= .ok x s1:=h'
      unfold wG at h2
      cases r with
      |none=>cases h2
      | some l=>
        obtain⟨bl,Ao,N0,u6⟩:∃bl,b.roundOf=some bl/\∃N,ρ l=some (bl,N):=by
          have lh:=cL.round
          cases e:b.roundOf with
          |none=>rw[e] at lh;cases lh
          |some bl=>rw[e] at lh;exact⟨bl,rfl,lh⟩
        obtain⟨o,s2,h3,h4⟩:=M.bG h2
        obtain⟨h5,st,fV,f0,t0,u4,u5,a0,b0,d0,rfl⟩:=vO h3
        cases st<;>first|(cases h4;done)|skip
        obtain⟨u,s3,h6,h7⟩:=M.bG h4
        obtain⟨rfl,rfl⟩:=bW h7
        obtain⟨e1,w',e2,e3,e4⟩:=SF (P:=P) aW.dD aW.rel u6 h5 h6
        have gz:bY s1:=(Local.dy _ _).dD ((Local.di _).dD aW.dD h5) h6
        exact⟨ρ,a,w',by rw[e1];exact Ext.refl _ _ _,⟨aW.tr,e3,aW.g,aW.nt,gz⟩,cL.defs,e4,⟨rfl,rfl,rfl⟩,hk,trivial,.one (stepR_beginRound Ao e2)⟩
    |_=>cases h'
theorem nQ.YR{fr:AF}{m:Machine}(cL:Fr ρ af b a)(h:nQ P B ρ s s2 w af b cs m (.go fr))(qh:s.nx<=s2.nx)(uZ:s2.nx<=s1.nx)(k:∀(σ:Ren) (a':Act) (w':World),Ext s.nx s2.nx ρ σ->Fr σ fr b a'->At B σ s2 fr.nt fr.tmps w' a'->nQ P B σ s2 s1 w' fr b cs (lone (b.atR a' fr.todo) cs w') x):nQ P B ρ s s1 w af b cs m x:=by
 obtain⟨σ,a',w',e1,e2,e3,e4,⟨e5,e6,e7⟩,e8,_,e9⟩:=h
 have lW:fr.nt=af.nt:=e6
 obtain⟨τ,Al,lT,f1,f2,f3,f4,⟨f5,f6,f7⟩,f8,f9,f10⟩:=k σ a' w' e1 ⟨cL.fn.trans e5.symm,cL.kind,by have:=cL.round.mono e1.le;rw[←e7] at this;exact this,e3,e8⟩ (by rw[lW];exact e2)
 exact⟨τ,Al,lT,e1.trans qh uZ f1,by rw[lW] at f2;exact f2,f3,e4.trans f4,⟨f5.trans e5,f6.trans e6,f7.trans e7⟩,f8,f9,Steps.trans e9 f10⟩
end
end Go.Rn
namespace Go.Rn
open Go.RowKit
variable {nt:Nat} {x:AV} {tmps:Array Value} {t:Tr AV}
section
variable {P:Program} {B:aZ} {ρ:Ren} {w:World} {s s1:AS} {call:bf}
theorem Jr(kl:nt<=top):∀{ps:List Tmp} {args:List AV} {vs:List Value} {t:Tr AV} {arr:Array Value},TR ρ nt t arr->aQ ρ args vs->(∀p∈ps,p<nt)->
    TR ρ nt (lD ps args t) ((ps.zip vs).foldl (fun tmps (t,a)=>tmps.setIfInBounds t a) arr)
  |[],args,vs,t,arr,h,_,_=>by simpa[lD] using h
  | p::ps,[],vs,t,arr,h,hv,_=>by
    simp only[aQ] at hv;subst hv
    simpa[lD] using h
  | p::ps,v::args,vs,t,arr,h,hv,hp=>by
    simp only[aQ] at hv
    obtain⟨u,us,rfl,h1,h2⟩:=hv
    simp only[lD,List.zip_cons_cons,List.foldl_cons]
    exact Jr kl (h.set (hp p List.mem_cons_self) kl h1) h2 fun q hq=>hp q (List.mem_cons_of_mem _ hq)
theorem Q9{l bl N:Nat}{j:Option Code}(fi:bY s)(r:Rel B ρ s.h w)(hl:ρ l=some (bl,N))(hj:∀c,j=some c->gu c)(h:endRound l j s= .ok x s1):
  s1.nx=s.nx/\x= .bool j.isNone/\∃w',(Instr.endRound bl j).run P w= .ok (.bool j.isNone) w'/\Rel B ρ s1.h w'/\cU B w w':=by
 unfold endRound at h
 obtain⟨o,s2,h1,h2⟩:=M.bG h
 obtain⟨h3,st,fV,fn,t,nt,ps,aa,bb,d,rfl⟩:=vO h1
 obtain⟨u,s3,h4,h5⟩:=M.bG h2
 obtain⟨rfl,rfl⟩:=bW h5
 obtain⟨e1,q,e2,e3,e4,_,_,_,_,_,_,_,e5,e6⟩:=E4 fi r h3 hl hj h4
 refine⟨e1,rfl,_,?_,e5,e6⟩
 cases j<;>simp only[Instr.endRound,Sem.run_bind,x9 e2,Result.andThen_ok,D0 e2,Sem.run_pure]<;>rfl
theorem Ra{rv:ResultVar}(ht:TR ρ nt t tmps)(fi:bY s)(r:Rel B ρ s.h w)(h:tp P t rv s= .ok x s1):
    s1.h=s.h/\s1.nx=s.nx/\bY s1/\∃v,(match rv with| .tmp t=>pure (tmps.getD t undef)| .cell a t=>do Go.loadVar t (←asAddr (tmps.getD a undef)):Sem Value).run P w= .ok v w/\VR ρ x v:=by
  cases rv with
  | tmp i=>
    obtain⟨hx,rfl⟩:=gq (show lift (t.get i) s= .ok x s1 from h)
    exact⟨rfl,rfl,fi,_,rfl,ht.2 i x hx⟩
  | cell a ty=>
    obtain⟨ad,s2,h1,h2⟩:=M.bG (show((lift (match t.get a with|some x=>addrOf x|none=>none)).bind fun a=>Rn.loadVar P ty a.1 a.2) s= .ok x s1 from h)
    obtain⟨h3,hs⟩:=gq h1
    subst hs
    cases IA:t.get a with
    |none=>rw[IA] at h3;cases h3
    |some xa=>
    rw[IA] at h3
    obtain⟨b,N,h4,h5⟩:=(ht.2 a xa IA).E1 h3
    obtain⟨a1,a2,v,a3,a4⟩:=JM (P:=P) fi r h2 h4
    exact⟨a1,a2,(Local.loadVar P ty _ _).dD fi h2,v,by simp[h5,asAddr,a3],a4⟩
theorem D3(ht:TR ρ nt t tmps):∀{l:List ResultVar} {vs:List AV} {s s1:AS},bY s->Rel B ρ s.h w->pG P t l s= .ok vs s1->
    s1.h=s.h/\s1.nx=s.nx/\∃us,(l.mapM fun| .tmp t=>pure (tmps.getD t undef)| .cell a t=>do Go.loadVar t (←asAddr (tmps.getD a undef)):Sem (List Value)).run P w= .ok us w/\aQ ρ vs us
  | [],vs,s,s1,fi,r,h=>by
    obtain⟨rfl,rfl⟩:=bW (show M.pure [] s= .ok vs s1 from h)
    exact⟨rfl,rfl,[],rfl,by simp[aQ]⟩
  | rv::l,vs,s,s1,fi,r,h=>by
    obtain⟨v,s2,h1,h2⟩:=M.bG (show((tp P t rv).bind fun v=>(pG P t l).bind fun vs=>M.pure (v::vs)) s= .ok vs s1 from h)
    obtain⟨us,s3,h3,h4⟩:=M.bG h2
    obtain⟨rfl,rfl⟩:=bW h4
    obtain⟨a1,a2,a3,u,a4,a5⟩:=Ra ht fi r h1
    obtain⟨b1,b2,Dq,b3,b4⟩:=D3 ht a3 (by rw[a1];exact r) h3
    refine⟨b1.trans a1,b2.trans a2,u::Dq,?_,?_⟩
    · rw[List.mapM_cons]
      simp only[Sem.run_bind,a4,Result.andThen_ok,b3,Sem.run_pure]
    · simp only[aQ];exact⟨u,Dq,rfl,a5,b4⟩
theorem D9{fr:Frame}{cs:List Frame}:∀{l:List Nat} {ds:List Deferred} {s s1:AS} {w:World} {u:Unit},bY s->Rel B ρ s.h w->qU ρ l ds->oL l s= .ok u s1->
    s1.nx=s.nx/\bY s1/\∃w',Rel B ρ s1.h w'/\cU B w w'/\∀(fr:Frame) (cs:List Frame),fr.mode≠ .run->fr.defers=ds->Steps P (lone fr cs w) (lone {fr with defers:=[]} cs w')
  | [],ds,s,s1,w,u,fi,r,hd,h=>by
    obtain⟨_,rfl⟩:=bW (show M.pure () s= .ok u s1 from h)
    have Dn:ds=[]:=hd
    subst Dn
    exact⟨rfl,fi,w,r,cU.refl _ _,fun fr cs _ e=>by rw[←e];exact Steps.refl _ _⟩
  | d ::l,ds,s,s1,w,u,fi,r,hd,h=>by
    obtain⟨b,N,ds',rfl,hn,hds⟩:=hd
    obtain⟨o,s2,h1,h2⟩:=M.bG (show((di d).bind fun o=>match o with| .defs=>(dy d none).bind fun _=>oL l|_=>fail) s= .ok u s1 from h)
    obtain⟨hx,lu,hh,dv⟩:=j0 h1
    have gz:=(Local.di d).dD fi h1
    have cQ:d<top:=Nat.lt_of_lt_of_le hx fi.nx
    obtain⟨o',hb,hO,hB⟩:=r.block cQ lu hn
    cases o with
    | defs=>
      obtain⟨u2,s3,h3,h4⟩:=M.bG h2
      have my:=(Local.dy d none).dD gz h3
      obtain⟨_,_,_,i1,i2⟩:=oM h3
      have hO':o'= .deferred (some []):=hO
      subst hO'
      obtain⟨g3,g4⟩:=vM (o':=.deferred none) hb
      obtain⟨k1,_⟩:=r.MX cQ lu rfl rfl hn g3
      obtain⟨e1,e2,w',e3,e4,e5⟩:=D9 (fr:=fr) (cs:=cs) my (by rw[i1,hh];exact k1) hds h4
      refine⟨by rw[e1,i2,dv],e2,w',e3,(g3.below (hB rfl)).trans e4,fun fr cs hm hdf=>?_⟩
      have Gp:(Instr.takeDeferred b).run P w= .ok [] {w with heap:=w.heap.setIfInBounds b (.deferred none)}:=by
        simp[Instr.takeDeferred,getObj,setObj,Sem.run,hb]
      have hs:=step_collected (P:=P) (cs:=cs) hm hdf rfl Gp
      exact .head hs (e5 {fr with defers:=[]++ds'} cs hm rfl)
    |_=>cases h2
end
end Go.Rn
namespace Go.Rn
open Go.RowKit
section
variable {P:Program} {B:aZ} {ρ:Ren} {w:World} {s s1:AS} {call:bf}
theorem JD{args:List AV}{vs:Array Value}(hv:aQ ρ args vs.toList)(n:Nat)(hn:max n args.length<=top):TR ρ (max n args.length) (iD args) (vs++Array.replicate (n - vs.size) undef):=by
 have hlen:=hv.length
 simp only[Array.length_toList] at hlen
 refine⟨by simp;omega,fun i x hx=>?_⟩
 unfold iD at hx
 rw[Tr.rH _ _ _ _ aF] at hx
 by_cases h:i<args.length
 ·rw[if_pos aF,Nat.sub_zero] at hx
  obtain⟨v,h1,h2⟩:=hv.get i x hx
  rw[Array.getD_eq_getD_getElem?,Array.getElem?_append_left aF]
  rw[Array.getElem?_toList] at h1
  rw[h1];exact h2
 ·rw[if_neg aF,Tr.get_nil] at hx;cases hx
def BT:List AV->AV
 |[v]=>v
 |l=>.tuple l
def oY:List Value->Value
 |[v]=>v
 |l=>.tuple l.toArray
theorem KK:∀{rs:List AV} {us:List Value},aQ ρ rs us->VR ρ (BT rs) (oY us)
  |[],us,h=>by simp only[aQ] at h;subst h;simp only[BT,oY,VR,aQ];exact⟨_,rfl,rfl⟩
  |[v],us,h=>by simp only[aQ] at h;obtain⟨u,Dq,rfl,g1,rfl⟩:=h;exact g1
  | v::v2::rs,us,h=>by
    simp only[aQ] at h
    obtain⟨u,Dq,rfl,g1,u2,us2,rfl,g3,g4⟩:=h
    simp only[BT,oY,VR,aQ];exact⟨_,rfl,u,_,rfl,g1,u2,us2,rfl,g3,g4⟩
theorem Ka{rs:List ResultVar}{fr:AF}{j:Option Code}{x:AV}(h:finish P rs fr j s= .ok x s1):
    (j=none\/j=some .ret)/\∃u s4 vs,oL fr.defers s= .ok u s4/\pG P fr.tmps rs s4= .ok vs s1/\x=BT vs:=by
  unfold finish at h
  obtain⟨u,s3,h5,h6⟩:=M.bG h
  have Ag:s3=s/\(j=none\/j=some .ret):=by
    cases j with
    |none=>exact⟨(bW (show M.pure () s= .ok u s3 from h5)).2,.inl rfl⟩
    |some c=>cases c<;>first|exact⟨(bW (show M.pure () s= .ok u s3 from h5)).2,.inr rfl⟩|cases h5
  obtain⟨hs,hj⟩:=Ag
  clear h5 h
  subst hs
  obtain⟨u2,s4,h7,h8⟩:=M.bG h6
  obtain⟨vs,s5,h9,eA⟩:=M.bG h8
  refine⟨hj,u2,s4,vs,h7,?_⟩
  cases vs with
  |nil=>obtain⟨rfl,rfl⟩:=bW (show M.pure (.tuple []) s5= .ok x s1 from eA);exact⟨h9,rfl⟩
  | cons v rs=>
    cases rs with
    |nil=>obtain⟨rfl,rfl⟩:=bW (show M.pure v s5= .ok x s1 from eA);exact⟨h9,rfl⟩
    |cons v2 rs=>obtain⟨rfl,rfl⟩:=bW (show M.pure (.tuple (v::v2::rs)) s5= .ok x s1 from eA);exact⟨h9,rfl⟩
structure fa (P:Program):Prop where
 mixed:P.follows .mixedOrders=true
 code:∀(f:FuncId) (fn:Func) (body:Code),P.funcs[f]? =some fn->fn.body=some body->gu body
end
end Go.Rn
namespace Go.Rn
open Go.RowKit
end Go.Rn
namespace Go.Rn
open Go.RowKit
def oN(W:World):Ren:=fun k=>if k<fb then some (k,match W.heap[k]? with|some (.cells c _ _)=>c.size|_=>0) else none
theorem Kb(W:World):iJ (oN W):=fun g hg=>⟨_,by unfold oN;rw[if_pos hg]⟩
theorem Js(W:World){k:Nat}(h:fb<=k):oN W k=none:=by unfold oN;rw[if_neg aF]
def YS(W:World)(h:Tr aE):Prop:=
 ∀n o,n<top->h.get n=some o->n<fb/\∃m t c e fr,o= .ro m t/\W.heap[n]? =some (.cells c e fr)/\m=c.size/\∀i,i<m->∃x v,t.get i=some x/\x.ct=true/\c[i]? =some v/\VR (oN W) x v
end Go.Rn
namespace Go.Rn
open Go.RowKit
theorem KL{ρ:Ren}{e:MapEntry}:∀{left:List (AV×AV)} {l:List MapEntry},fw ρ left l->e∈l->
    ∃x r l',(x,r)∈y3 left/\VR ρ x.1 e.key/\VR ρ x.2 e.val/\fw ρ r l'/\l.Perm (e::l')
  | [],l,h,he=>by
    simp only[fw] at h;subst h;cases he
  | y ::ys,l,h,he=>by
    simp only[fw] at h
    obtain⟨e0,es,rfl,h1,h2,h3⟩:=h
    rcases List.mem_cons.1 he with rfl|he
    · exact⟨y,ys,es,by simp[y3],h1,h2,h3,List.Perm.refl _⟩
    · obtain⟨x,r,l',k1,k2,k3,k4,k5⟩:=KL h3 he
      refine⟨x,y::r,e0::l',?_,k2,k3,?_,?_⟩
      · simp only[y3,List.mem_cons,List.mem_map];exact .inr ⟨(x,r),k1,rfl⟩
      · simp only[fw];exact⟨e0,l',rfl,h1,h2,k4⟩
      · exact(List.Perm.cons e0 k5).trans (List.Perm.swap e e0 l')
theorem fw.Va{ρ:Ren}{left:List (AV×AV)}(h:fw ρ left []):left=[]:=by
 cases left with
 |nil=>rfl
 |cons x xs=>simp only[fw] at h;obtain⟨e,es,h,_⟩:=h;cases h
section
variable {P:Program} {B:aZ} {ρ:Ren} {w w':World} {h:Tr aE} {n m:Nat} {es left lJ:List (AV×AV)} {ex:Bool} {cur lM:Option (AV×AV)} {b N:Nat}
theorem Kc{w1:World}{o:Obj}(hw:w1=w\/w1=w.drew):rW b w (ChangeMaps.setBlock w1 b o):=by
 have h1:(ChangeMaps.setBlock w1 b o).heap=w.heap.setIfInBounds b o:=by rcases hw with rfl|rfl<;>rfl
 refine⟨?_,?_,?_,by rw[h1];simp,fun k hk=>?_⟩
 ·rcases hw with rfl|rfl<;>rfl
 ·rcases hw with rfl|rfl<;>rfl
 ·rcases hw with rfl|rfl<;>rfl
 ·rw[h1,Array.getElem?_setIfInBounds_ne aF]
theorem o4.next(ty:TypeId)(u:o4 ρ w n m es ex left cur):∃b N,ρ n=some (b,N)/\
    ((left=[]/\(Instr.next (.pointer (some ⟨b,0,none⟩)) false ty).run P w= .ok (.tuple #[.bool false]) w)\/
    ∃ x r v1 v2 w',(x,r)∈y3 left/\VR ρ x.1 v1/\VR ρ x.2 v2/\(Instr.next (.pointer (some ⟨b,0,none⟩)) false ty).run P w= .ok (.tuple #[.bool true,v1,v2]) w'/\rW b w w'/\
      (∃bm M c sn,ρ m=some (bm,M)/\w'.heap[b]? =some (.mapIter (some bm) c sn c))/\o4 ρ w' n m es ex r (some x)):=by
  obtain⟨b,N,bm,M,l,ak,seen,h1,h2,h3,h4,h5,h6,h7,h8,h9⟩:=u
  refine⟨b,N,h1,?_⟩
  have nh:(leftOf l seen).toList=l.toList.filter fun e=> !seen.contains e.born:=by simp[leftOf]
  obtain⟨l',hp,hq⟩:=h8
  rcases run_next_at (P:=P) w ty b bm ak ak seen l ak h3 h4 h5.2 (Nat.le_refl _) with⟨k1,k2⟩|⟨e,he,w1,IB,k2⟩
  · refine .inl ⟨?_,k2⟩
    have:(leftOf l seen).toList=[]:=by
      apply List.eq_nil_of_length_eq_zero;simpa using k1
    rw[nh] at this
    rw[this] at hp
    have mv:=hp.symm.eq_nil
    subst mv
    exact hq.Va
  · refine .inr ?_
    rw[nh] at he
    have Ai:e∈l':=hp.mem_iff.1 he
    obtain⟨x,r,Dr,p1,p2,p3,p4,p5⟩:=KL hq Ai
    have fD:bm≠b:=by intro q;subst q;rw[h3] at h4;cases h4
    have jA:(ChangeMaps.setBlock w1 b (.mapIter (some bm) ak (seen.push e.born) ak)).heap[b]? =some (.mapIter (some bm) ak (seen.push e.born) ak):=by
      have cQ:b<w.heap.size:=oQ h3
      have:(ChangeMaps.setBlock w1 b (.mapIter (some bm) ak (seen.push e.born) ak)).heap=w.heap.setIfInBounds b (.mapIter (some bm) ak (seen.push e.born) ak):=by rcases IB with rfl|rfl<;>rfl
      rw[this,Array.getElem?_setIfInBounds_self_of_lt cQ]
    refine⟨x,r,e.key,e.val,_,p1,p2,p3,k2,Kc IB,⟨bm,M,ak,seen.push e.born,h2,jA⟩,?_⟩
    have pc:e∈l.toList:=(List.mem_filter.1 he).1
    have xK:((e::Dr).map (·.born)).Nodup:=by
      have a:((l.toList.filter fun e=> !seen.contains e.born).map (·.born)).Nodup:=(List.filter_sublist.map _).nodup h5.1
      exact((hp.trans p5).map _).nodup_iff.1 a
    rw[List.map_cons,List.nodup_cons] at xK
    refine⟨b,N,bm,M,l,ak,seen.push e.born,h1,h2,jA,((Kc IB).block bm fD).trans h4,h5,h6,h7,⟨Dr,?_,p4⟩,⟨e,pc,by simp,p2,p3⟩⟩
    have e1:(l.toList.filter fun x=> !(seen.push e.born).contains x.born)=(l.toList.filter fun x=> !seen.contains x.born).filter fun x=> !(x.born == e.born):=by
      rw[List.filter_filter]
      congr 1
      funext x
      simp only[Array.contains_push]
      rw[Bool.not_or,Bool.and_comm]
    have e2:(e::Dr).filter (fun x=> !(x.born == e.born))=Dr:=by
      rw[List.filter_cons]
      simp only[beq_self_eq_true,Bool.not_true,Bool.false_eq_true,if_false]
      refine List.filter_eq_self.2 fun x hx=>?_
      have:¬x.born=e.born:=by intro q;exact xK.1 (by rw[←q];exact List.mem_map_of_mem hx)
      simp[this]
    rw[e1]
    have:=(hp.trans p5).filter fun x=> !(x.born == e.born)
    rw[e2] at this
    exact this
end
end Go.Rn
namespace Go.Rn
open Go.RowKit
section
variable {P:Program} {B:aZ} {ρ:Ren} {w w1:World} {s s1 s2:AS} {call:bf} {b:Frame} {a:Act} {cs:List Frame}
end
end Go.Rn
namespace Go.Rn
open Go.RowKit
theorem sameKey_eq{a b:AV}(h:sameKey a b=some true):a=b:=by
  unfold sameKey at h
  split at h<;>first|(cases h;done)|skip
  · rename_i k x k' y
    cases hk:decide (k=k') with
    |false=>rw[hk] at h;cases h
    | true=>
      rw[hk] at h;injection h with h
      have e1:=of_decide_eq_true hk
      have e2:x=y:=by simpa using h
      rw[e1,e2]
  · rename_i x y
    injection h with h
    obtain⟨x⟩:=x
    obtain⟨y⟩:=y
    have e:x=y:=by
      have h':(x == y)=true:=h
      exact eq_of_beq h'
    rw[e]
  · rename_i x y
    injection h with h
    have e:x=y:=by simpa using h
    rw[e]
section
variable {P:Program} {B:aZ} {ρ σ:Ren} {w w2:World} {s s1 s2:AS}
end
end Go.Rn
namespace Go.Rn
open Go.RowKit
section
variable {P:Program} {B:aZ} {ρ:Ren} {w:World} {s s1:AS} {call:bf}
end
end Go.Rn
namespace Go.Rn
open Go.RowKit
variable {m:Nat} {h:Tr aE}
noncomputable section
def cY(P:Program)(call:bf)(k:Nat):AF->M cr:=
 @Nat.rec (fun _=>AF->M cr) (fun fr=>M.pure (.go fr)) (fun _ ih fr=>(kH P call fr).bind fun x=> @cr.rec (fun _=>M cr) ih (fun fr j=>M.pure (.leave fr j)) x) k
def oR:List Nat->Code->Code
 |[],c=>c
 |0::l,.seq a _=>oR l a
 |_::l,.seq _ b=>oR l b
 |0::l,.cond _ a _=>oR l a
 |_::l,.cond _ _ b=>oR l b
 |_::l,.block _ b=>oR l b
 |_::l,.loop b=>oR l b
 |_::l,.scope b=>oR l b
 |0::l,.rangeFunc _ _ a _=>oR l a
 |_::l,.rangeFunc _ _ _ b=>oR l b
 |_::_,c=>c
def rY:List Nat->List (Option aE)->Tr aE
 |n::ns,o::os=>(rY ns os).put n o
 |_,_=>.nil
def getAll(h:Tr aE):List Nat->List (Option aE)
 |[]=>[]
 |n::ns=>h.get n::getAll h ns
def yS(ns:List Nat)(r:R cr):Option (AF×Nat×List (Option aE)):=
 match r with
 | .ok (.go fr) s=>some (fr,s.nx,getAll s.h ns)
 |_=>none
def tq:List (Option aE)->Bool
  |[]=>true
  |none::l=>tq l
  | some o::l=>match o.plain with
    |true=>tq l
    |false=>false
def qI(m:Nat):List Nat->Bool
  |[]=>true
  | n::l=>match Nat.blt n m with
    |true=>qI m l
    |false=>false
end
theorem AY:∀{l:List (Option aE)},tq l=true->∀o,some o∈l->o.plain=true
  |[],_,o,h=>by cases h
  | none::l,hp,o,h=>by
    rcases List.mem_cons.1 h with h|h
    · cases h
    · exact AY (l:=l) hp o h
  | some q::l,hp,o,h=>by
    unfold tq at hp
    split at hp
    · rename_i e
      rcases List.mem_cons.1 h with h|h
      · injection h with h;subst h;exact e
      · exact AY hp o h
    · cases hp
theorem A3:∀{l:List Nat},qI m l=true->∀n∈l,n<m
  |[],_,n,h=>by cases h
  | a ::l,hp,n,h=>by
    unfold qI at hp
    split at hp
    · rename_i e
      rcases List.mem_cons.1 h with rfl|h
      · rw[←blt_eq];exact e
      · exact A3 hp n h
    · cases hp
theorem yc(hm:m<=top):∀{ns:List Nat},qI m ns=true->∀k o,k<top->(rY ns (getAll h ns)).get k=some o->h.get k=some o/\some o∈getAll h ns
  | [],_,k,o,_,e=>by
    have:(Tr.nil:Tr aE).get k=some o:=e
    rw[Tr.get_nil] at this;cases this
  | n ::ns,hl,k,o,hk,e=>by
    have hn:n<top:=Nat.lt_of_lt_of_le (A3 hl n List.mem_cons_self) hm
    have mv:qI m ns=true:=by
      unfold qI at hl
      split at hl
      · exact hl
      · cases hl
    have e':((rY ns (getAll h ns)).put n (h.get n)).get k=some o:=e
    rw[Tr.hH _ _ _ _ hn hk] at e'
    by_cases q:k=n
    · rw[if_pos q] at e'
      exact⟨by rw[q];exact e',by simp only[getAll,List.mem_cons];exact .inl e'.symm⟩
    · rw[if_neg q] at e'
      obtain⟨a,b⟩:=yc hm mv k o hk e'
      exact⟨a,List.mem_cons_of_mem _ b⟩
structure Part (s2 s1:AS):Prop where
 nx:s2.nx=s1.nx
 dD:bY s2
 sub:∀k o,k<top->s2.h.get k=some o->s1.h.get k=some o
 plain:∀k o,k<top->s2.h.get k=some o->o.plain=true
theorem Rel.part{B:aZ}{ρ:Ren}{s1 s2:AS}{w:World}(r:Rel B ρ s1.h w)(p:Part s2 s1):Rel B ρ s2.h w:=by
 refine⟨fun n o hn h=>r.is n o hn (p.sub n o hn h),fun n m o q b N M hn hm h1 h2 eX=>r.one n m o q b N M hn hm (p.sub n o hn h1) (p.sub m q hm h2) eX,fun n m es ex left cur hn h=>?_,r.size,
  fun i j m es ex left cur kj mo lJ lM hi hj h1 h2=>r.lone i j m es ex left cur kj mo lJ lM hi hj (p.sub i _ hi h1) (p.sub j _ hj h2),
  r.fz.of (Ren.le_refl _) (fun _ _ _=>rfl) (fun b1 _ hn=>hn.sub fun m q hm hq nb=>⟨q,p.sub m q hm hq,nb⟩)⟩
 have:=p.plain n _ hn h
 simp[aE.plain] at this
section
variable {P:Program} {B:aZ} {ρ:Ren} {w:World} {s s1:AS} {call:bf} {b:Frame} {a:Act} {cs:List Frame}
theorem Local.cY(P:Program){call:bf}(dL:∀t a,Local (call t a)):∀(k:Nat) (fr:AF),Local (cY P call k fr)
  |0,fr=>Local.pure _
  | k+1,fr=>by
    refine Local.bind (Local.kH P dL fr) (fun x=>?_)
    cases x with
    |go fr=>exact Local.cY P dL k fr
    |leave fr j=>exact Local.pure _
theorem Bm(fq:P.follows .mixedOrders=true)(hc:hJ P B call)(hl:∀t a,Local (call t a)):∀(k:Nat) {ρ:Ren} {w:World} {s s1:AS} {a:Act} {af:AF} {x:cr},Fr ρ af b a->At B ρ s af.nt af.tmps w a->dH s.nx s1.nx ρ->
    cY P call k af s= .ok x s1->nQ P B ρ s s1 w af b cs (lone (b.atR a af.todo) cs w) x
  | 0,ρ,w,s,s1,a,af,x,cL,aW,hf,h=>by
    obtain⟨rfl,rfl⟩:=bW (show M.pure (.go af) s= .ok x s1 from h)
    exact vR cL aW rfl rfl ⟨rfl,rfl,rfl⟩ cL.ok trivial (Steps.refl _ _)
  | k +1,ρ,w,s,s1,a,af,x,cL,aW,hf,h=>by
    obtain⟨y,s2,h1,h2⟩:=M.bG (show((kH P call af).bind fun x=> @cr.rec (fun _=>M cr) (cY P call k) (fun fr j=>M.pure (.leave fr j)) x) s= .ok x s1 from h)
    have qh:=(Local.kH P hl af).le aW.dD h1
    have gz:=(Local.kH P hl af).dD aW.dD h1
    cases y with
    | go fr=>
      have lS:cY P call k fr s2= .ok x s1:=h2
      have uZ:=(Local.cY P hl k fr).le gz lS
      have w1:=KJ (b:=b) (cs:=cs) fq hc hl cL aW (hf.sub (Nat.le_refl _) uZ) h1
      exact w1.YR cL qh uZ fun σ a' w' e1 aao aap=>Bm fq hc hl k aao aap (hf.next qh e1) lS
    | leave fr j=>
      obtain⟨rfl,rfl⟩:=bW (show M.pure (.leave fr j) s2= .ok x s1 from h2)
      exact KJ fq hc hl cL aW hf h1
inductive wV (P:Program) (call:bf):AF->AS->cr->AS->Prop
 |one {k:Nat} {fr:AF} {s:AS} {x:cr} {s1:AS}:cY P call k fr s= .ok x s1->wV P call fr s x s1
 |cons {k:Nat} {fr:AF} {s:AS} {br:AF} {s1 s2:AS} {x:cr} {s3:AS}:cY P call k fr s= .ok (.go br) s1->Part s2 s1->wV P call br s2 x s3->wV P call fr s x s3
theorem wV.next{k nx:Nat}{fr br:AF}{s:AS}{x:cr}{s3:AS}{ns:List Nat}{os:List (Option aE)}(h:yS ns (cY P call k fr s)=some (br,nx,os))(px:bY s)(hl:∀t a,Local (call t a))(hp:tq os=true)(cV:qI nx ns=true)(hL:wV P call br ⟨rY ns os,nx,0,[],[]⟩ x s3):wV P call fr s x s3:=by
 unfold yS at h
 split at h
 ·rename_i ja s' e
  injection h with h
  injection h with h1 h
  injection h with h2 h3
  subst h1;subst h2;subst h3
  have fi:=(Local.cY P hl k fr).dD px e
  refine .cons (s2:=⟨rY ns (getAll s'.h ns),s'.nx,0,[],[]⟩) e ⟨rfl,⟨Nat.zero_le _,fi.nx⟩,fun k o hk h=>(yc fi.nx cV k o hk h).1,fun k o hk h=>AY hp o (yc fi.nx cV k o hk h).2⟩ hL
 ·cases h
theorem Vb{nx:Nat}(hb:Nat.ble nx top=true):bY ⟨h,nx,0,[],[]⟩:=⟨Nat.zero_le _,bH.1 hb⟩
end
end Go.Rn
namespace Go.Rn
open Go.RowKit
variable {aI:Nat} {v:Value} {h0:Tr aE} {b a:AV}
structure Start (aI:Nat) (h0:Tr aE) (ρ:Ren) (w:World):Prop where
 g:iJ ρ
 free:∀k,aI<=k->ρ k=none
 is:∀n o,n<top->h0.get n=some o->o.du=true/\∃b N o',ρ n=some (b,N)/\w.heap[b]? =some o'/\OR ρ N o o'
theorem Start.rel{ρ:Ren}{w:World}(S:Start aI h0 ρ w)(ht:aI<=top):Rel (MR w) ρ h0 w:=by
 refine⟨fun n o hn h=>?_,fun n m o p b N M hn hm h1 h2 eX _ _=>?_,fun n m es ex left cur hn h=>?_,fun _ hk=>hk,fun i j m es ex left cur kj mo lJ lM hi _ h1 _=>?_,fun n b sh e=>absurd (S.free _ (Nat.le_trans ht (mG n b sh))) e⟩
 ·obtain⟨hr,b,N,o',h1,h2,h3⟩:=S.is n o hn h
  exact⟨b,N,o',h1,h2,h3,fun q=>by rw[hr] at q;cases q⟩
 ·have e1:=(S.is n o hn h1).1
  have e2:=(S.is m p hm h2).1
  rcases eX with q|q
  ·rw[e1] at q;cases q
  ·rw[e2] at q;cases q
 ·have:=(S.is n _ hn h).1;cases this
 ·have:=(S.is i _ hi h1).1;cases this
theorem Start.none(W:World):Start fb .nil (oN W) W:=
 ⟨Kb W,fun k hk=>Js W hk,fun n o _ h=>by rw[Tr.get_nil] at h;cases h⟩
theorem Start.known{W:World}{h:Tr aE}(hk:YS W h):Start fb h (oN W) W:=
 ⟨Kb W,fun k hk=>Js W hk,fun n o hn hg=>by
  obtain⟨h1,m,t,c,e,fr,rfl,h2,h3,h4⟩:=hk n o hn hg
  exact⟨rfl,n,c.size,_,by unfold oN;rw[if_pos h1,h2],h2,c,e,fr,rfl,rfl,h3,h4⟩⟩
section
variable {P:Program} {B:aZ} {ρ:Ren} {w:World} {s s1:AS} {call:bf}
end
noncomputable section
def xe(aI:Nat):AV->AV->Bool
  | .nilFunc,.nilFunc=>true
  | .func (.func f) [] [],.func (.func g) [] []=>Nat.beq f g
  | .slice none 0 (.known 0),.slice none 0 (.known 0)=>true
  | .ae a b c,.ae d e f=>and (Nat.beq a d) (and (Nat.beq b e) (and (Nat.beq c f) (and (Nat.blt d aI) (Nat.blt d top))))
  | x,y=>match sameKey x y with
    |some true=>true
    |_=>false
def yC(aI:Nat)(t u:Tr AV):Nat->Bool
  |0=>true
  | i+1=>match t.get i,u.get i with
    |some a,some b=>and (xe aI a b) (yC aI t u i)
    |_,_=>false
def wH(aI:Nat):aE->aE->Bool
 | .ro m t,.ro n u=>and (Nat.beq m n) (yC aI t u n)
 | .pR m t,.pR n u=>and (Nat.beq m n) (yC aI t u n)
 |_,_=>false
def nz(aI:Nat)(h0:Tr aE):List Nat->M Unit
 |[]=>M.pure ()
 |n::ns=>(di n).bind fun o=>bh (h0.get n) fun p=>bC (wH aI o p) <| nz aI h0 ns
end
theorem Local.nz(aI:Nat)(h0:Tr aE):∀ns,Local (nz aI h0 ns)
 |[]=>Local.pure _
 |n::ns=>Local.bind (Local.di n) (fun _=>Local.bh fun _ _=>Local.bC fun _=>Local.nz aI h0 ns)
theorem Li{ρ:Ren}(h:xe aI a b=true)(hv:VR ρ a v):VR (fun k=>if k<aI then ρ k else none) b v:=by
 unfold xe at h
 split at h
 ·simp only[VR] at hv ⊢;exact hv
 ·rename_i f g
  have:f=g:=fT.1 h
  subst this
  simp only[VR,aQ] at hv ⊢;exact hv
 ·simp only[VR] at hv ⊢;exact hv
 ·obtain⟨q1,q2⟩:=and_true.1 h
  obtain⟨q3,q4⟩:=and_true.1 q2
  obtain⟨q5,q6⟩:=and_true.1 q4
  have e1:=fT.1 q1;have e2:=fT.1 q3;have e3:=fT.1 q5
  subst e1;subst e2;subst e3
  obtain⟨q6,q7⟩:=and_true.1 q6
  have cQ:=(blt_eq _ _).mp q6
  have eY:=(blt_eq _ _).mp q7
  simp only[VR] at hv ⊢
  rcases hv with hv|⟨b,sh,c,h1,h2⟩
  ·exact .inl hv
  ·exact .inr ⟨b,sh,c,.inl ⟨by omega,(if_pos cQ).trans (h1.low aF)⟩,h2⟩
 ·split at h
  ·rename_i e
   have:=sameKey_eq e
   subst this
   unfold sameKey at e
   split at e<;>first|(cases e;done)|(simp only[VR] at hv ⊢;exact hv)
  ·cases h
theorem Ej{t u:Tr AV}:∀{n:Nat},yC aI t u n=true->∀i,i<n->∃a b,t.get i=some a/\u.get i=some b/\xe aI a b=true
  |0,_,i,hi=>by omega
  | n +1,h,i,hi=>by
    unfold yC at h
    split at h
    · rename_i a b e1 e2
      obtain⟨q1,q2⟩:=and_true.1 h
      by_cases q:i=n
      · subst q;exact⟨a,b,e1,e2,q1⟩
      · exact Ej q2 i aF
    · cases h
theorem Kd{ρ:Ren}(h:xe aI a b=true)(_:VR ρ a v):b.ct=true:=by
 unfold xe at h
 split at h
 ·rfl
 ·rfl
 ·rfl
 ·rfl
 ·split at h
  ·rename_i e
   have:=sameKey_eq e
   subst this
   unfold sameKey at e
   split at e<;>first|(cases e;done)|rfl
  ·cases h
theorem Ke{N:Nat}{ρ:Ren}{o p:aE}{o':Obj}(h:wH aI o p=true)(hO:OR ρ N o o'):p.du=true/\OR (fun k=>if k<aI then ρ k else none) N p o':=by
 unfold wH at h
 split at h
 ·rename_i m t n u
  obtain⟨q1,q2⟩:=and_true.1 h
  have e1:=fT.1 q1
  subst e1
  obtain⟨c,e,fr,rfl,h1,h2,row⟩:=hO
  refine⟨rfl,c,e,fr,rfl,h1,h2,fun i hi=>?_⟩
  obtain⟨x,v,a1,a2,a3,a4⟩:=row i hi
  obtain⟨a,b,b1,b2,b3⟩:=Ej q2 i hi
  rw[a1] at b1;cases b1
  exact⟨b,v,b2,Kd b3 a4,a3,Li b3 a4⟩
 ·rename_i m t n u
  obtain⟨q1,q2⟩:=and_true.1 h
  have e1:=fT.1 q1
  subst e1
  obtain⟨c,e,fr,rfl,row⟩:=hO
  refine⟨rfl,c,e,fr,rfl,fun i hi=>?_⟩
  obtain⟨x,v,a1,a2,a3,a4⟩:=row i hi
  obtain⟨a,b,b1,b2,b3⟩:=Ej q2 i hi
  rw[a1] at b1;cases b1
  exact⟨b,v,b2,Kd b3 a4,a3,Li b3 a4⟩
 ·cases h
theorem Ea:∀{ns:List Nat} {s s1:AS} {u:Unit},nz aI h0 ns s= .ok u s1->s1.h=s.h/\s1.nx=s.nx/\∀n∈ns,n<s.nx/\∃o p,s.h.get n=some o/\h0.get n=some p/\wH aI o p=true
  | [],s,s1,u,h=>by
    obtain⟨_,rfl⟩:=bW (show M.pure () s= .ok u s1 from h)
    exact⟨rfl,rfl,fun n hn=>by cases hn⟩
  | m ::ns,s,s1,u,h=>by
    obtain⟨o,s2,h1,h2⟩:=M.bG (show((di m).bind fun o=>bh (h0.get m) fun p=>bC (wH aI o p) <| nz aI h0 ns) s= .ok u s1 from h)
    obtain⟨a1,a2,a3,a4⟩:=j0 h1
    obtain⟨p,h3,h4⟩:=ch h2
    obtain⟨h5,h6⟩:=dY h4
    obtain⟨b1,b2,b3⟩:=Ea h6
    refine⟨b1.trans a3,b2.trans a4,fun n hn=>?_⟩
    rcases List.mem_cons.1 hn with rfl|hn
    · exact⟨a1,o,p,a2,h3,h5⟩
    · obtain⟨c1,q1,q2,c2,c3,c4⟩:=b3 n hn
      exact⟨by rw[←a4];exact c1,q1,q2,by rw[←a3];exact c2,c3,c4⟩
end Go.Rn
namespace Go.Rn
open Go.RowKit
section
variable {P:Program} {B:aZ} {ρ:Ren} {w:World} {s s1:AS} {call:bf}
theorem QX{g:FuncId}{fn:Func}{body:Code}{args:List AV}{vs:Array Value}{fr:AF}{j:Option Code}{s2 s3:AS}{x:AV}(ga:P.funcs[g]? =some fn)(gP:fn.body=some body)(px:bY s2)(hw:∀cs:List Frame,nQ P B ρ s s2 w ⟨g,iD args,max fn.ntmps args.length,[.code body],[],none⟩ {(default:Frame) with fn:=g,kind:=.normal,roundOf:=none} cs
   (lone (({(default:Frame) with fn:=g,kind:=.normal,roundOf:=none}:Frame).atR {tmps:=vs++Array.replicate (fn.ntmps - vs.size) undef,defers:=[]} [.code body]) cs w) (.leave fr j))(nP:finish P fn.results.toList fr j s2= .ok x s3):Calls P g vs w fun e w'=>∃v,e= .returned v/\lN B ρ s s3 w x v w':=by
 intro cs
 let b:Frame:={(default:Frame) with fn:=g,kind:=.normal,roundOf:=none}
 let a:Act:={tmps:=vs++Array.replicate (fn.ntmps - vs.size) undef,defers:=[]}
 have yT:Frame.enter P g vs .normal=b.atR a [.code body]:=by simp[Frame.enter,Frame.atR,ga,gP,b,a]
 obtain⟨σ,a',w',e1,e2,e3,e4,⟨e5,IC,aey⟩,e6,e7,e8⟩:=hw cs
 obtain⟨hj,u2,s4,rs,h7,h9,hx⟩:=Ka nP
 have n8:bY s4:=(Local.oL _).dD px h7
 have sQ:Leaves j fr.todo:=e7
 obtain⟨d1,d2,w2,d3,d4,d5⟩:=D9 (P:=P) (fr:=b) (cs:=cs) px e2.rel e3 h7
 obtain⟨f1,f2,us,f3,f4⟩:=D3 (P:=P) (w:=w2) e2.tr n8 d3 h9
 have G0:Steps P (lone (b.atR a' fr.todo) cs w') (lone {b.atR a' fr.todo with mode:=.returning} cs w'):=by
  rcases hj with rfl|rfl
  ·have e:fr.todo=[]:=sQ
   rw[e];exact .one (stepR_end rfl)
  ·obtain⟨k,e⟩:=sQ
   rw[e];exact .one (stepR_ret rfl)
 have ub:=d5 {b.atR a' fr.todo with mode:=.returning} cs jQ rfl
 have sq:(results fn a'.tmps).run P w2= .ok (oY us) w2:=by
  unfold results
  rw[Array.mapM_eq_mapM_toList]
  simp only[Sem.run_bind,map_eq_pure_bind,Sem.run_pure]
  refine Eq.trans (congrArg (fun r:Result (List Value)=>(r.andThen fun a w'=>Result.ok a.toArray w').andThen fun a w'=>Result.ok (if h:a.size=1 then a[0] else Value.tuple a) w') f3) ?_
  have:∀l:List Value,(Result.ok (if h:l.toArray.size=1 then l.toArray[0] else Value.tuple l.toArray) w2:Result Value)= .ok (oY l) w2:=by
   intro l
   match l with
   |[]=>rfl
   |[v]=>rfl
   |v::v2::l=>simp[oY]
  exact this us
 refine⟨.returned (oY us),w2,{b.atR a' fr.todo with mode:=.returning,defers:=[]},⟨_,rfl,?_⟩,?_,rfl,?_⟩
 ·exact⟨σ,by rw[show s3.nx=s2.nx by rw[f2,d1]];exact e1,by rw[hx];exact KK f4,by rw[f1];exact d3,e4.trans d4⟩
 ·rw[yT]
  exact Steps.trans e8 (Steps.trans G0 ub)
 ·exact⟨rfl,rfl,rfl,fn,ga,sq⟩
noncomputable def Vc(ops:Array Oper)(o:Oper)(t:Tr AV):Bool:=
 match o.guard with
 |none=>true
 |some g=>and (nH ops t g.1) (lZ ops g t)
inductive pZ (P:Program) (call:bf):AF->AS->cr->AS->Prop
 |one {k:Nat} {fr:AF} {s:AS} {x:cr} {s1:AS}:cY P call k fr s= .ok x s1->pZ P call fr s x s1
 |cons {k:Nat} {fr:AF} {s:AS} {br:AF} {s1 s2:AS} {x:cr} {s3:AS}:cY P call k fr s= .ok (.go br) s1->Part s2 s1->pZ P call br s2 x s3->pZ P call fr s x s3
 | call {fr ja:AF} {s s1 s2 s3 s4 s5 s6 s7:AS} {x:cr} {id:Nat} {ops:Array Oper} {pre post:List Oper} {o:Oper} {k:List Item} {f:Operand} {args:Array Operand} {ts:Array TypeId} {g:FuncId} {fn:Func} {body:Code} {vs:List AV} {j:Option Code} {y:AV} {t1 t2 t3:Tr AV}:
   fr.todo= .code (.region id ops false)::k->ops.toList=pre++o::post->Vc ops o t1=true->o.op= .call ⟨.value f,args,ts⟩->
   iV P call fr.nt ops pre fr.tmps s= .ok t1 s1->aR t1 f=some (.func (.func g) [] [])->iv (aR t1) args.toList=some vs->
   P.funcs[g]? =some fn->fn.body=some body->(fn.name == "runtime.NumGoroutine")=false->max fn.ntmps vs.length<=top->Part s2 s1->
   pZ P call ⟨g,iD vs,max fn.ntmps vs.length,[.code body],[],none⟩ s2 (.leave ja j) s3->finish P fn.results.toList ja j s3= .ok y s4->Part s5 s4->
   gW fr.nt t1 o.dst y=some t2->iV P call fr.nt ops post t2 s5= .ok t3 s6->pZ P call {fr with tmps:=t3,todo:=k} s6 x s7->pZ P call fr s x s7
end
end Go.Rn
namespace Go.Rn
open Go.RowKit
variable {s:AS} {os:List (Option aE)} {ns:List Nat} {k:Nat} {y:AV} {rs:List ResultVar} {br:AF}
noncomputable section
def L0(P:Program)(rs:List ResultVar)(ns:List Nat)(r:R cr):Option (AV×Nat×List (Option aE)):=
  match r with
  | .ok (.leave fr j) s=>match finish P rs fr j s with
    | .ok v s1=>some (v,s1.nx,getAll s1.h ns)
    | .bad=>none
  |_=>none
end
section
variable {P:Program} {call:bf}
def Ends(P:Program)(call:bf)(rs:List ResultVar)(fr:AF)(s:AS)(ns:List Nat)(y:AV)(nx:Nat)(os:List (Option aE)):Prop:=
 ∃ja j s3 s4,pZ P call fr s (.leave ja j) s3/\finish P rs ja j s3= .ok y s4/\s4.nx=nx/\getAll s4.h ns=os
theorem Ends.last{fr:AF}{nx:Nat}(h:L0 P rs ns (cY P call k fr s)=some (y,nx,os)):Ends P call rs fr s ns y nx os:=by
 unfold L0 at h
 split at h
 ·rename_i ja j s' e
  split at h
  ·rename_i v s1 e2
   injection h with h
   injection h with h1 h
   injection h with h2 h3
   subst h1
   exact⟨ja,j,s',s1,.one e,e2,h2,h3⟩
  ·cases h
 ·cases h
theorem pZ.next{nx:Nat}{fr:AF}{x:cr}{s3:AS}(h:yS ns (cY P call k fr s)=some (br,nx,os))(px:bY s)(hl:∀t a,Local (call t a))(hp:tq os=true)(cV:qI nx ns=true)(hL:pZ P call br ⟨rY ns os,nx,0,[],[]⟩ x s3):pZ P call fr s x s3:=by
 unfold yS at h
 split at h
 ·rename_i ja s' e
  injection h with h
  injection h with h1 h
  injection h with h2 h3
  subst h1;subst h2;subst h3
  have fi:=(Local.cY P hl k fr).dD px e
  refine .cons (s2:=⟨rY ns (getAll s'.h ns),s'.nx,0,[],[]⟩) e ⟨rfl,⟨Nat.zero_le _,fi.nx⟩,fun k o hk h=>(yc fi.nx cV k o hk h).1,fun k o hk h=>AY hp o (yc fi.nx cV k o hk h).2⟩ hL
 ·cases h
theorem Ends.next{nx P6:Nat}{fr:AF}{P7:List Nat}{Ds:List (Option aE)}(h:yS ns (cY P call k fr s)=some (br,nx,os))(px:bY s)(hl:∀t a,Local (call t a))(hp:tq os=true)(cV:qI nx ns=true)(hL:Ends P call rs br ⟨rY ns os,nx,0,[],[]⟩ P7 y P6 Ds):Ends P call rs fr s P7 y P6 Ds:=by
 obtain⟨ja,j,s3,s4,h1,h2⟩:=hL
 exact⟨ja,j,s3,s4,h1.next h px hl hp cV,h2⟩
end
end Go.Rn
