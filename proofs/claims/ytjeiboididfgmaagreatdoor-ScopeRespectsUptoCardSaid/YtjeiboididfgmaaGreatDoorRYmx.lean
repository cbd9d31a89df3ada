/- Regions in drawn order: quiet operations anywhere among others. No condition. -/
import Derived.Test.YtjeiboididfgmaaGreatDoorRYb
set_option linter.unusedVariables false
set_option linter.unusedSimpArgs false
namespace Go.V
open Go
def maskOf (acc:List Nat) (o:Oper):Nat:=o.after.toList.foldl (fun m e=>if Region.binds .any e&&decide (e.on<acc.length) then (m ||| (1 <<< e.on)) ||| acc.getD e.on 0 else m) 0
def masksGo:List Oper->List Nat->List Nat
 |[],acc=>acc
 |o::l,acc=>masksGo l (acc++[maskOf acc o])
def wB (ms:List Nat) (i j:Nat):Bool:=(ms.getD i 0).testBit j
theorem maskOf_bit {acc:List Nat} {o:Oper} {j:Nat} (h:(maskOf acc o).testBit j=true):∃ e∈o.after,Region.binds .any e=true/\e.on<acc.length/\(e.on=j\/(acc.getD e.on 0).testBit j=true):=by
 have key:∀ (l:List Edge) (m:Nat),(l.foldl (fun m e=>if Region.binds .any e&&decide (e.on<acc.length) then (m ||| (1 <<< e.on)) ||| acc.getD e.on 0 else m) m).testBit j=true ->
   m.testBit j=true\/∃ e∈l,Region.binds .any e=true/\e.on<acc.length/\(e.on=j\/(acc.getD e.on 0).testBit j=true):=by
  intro l
  induction l with
  |nil=>intro m h;exact .inl h
  |cons e l ih=>
   intro m h
   rw[List.foldl_cons] at h
   rcases ih _ h with h|⟨e',h1,h2⟩
   ·split at h
    ·rename_i hc
     simp only[Bool.and_eq_true,decide_eq_true_eq] at hc
     simp only[Nat.testBit_or,Bool.or_eq_true] at h
     rcases h with (h|h)|h
     ·exact .inl h
     ·refine .inr ⟨e,by simp,hc.1,hc.2,.inl ?_⟩
      rw[Nat.one_shiftLeft,Nat.testBit_two_pow] at h
      simpa using h
     ·exact .inr ⟨e,by simp,hc.1,hc.2,.inr h⟩
    ·exact .inl h
   ·exact .inr ⟨e',by simp[h1],h2⟩
 rcases key _ _ h with h|⟨e,h1,h2⟩
 ·simp at h
 ·exact ⟨e,by simpa using h1,h2⟩
theorem masksGo_spec:∀ (l:List Oper) (acc:List Nat) (ops:List Oper),ops=ops.take acc.length++l->(∀ i,i<acc.length->∀ o,ops[i]?=some o->acc.getD i 0=maskOf (acc.take i) o) ->
  (masksGo l acc).length=acc.length+l.length/\∀ i o,ops[i]?=some o->(masksGo l acc).getD i 0=maskOf ((masksGo l acc).take i) o
 |[],acc,ops,h1,h2=>by
  refine ⟨by simp[masksGo],fun i o ho=>?_⟩
  have:i<acc.length:=by
   have:=(List.getElem?_eq_some_iff.1 ho).1
   rw[h1] at this;simp at this;omega
  exact h2 i this o ho
 |x::l,acc,ops,h1,h2=>by
  have hlen:acc.length<ops.length:=by have:=congrArg List.length h1;simp at this;omega
  have hx:ops[acc.length]?=some x:=by
   rw[h1,List.getElem?_append_right (by simp;omega)];simp;rw[Nat.min_eq_left (by omega)];simp
  have:=masksGo_spec l (acc++[maskOf acc x]) ops (by
   rw[List.length_append,List.length_singleton,List.take_add_one,hx];simp;exact h1) (fun i hi o ho=>by
   by_cases e:i<acc.length
   ·rw[List.take_append_of_le_length (by omega)]
    rw[List.getD_eq_getElem?_getD,List.getElem?_append_left e,<-List.getD_eq_getElem?_getD]
    exact h2 i e o ho
   ·have:i=acc.length:=by simp at hi;omega
    subst this
    rw[hx] at ho;cases ho
    simp)
  refine ⟨?_,this.2⟩
  have h3:=this.1
  simp only[masksGo];rw[h3];simp;omega
theorem wB_waits {ops:Array Oper}:∀ (i f j:Nat),i<f->wB (masksGo ops.toList []) i j=true->i<ops.size->waits ops f i j=true:=by
 intro i
 induction i using Nat.strongRecOn with
 |ind i ih=>
  intro f j hf h hi
  obtain ⟨hl,hs⟩:=masksGo_spec ops.toList [] ops.toList (by simp) (fun i hi=>by simp at hi)
  have ho:ops.toList[i]?=some ops[i]:=by simp[hi]
  unfold wB at h
  rw[hs i _ ho] at h
  obtain ⟨e,h1,h2,h3,h4⟩:=maskOf_bit h
  have hei:e.on<i:=by simp at h3;omega
  cases f with
  |zero=>omega
  |succ f=>
   simp only[waits]
   have:ops[i]?=some ops[i]:=by simp[hi]
   rw[this]
   refine Array.any_eq_true'.2 ⟨e,h1,?_⟩
   rw[h2]
   simp only[Bool.true_and,Bool.or_eq_true,beq_iff_eq]
   rcases h4 with h4|h4
   ·exact .inl h4
   ·refine .inr (ih e.on hei f j (by omega) ?_ (by omega))
    unfold wB
    rw[List.getD_eq_getElem?_getD,List.getElem?_take_of_lt hei,<-List.getD_eq_getElem?_getD] at h4
    exact h4
structure MixFacts (ops:Array Oper) (q:Nat->Bool):Prop where
 edge:∀ i o,ops[i]?=some o->∀ e∈o.after,Region.binds .any e=true->e.on<i
 look:∀ i j o p d,ops[i]?=some o->ops[j]?=some p->q i=true->p.dst=some d->d∈o.looksAt ops->q j=true/\j<i/\waits ops ops.size i j=true
 clook:∀ i j o p d,ops[i]?=some o->ops[j]?=some p->q i=false->q j=true->p.dst=some d->d∈o.looksAt ops->waits ops ops.size i j=true
 uniq:∀ i j o p d,ops[i]?=some o->ops[j]?=some p->q i=true->o.dst=some d->p.dst=some d->i=j
def mixOkW (w:Nat->Nat->Bool) (ops:Array Oper) (q:Nat->Bool):Bool:=(List.range ops.size).all fun i=>match ops[i]? with
 |some o=>o.after.all (fun e=>!Region.binds .any e||decide (e.on<i))&&(List.range ops.size).all fun j=>match ops[j]? with
  |some p=>match p.dst with
   |some d=>(!(o.looksAt ops).contains d||(if q i then q j&&decide (j<i)&&w i j else !q j||w i j))&&(!q i||o.dst != some d||i==j)
   |none=>true
  |none=>true
 |none=>true
theorem mixFacts {ops:Array Oper} {q:Nat->Bool} (h:mixOkW (wB (masksGo ops.toList [])) ops q=true):MixFacts ops q:=by
 have hw:∀ (i j:Nat) (o:Oper),ops[i]?=some o->wB (masksGo ops.toList []) i j=true->waits ops ops.size i j=true:=fun i j o ho h=>by
  have hi:=(Array.getElem?_eq_some_iff.1 ho).1
  exact wB_waits i ops.size j hi h hi
 have h1:∀ (i:Nat) (o:Oper),ops[i]?=some o->o.after.all (fun e=>!Region.binds .any e||decide (e.on<i))=true/\∀ (j:Nat) (p:Oper),ops[j]?=some p->(match p.dst with
   |some d=>(!(o.looksAt ops).contains d||(if q i then q j&&decide (j<i)&&wB (masksGo ops.toList []) i j else !q j||wB (masksGo ops.toList []) i j))&&(!q i||o.dst != some d||i==j)
   |none=>true)=true:=by
  intro i o ho
  have:=List.all_eq_true.1 h i (List.mem_range.2 (Array.getElem?_eq_some_iff.1 ho).1)
  simp only[ho,Bool.and_eq_true] at this
  refine ⟨this.1,fun j p hp=>?_⟩
  have:=List.all_eq_true.1 this.2 j (List.mem_range.2 (Array.getElem?_eq_some_iff.1 hp).1)
  simp only[hp] at this
  exact this
 have h2:∀ (i j:Nat) (o p:Oper) (d:Nat),ops[i]?=some o->ops[j]?=some p->p.dst=some d->(!(o.looksAt ops).contains d||(if q i then q j&&decide (j<i)&&wB (masksGo ops.toList []) i j else !q j||wB (masksGo ops.toList []) i j))=true/\(!q i||o.dst != some d||i==j)=true:=by
  intro i j o p d ho hp hd
  have:=(h1 i o ho).2 j p hp
  rw[hd] at this
  simpa only[Bool.and_eq_true] using this
 refine ⟨?_,?_,?_,?_⟩
 ·intro i o ho e he hb
  have:=Array.all_eq_true_iff_forall_mem.1 (h1 i o ho).1 e he
  simpa[hb] using this
 ·intro i j o p d ho hp hq hd hl
  have:=(h2 i j o p d ho hp hd).1
  rw[List.contains_iff_mem.2 hl,hq] at this
  simp only[Bool.not_true,Bool.false_or,if_true,Bool.and_eq_true,decide_eq_true_eq] at this
  exact ⟨this.1.1,this.1.2,hw _ _ _ ho this.2⟩
 ·intro i j o p d ho hp hq hqj hd hl
  have:=(h2 i j o p d ho hp hd).1
  rw[List.contains_iff_mem.2 hl,hq,hqj] at this
  exact hw _ _ _ ho (by simpa using this)
 ·intro i j o p d ho hp hq hd hd'
  have:=(h2 i j o p d ho hp hd').2
  rw[hq,hd] at this
  simpa using this
def cready (w:Nat->Nat->Bool) (ops:Array Oper) (q:Nat->Bool) (L:Array Bool):List Nat:=
 (List.range ops.size).filter fun i=>!q i&&!L.getD i false&&(List.range ops.size).all fun j=>q j||L.getD j false||!w i j
section
variable {P:Program} {G:GT} {Q:AX->AS->Prop} {s:AS}
def YldH (P:Program) (G:GT) (ops:Array Oper) (HP:HM->Prop) (tm:Nat->AV) (o:Oper):Prop:=
 (wantA ops o tm=true/\∃ v,(∀ H,HP H->VQuiet P G (AS.eval G ⟨tm,H,[]⟩) H o v)/\∀ d,o.dst=some d->tm d=v)\/(wantA ops o tm=false/\∀ d,o.dst=some d->tm d=.unit)
def VCh (P:Program) (G:GT) (ops:Array Oper) (q:Nat->Bool) (HP:Nat->HM->Prop) (N:AS->Prop):Nat->Array Bool->(Nat->Bool)->AS->Prop
 |0,L,pd,s=>(∀ i,i<ops.size->q i=false->L.getD i false=true)/\N s
 |f+1,L,pd,s=>((∀ i,i<ops.size->q i=false->L.getD i false=true)->N s)/\∀ i∈cready (wB (masksGo ops.toList [])) ops q L,∀ o,ops[i]?=some o ->
   VOp P G ops (onN N fun _ _=>False) o (fun s'=>(∀ k,(pd k&&!wB (masksGo ops.toList []) i k)=true->HP k s'.H)/\VCh P G ops q HP N f (L.setIfInBounds i true) (fun k=>pd k&&!wB (masksGo ops.toList []) i k) s') s
theorem VCh.all {ops:Array Oper} {q:Nat->Bool} {HP:Nat->HM->Prop} {N:AS->Prop} {f:Nat} {L:Array Bool} {pd:Nat->Bool} (h:VCh P G ops q HP N f L pd s) (ha:∀ i,i<ops.size->q i=false->L.getD i false=true):N s:=by
 cases f with
 |zero=>exact h.2
 |succ f=>exact h.1 ha
theorem mix_run {ops:Array Oper} {q:Nat->Bool} {HP:Nat->HM->Prop} {N:AS->Prop} (hf:MixFacts ops q):∀ (f fc:Nat) (L Lc:Array Bool) (pd:Nat->Bool) (sL sI:AS),L.size=ops.size->unl (fun i=>L.getD i false) ops.size<=f ->
  (∀ i o,ops[i]?=some o->L.getD i false=true->∀ e∈o.after,Region.binds .any e=true->L.getD e.on false=true) ->
  Lc.size=ops.size->(∀ i,q i=false->Lc.getD i false=L.getD i false)->(∀ i o,q i=true->ops[i]?=some o->L.getD i false=false->pd i=true/\HP i sI.H) ->
  VCh P G ops q HP N fc Lc pd sI->(∀ i o,q i=true->ops[i]?=some o->YldH P G ops (HP i) sI.tmps o)->sL.H=sI.H->sL.defs=sI.defs ->
  (∀ t,(∀ j o,q j=true->L.getD j false=false->ops[j]?=some o->o.dst≠some t)->sL.tmps t=sI.tmps t)->VAny P G ops (onN N fun _ _=>False) f L sL:=by
 have fin:∀ (fc:Nat) (L Lc:Array Bool) (pd:Nat->Bool) (sL sI:AS),(∀ i,i<ops.size->L.getD i false=true)->(∀ i,q i=false->Lc.getD i false=L.getD i false)->VCh P G ops q HP N fc Lc pd sI->sL.H=sI.H->sL.defs=sI.defs ->
   (∀ t,(∀ j o,q j=true->L.getD j false=false->ops[j]?=some o->o.dst≠some t)->sL.tmps t=sI.tmps t)->N sL:=by
  intro fc L Lc pd sL sI hall hc h hH hD ha
  have h:=h.all fun i hi hq=>by rw[hc i hq];exact hall i hi
  have:sL=sI:=by
   obtain ⟨t1,H1,d1⟩:=sL
   obtain ⟨t2,H2,d2⟩:=sI
   simp only at hH hD ha
   subst hH hD
   congr 1
   funext t
   refine ha t fun j o hq hl ho=>?_
   rw[hall j (Array.getElem?_eq_some_iff.1 ho).1] at hl;cases hl
  rw[this];exact h
 have rdy:∀ (L:Array Bool),L.size=ops.size->unl (fun i=>L.getD i false) ops.size≠0->Region.ready .any ops L≠[]:=by
  intro L hsz hu
  obtain ⟨i0,hi0,hl0,hb0⟩:=unl_pos ops.size hu
  have:i0∈Region.ready .any ops L:=by
   rw[mem_ready]
   refine ⟨?_,ops[i0],by simp[hi0],fun e he hb=>hb0 _ (hf.edge i0 ops[i0] (by simp[hi0]) e he hb)⟩
   have:i0<L.size:=by omega
   simpa[Array.getD_eq_getD_getElem?,Array.getElem?_eq_getElem this] using hl0
  intro e;rw[e] at this;cases this
 intro f
 induction f with
 |zero=>
  intro fc L Lc pd sL sI hsz hu hcl hLc hcc hpd h hy hH hD ha
  have hall:=unl_zero (L:=fun i=>L.getD i false) ops.size (by omega)
  refine ⟨?_,fin fc L Lc pd sL sI hall hcc h hH hD ha⟩
  cases hr:Region.ready .any ops L with
  |nil=>rfl
  |cons i l=>
   have hm:i∈Region.ready .any ops L:=by rw[hr];simp
   rw[mem_ready] at hm
   obtain ⟨hil,o,ho,_⟩:=hm
   have:=hall i (Array.getElem?_eq_some_iff.1 ho).1
   have hil':L.getD i false=false:=by
    have hi2:i<L.size:=by have:=(Array.getElem?_eq_some_iff.1 ho).1;omega
    simpa[Array.getD_eq_getD_getElem?,Array.getElem?_eq_getElem hi2] using hil
   have this':L.getD i false=true:=this
   rw[hil'] at this';cases this'
 |succ f ih=>
  intro fc L Lc pd sL sI hsz hu hcl hLc hcc hpd h hy hH hD ha
  refine ⟨fun hr=>?_,fun i hi o hio=>?_⟩
  ·by_cases hu0:unl (fun i=>L.getD i false) ops.size=0
   ·exact fin fc L Lc pd sL sI (unl_zero (L:=fun i=>L.getD i false) ops.size hu0) hcc h hH hD ha
   ·exact absurd hr (rdy L hsz hu0)
  ·rw[mem_ready] at hi
   obtain ⟨hil,o',hio',hie⟩:=hi
   obtain rfl:o'=o:=by rw[hio] at hio';exact (Option.some.inj hio').symm
   have his:i<ops.size:=(Array.getElem?_eq_some_iff.1 hio).1
   have hil':L.getD i false=false:=by
    have hi2:i<L.size:=by omega
    simpa[Array.getD_eq_getD_getElem?,Array.getElem?_eq_getElem hi2] using hil
   have wl:∀ j,waits ops ops.size i j=true->L.getD j false=true:=fun j hj=>
    waits_listed hcl _ i j hj fun o2 ho2=>by rw[hio] at ho2;cases ho2;exact hie
   have hset:∀ j,j≠i->(L.setIfInBounds i true).getD j false=L.getD j false:=fun j hj=>getD_set_ne false (Ne.symm hj)
   have hseti:(L.setIfInBounds i true).getD i false=true:=by
    have:i<L.size:=by omega
    simp[this]
   have hunl:unl (fun j=>(L.setIfInBounds i true).getD j false) ops.size<=f:=by
    have:=unl_set (L:=fun j=>L.getD j false) (L':=fun j=>(L.setIfInBounds i true).getD j false) hil' hseti hset ops.size his
    omega
   have hcl':∀ j p,ops[j]?=some p->(L.setIfInBounds i true).getD j false=true->∀ e∈p.after,Region.binds .any e=true->(L.setIfInBounds i true).getD e.on false=true:=by
    intro j p hp hj e he hb
    by_cases hji:j=i
    ·subst hji
     rw[hio] at hp;cases hp
     exact getD_set_true (hie e he hb)
    ·rw[hset j hji] at hj
     exact getD_set_true (hcl j p hp hj e he hb)
   have agr:∀ t∈o'.looksAt ops,sL.tmps t=sI.tmps t:=by
    intro t ht
    refine ha t fun j p hqj hlj hpj hdt=>?_
    have hw:waits ops ops.size i j=true:=by
     cases hq:q i with
     |true=>exact (hf.look i j o' p t hio hpj hq hdt ht).2.2
     |false=>exact hf.clook i j o' p t hio hpj hq hqj hdt ht
    rw[wl j hw] at hlj;cases hlj
   cases hq:q i with
   |true=>
    have next:∀ v,(∀ d,o'.dst=some d->sI.tmps d=v)->VAny P G ops (onN N fun _ _=>False) f (L.setIfInBounds i true) (sL.put o'.dst v sL.H):=by
     intro v hv
     refine ih fc _ Lc pd _ sI (by simp[hsz]) hunl hcl' hLc ?_ ?_ h hy hH hD ?_
     ·intro k hk
      have:k≠i:=by rintro rfl;rw[hq] at hk;cases hk
      rw[hset k this];exact hcc k hk
     ·intro k p hk hp hl
      by_cases hki:k=i
      ·subst hki;rw[hseti] at hl;cases hl
      ·rw[hset k hki] at hl;exact hpd k p hk hp hl
     ·intro t ht
      by_cases hd:o'.dst=some t
      ·rw[hd,M13,hv t hd]
      ·rw[X11 hd]
       refine ha t fun j p hqj hlj hpj=>?_
       by_cases hji:j=i
       ·subst hji;rw[hio] at hpj;cases hpj;exact hd
       ·exact ht j p hqj (by rw[hset j hji];exact hlj) hpj
    unfold VOp
    rw[W12 agr]
    rcases hy i o' hq hio with ⟨hw,v,hv,hd⟩|⟨hw,hd⟩
    ·rw[if_pos hw]
     have hv':VQuiet P G (sL.eval G) sL.H o' v:=VQuiet.congr (s:=⟨sI.tmps,sL.H,[]⟩) (s':=sL) (hv sL.H (by rw[hH];exact (hpd i o' hq hio hil').2)) agr
     exact hv' _ (next v hd)
    ·rw[hw]
     exact next _ hd
   |false=>
    have hcr:i∈cready (wB (masksGo ops.toList [])) ops q Lc:=by
     refine List.mem_filter.2 ⟨List.mem_range.2 his,?_⟩
     simp only[hq,hcc i hq,hil',Bool.not_false,Bool.true_and,Bool.and_true]
     refine List.all_eq_true.2 fun j hj=>?_
     cases hqj:q j with
     |true=>rfl
     |false=>
      cases hwj:wB (masksGo ops.toList []) i j with
      |false=>simp
      |true=>rw[hcc j hqj,wl j (wB_waits i ops.size j his hwj his)];simp
    cases fc with
    |zero=>
     have:=h.1 i his hq
     rw[hcc i hq,hil'] at this;cases this
    |succ fc=>
    have h2:=h.2 i hcr o' hio
    have hsetc:∀ j,j≠i->(Lc.setIfInBounds i true).getD j false=Lc.getD j false:=fun j hj=>getD_set_ne false (Ne.symm hj)
    have hsetci:(Lc.setIfInBounds i true).getD i false=true:=by
     have:i<Lc.size:=by omega
     simp[this]
    have next:∀ v H',((∀ k,(pd k&&!wB (masksGo ops.toList []) i k)=true->HP k (sI.put o'.dst v H').H)/\VCh P G ops q HP N fc (Lc.setIfInBounds i true) (fun k=>pd k&&!wB (masksGo ops.toList []) i k) (sI.put o'.dst v H'))->VAny P G ops (onN N fun _ _=>False) f (L.setIfInBounds i true) (sL.put o'.dst v H'):=by
     rintro v H' ⟨hhp,h'⟩
     refine ih fc _ _ _ _ (sI.put o'.dst v H') (by simp[hsz]) hunl hcl' (by simp[hLc]) ?_ ?_ h' ?_ rfl hD ?_
     ·intro k hk
      by_cases hki:k=i
      ·subst hki;rw[hseti,hsetci]
      ·rw[hset k hki,hsetc k hki];exact hcc k hk
     ·intro k p hk hp hl
      have hki:k≠i:=by rintro rfl;rw[hq] at hk;cases hk
      rw[hset k hki] at hl
      have hnw:wB (masksGo ops.toList []) i k=false:=by
       cases hwk:wB (masksGo ops.toList []) i k with
       |false=>rfl
       |true=>rw[wl k (wB_waits i ops.size k his hwk his)] at hl;cases hl
      have hpk:(pd k&&!wB (masksGo ops.toList []) i k)=true:=by rw[(hpd k p hk hp hl).1,hnw];rfl
      exact ⟨hpk,hhp k hpk⟩
     ·intro j p hqj hpj
      have hlk:∀ t∈p.looksAt ops,(sI.put o'.dst v H').tmps t=sI.tmps t:=fun t ht=>X11 fun e=>by
       have:=(hf.look j i p o' t hpj hio hqj e ht).1
       rw[hq] at this;cases this
      have hds:∀ d,p.dst=some d->(sI.put o'.dst v H').tmps d=sI.tmps d:=fun d hd=>X11 fun e=>by
       have:=hf.uniq j i p o' d hpj hio hqj hd e
       subst this;rw[hq] at hqj;cases hqj
      rcases hy j p hqj hpj with ⟨hw,u,hu,hd⟩|⟨hw,hd⟩
      ·exact .inl ⟨by rw[W12 hlk];exact hw,u,fun H hH0=>VQuiet.congr (s:=⟨sI.tmps,H,[]⟩) (s':=⟨(sI.put o'.dst v H').tmps,H,[]⟩) (hu H hH0) hlk,fun d e=>by rw[hds d e];exact hd d e⟩
      ·exact .inr ⟨by rw[W12 hlk];exact hw,fun d e=>by rw[hds d e];exact hd d e⟩
     ·intro t ht
      by_cases hd:o'.dst=some t
      ·rw[hd,M13,M13]
      ·rw[X11 hd,X11 hd]
       refine ha t fun j p hqj hlj hpj=>ht j p hqj ?_ hpj
       have:j≠i:=by rintro rfl;rw[hq] at hqj;cases hqj
       rw[hset j this];exact hlj
    unfold VOp at h2 ⊢
    rw[W12 agr]
    split
    ·rename_i hw
     rw[if_pos hw] at h2
     rw[hH]
     refine VX.mono (VX.congr h2 fun x hx=>?_) fun x H' hx=>?_
     ·cases x with
      |tmp t=>exact agr t (List.mem_append_left _ (List.mem_filterMap.2 ⟨.tmp t,by simpa using hx,rfl⟩))
      |_=>rfl
     ·cases x with
      |ret v=>exact next v H' hx
      |pan v=>exact hx.elim
    ·rename_i hw
     rw[if_neg hw] at h2
     rw[hH];exact next _ _ h2
end
def headOkW (w:Nat->Nat->Bool) (ops:Array Oper) (k:Nat):Bool:=
 decide (k<=ops.size) &&
 (List.range k).all (fun i=>match ops[i]? with
  |some o=>o.after.all (fun e=>!Region.binds .any e||decide (e.on<i)) &&
   (List.range k).all (fun j=>match ops[j]? with
    |some p=>match p.dst with
     |some d=>(!(o.looksAt ops).contains d||(decide (j<i)&&w i j))&&(i==j||o.dst != some d)
     |none=>true
    |none=>true)
  |none=>false) &&
 (List.range ops.size).all (fun i=>decide (i<k)||(List.range k).all (fun j=>w i j))
theorem headOkW_ok {ops:Array Oper} {k:Nat} (h:headOkW (wB (masksGo ops.toList [])) ops k=true):headOk ops k=true:=by
 have hw:∀ i j,i<ops.size->wB (masksGo ops.toList []) i j=true->waits ops ops.size i j=true:=fun i j hi h=>wB_waits i ops.size j hi h hi
 unfold headOkW at h
 unfold headOk
 simp only[Bool.and_eq_true] at h ⊢
 obtain ⟨⟨h1,h2⟩,h3⟩:=h
 refine ⟨⟨h1,List.all_eq_true.2 fun i hi=>?_⟩,List.all_eq_true.2 fun i hi=>?_⟩
 ·have h4:=List.all_eq_true.1 h2 i hi
  cases ho:ops[i]? with
  |none=>rw[ho] at h4;cases h4
  |some o=>
   have hi':i<ops.size:=(Array.getElem?_eq_some_iff.1 ho).1
   rw[ho] at h4
   simp only[Bool.and_eq_true] at h4 ⊢
   refine ⟨h4.1,List.all_eq_true.2 fun j hj=>?_⟩
   have h5:=List.all_eq_true.1 h4.2 j hj
   cases hp:ops[j]? with
   |none=>rfl
   |some p=>
    rw[hp] at h5
    simp only at h5 ⊢
    cases hd:p.dst with
    |none=>rfl
    |some d=>
     rw[hd] at h5
     simp only[Bool.and_eq_true,Bool.or_eq_true] at h5 ⊢
     exact ⟨h5.1.imp id fun h6=>⟨h6.1,hw _ _ hi' h6.2⟩,h5.2⟩
 ·have h4:=List.all_eq_true.1 h3 i hi
  simp only[Bool.or_eq_true] at h4 ⊢
  refine h4.imp id fun h5=>List.all_eq_true.2 fun j hj=>hw _ _ (List.mem_range.1 hi) (List.all_eq_true.1 h5 j hj)
end Go.V
