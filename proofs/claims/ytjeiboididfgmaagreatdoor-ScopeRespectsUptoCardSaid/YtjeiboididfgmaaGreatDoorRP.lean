/- Renaming at a slot: what it keeps, plain. No condition. subst.in's slots: what holds of them, plain. No condition. Expressions without names: trees with numbers for bound occurrences. No condition. Substitution on trees without names. No condition. What subst.in makes, as a tree: plain. No condition. The program's scope: subst.in. No condition. What scope.Subst returns: plain. No condition. What the laws of Subst say: plain. No condition. -/
import Derived.Test.YtjeiboididfgmaaGreatDoorRO
import Derived.Test.YtjeiboididfgmaaGreatDoorRL
import Derived.Test.YtjeiboididfgmaaGreatDoorRJ
import Derived.Test.YtjeiboididfgmaaGreatDoorRM
set_option linter.unusedVariables false
set_option linter.unusedSimpArgs false
set_option linter.defProp false
set_option maxRecDepth 100000
namespace Go.V
open Go Go.Proofs.Tryz
theorem arms_lens:∀ {l m:List Ar},eqArms l m=true->(l.map fun x=>x.names.length)=m.map fun x=>x.names.length
 |[],[],_=>rfl
 |[],_::_,h=>by cases h
 |_::_,[],h=>by cases h
 |x::l,y::m,h=>by
  have h':(armF x y&&eqArms l m)=true:=h
  simp only[Bool.and_eq_true,armF,decide_eq_true_eq] at h'
  rw[List.map_cons,List.map_cons,arms_lens h'.2]
  congr 1;omega
theorem like_map {a b:Ex} (hl:Like a b) {f:Ex->Nat} (h:∀ (i:Nat) (x y:Ex),a.parts[i]?=some x->b.parts[i]?=some y->f x=f y):a.parts.map f=b.parts.map f:=by
 refine List.ext_getElem? fun i=>?_
 rw[List.getElem?_map,List.getElem?_map]
 by_cases hi:i<a.parts.length
 ·have hib:i<b.parts.length:=by rw[<-hl.parts];exact hi
  have hx:=List.getElem?_eq_getElem hi
  have hy:=List.getElem?_eq_getElem hib
  rw[hx,hy]
  show some (f _)=some (f _)
  rw[h i _ _ hx hy]
 ·rw[List.getElem?_eq_none (by omega),List.getElem?_eq_none (by rw[<-hl.parts];omega)]
structure Kept (a b:Ex):Prop where
 ok:checked b=0
 fit:Fit b
 nodes:b.nodes=a.nodes
 wid:b.wid=a.wid
theorem Kept.okk {a b:Ex} (h:Kept a b) (ha:Okk a):Okk b:=⟨h.fit,h.ok,by rw[h.nodes];exact ha.2.2.1,by rw[h.wid];exact ha.2.2.2⟩
theorem Okk.kept {a:Ex} (h:Okk a):Kept a a:=⟨h.2.1,h.1,rfl,rfl⟩
theorem Kept.trans {a b c:Ex} (h:Kept a b) (g:Kept b c):Kept a c:=⟨g.ok,g.fit,g.nodes.trans h.nodes,g.wid.trans h.wid⟩
theorem kept_of {a b:Ex} (hl:Like a b) (hn:nodeErr b=0/\fit1 b) (h:∀ (i:Nat) (x y:Ex),a.parts[i]?=some x->b.parts[i]?=some y->Kept x y):Kept a b:=by
 have hm:∀ y∈b.parts,checked y=0/\Fit y:=fun y hy=>by
  obtain ⟨i,hi,rfl⟩:=List.getElem_of_mem hy
  have:=h i _ _ (List.getElem?_eq_getElem (by rw[hl.parts];exact hi)) (List.getElem?_eq_getElem hi)
  exact ⟨this.ok,this.fit⟩
 refine ⟨(M11 b).2 ⟨hn.1,fun y hy=>(hm y hy).1⟩,(Fit.eq b).2 ⟨hn.2,fun y hy=>(hm y hy).2⟩,?_,?_⟩
 ·rw[Ex.nodes_eq,Ex.nodes_eq,like_map hl fun i x y hx hy=>(h i x y hx hy).nodes.symm]
 ·rw[Ex.wid_eq,Ex.wid_eq,like_map hl fun i x y hx hy=>(h i x y hx hy).wid.symm,arms_lens hl.arm,hl.names]
theorem node_with {e:Ex} {ls:List Ex} (h:ls.length=e.parts.length) (hn:nodeErr e=0) (hf:fit1 e):nodeErr (withP e ls)=0/\fit1 (withP e ls):=by
 refine like_node (like_with h) hn hf (fun q=>?_) (by rw[ownN_with];exact node_own hn) fun y hy=>?_
 ·rw[occ_with] at q
  show isVar e.s=true
  rw[<-occ_s q];exact occ_var hn q
 ·obtain ⟨x,hx,hq⟩:=arm_with hy
  rw[hq];exact M12 hn x hx
theorem like_rename (a b:ByteArray) (h:Bool) (e:Ex):Like e (renameF a b h e):=by
 rw[renameF_eq]
 exact (like_occR a b h e).trans (like_with (by rw[List.length_mapIdx,J13]))
theorem rename_parts (a b:ByteArray) (h:Bool) (e:Ex):(renameF a b h e).parts=e.parts.mapIdx fun i p=>if inside e h a i then p else renameF a b h p:=by
 rw[renameF_eq,withP_parts (by rw[List.length_mapIdx,J13])]
theorem rename_kept {a b:ByteArray} {h:Bool} (hb:isVar b=true) (e:Ex):checked e=0->Fit e->Kept e (renameF a b h e):=by
 induction e using Ex.ind with
 |step e ih=>
  intro hc hf
  obtain ⟨hn,hp⟩:=(M11 e).1 hc
  obtain ⟨n1,n2⟩:=node_occR (a:=a) (b:=b) (h:=h) hn hf.one hb
  refine kept_of (like_rename a b h e) ?_ fun i x y hx hy=>?_
  ·rw[renameF_eq]
   exact node_with (by rw[List.length_mapIdx,J13]) n1 n2
  ·rw[rename_parts,List.getElem?_mapIdx,hx] at hy
   have hm:=List.mem_of_getElem? hx
   simp only[Option.map_some,Option.some.injEq] at hy
   rw[<-hy]
   split
   ·exact ⟨hp x hm,hf.part hm,rfl,rfl⟩
   ·exact ih x hm (hp x hm) (hf.part hm)
theorem slotsA_mem {g:Slo}:∀ {xs:List Ar} {j:Nat},g∈slotsA j xs->∃ (k:Nat) (x:Ar),xs[k]?=some x/\g.1=some (j+k)/\g.2.1<x.names.length/\g.2.2=false
 |[],_,h=>by cases h
 |x::xs,j,h=>by
  rcases List.mem_append.1 h with h|h
  ·obtain ⟨i,hi,rfl⟩:=List.mem_map.1 h
   exact ⟨0,x,rfl,rfl,List.mem_range.1 hi,rfl⟩
  ·obtain ⟨k,y,h1,h2,h3,h4⟩:=slotsA_mem h
   exact ⟨k+1,y,by simpa using h1,by rw[h2];congr 1;omega,h3,h4⟩
theorem K13 {e:Ex} {g:Slo} (h:g∈slotsL e):(g.1=none/\g.2.1<ownC e/\g.2.2=decide (e.k=15))\/∃ (k:Nat) (x:Ar),g.1=some k/\e.arms[k]?=some x/\g.2.1<x.names.length/\g.2.2=false:=by
 rcases List.mem_append.1 h with h|h
 ·obtain ⟨i,hi,rfl⟩:=List.mem_map.1 h
  exact .inl ⟨rfl,List.mem_range.1 hi,rfl⟩
 ·obtain ⟨k,y,h1,h2,h3,h4⟩:=slotsA_mem h
  exact .inr ⟨k,y,by rw[h2,Nat.zero_add],h1,h3,h4⟩
theorem ownC_le {e:Ex} (hn:nodeErr e=0):ownC e<=e.names.length:=by
 unfold ownC
 split
 ·exact one_name hn (.inr (.inr ‹_›))
 ·exact Nat.le_refl _
theorem slot_ok {e:Ex} (hn:nodeErr e=0) {g:Slo} (h:g∈slotsL e):slotOk e g:=by
 obtain ⟨j,i,q⟩:=g
 rcases K13 h with ⟨h1,h2,h3⟩|⟨k,x,h1,h2,h3,h4⟩
 ·have h1:j=none:=h1
  subst h1
  exact ⟨Nat.lt_of_lt_of_le h2 (ownC_le hn),fun k hk=>by cases hk⟩
 ·have h1:j=some k:=h1
  subst h1
  have hk:=(List.getElem?_eq_some_iff.1 h2).1
  refine ⟨?_,fun k' hk'=>by cases hk';exact hk⟩
  show i<(e.arms.getD k zAr).names.length
  rw[List.getD_eq_getElem?_getD,h2];exact h3
theorem slots_like {a b:Ex} (hl:Like a b):slotsL a=slotsL b:=by
 have h1:ownC a=ownC b:=by unfold ownC;rw[hl.k,hl.names]
 have h2:∀ (l m:List Ar) (j:Nat),eqArms l m=true->slotsA j l=slotsA j m:=fun l=>by
  induction l with
  |nil=>intro m j h;cases m with|nil=>rfl|cons=>cases h
  |cons x l ih=>
   intro m j h
   cases m with
   |nil=>cases h
   |cons y m=>
    have h':(armF x y&&eqArms l m)=true:=h
    simp only[Bool.and_eq_true,armF,decide_eq_true_eq] at h'
    rw[slotsA,slotsA,ih m (j+1) h'.2,show x.names.length=y.names.length by omega]
 unfold slotsL
 rw[h1,hl.k,h2 _ _ 0 hl.arm]
def grpN (e:Ex):Option Nat->List ByteArray
 |none=>ownN e
 |some k=>(e.arms.getD k zAr).names
theorem grp_at {e:Ex} (hn:nodeErr e=0) {g:Slo} (h:g∈slotsL e):(grpN e g.1)[g.2.1]?=some (nameAt e g)/\distinct (grpN e g.1)=0:=by
 obtain ⟨j,i,q⟩:=g
 have hok:=slot_ok hn h
 rcases K13 h with ⟨h1,h2,h3⟩|⟨k,x,h1,h2,h3,h4⟩
 ·have h1:j=none:=h1
  subst h1
  refine ⟨?_,node_own hn⟩
  have hi:i<e.names.length:=hok.1
  have hi2:i<ownC e:=h2
  show (ownN e)[i]?=some (e.names.getD i emp)
  rw[getD_at hi]
  unfold ownN ownC at *
  split
  ·rename_i h17
   rw[if_pos h17] at hi2
   rw[List.getElem?_take_of_lt (by omega),List.getElem?_eq_getElem hi]
  ·exact List.getElem?_eq_getElem hi
 ·have h1:j=some k:=h1
  subst h1
  have hg:e.arms.getD k zAr=x:=by rw[List.getD_eq_getElem?_getD,h2];rfl
  refine ⟨?_,?_⟩
  ·show (e.arms.getD k zAr).names[i]?=some ((e.arms.getD k zAr).names.getD i emp)
   rw[hg,getD_at h3]
   exact List.getElem?_eq_getElem h3
  ·show distinct (e.arms.getD k zAr).names=0
   rw[hg];exact M12 hn x (List.mem_of_getElem? h2)
theorem nameAt_var {e:Ex} (hn:nodeErr e=0) {g:Slo} (h:g∈slotsL e):isVar (nameAt e g)=true:=by
 obtain ⟨h1,h2⟩:=grp_at hn h
 exact ((K11 _).1 h2).1 _ (List.mem_of_getElem? h1)
theorem nodup_set:∀ {l:List ByteArray} {i:Nat} {s:ByteArray},l.Nodup->s∉l->(l.set i s).Nodup
 |[],_,_,h,_=>h
 |x::l,0,s,h,hn=>by
  rw[List.nodup_cons] at h
  rw[List.set_cons_zero,List.nodup_cons]
  exact ⟨fun q=>hn (by simp[q]),h.2⟩
 |x::l,i+1,s,h,hn=>by
  rw[List.nodup_cons] at h
  rw[List.set_cons_succ,List.nodup_cons]
  refine ⟨fun q=>?_,nodup_set h.2 fun q=>hn (by simp[q])⟩
  rcases List.mem_or_eq_of_mem_set q with h1|h1
  ·exact h.1 h1
  ·exact hn (by simp[h1])
theorem distinct_set {l:List ByteArray} {i:Nat} {s:ByteArray} (h:distinct l=0) (hs:isVar s=true) (hn:s∉l):distinct (l.set i s)=0:=by
 rw[K11] at h ⊢
 refine ⟨fun x hx=>?_,nodup_set h.2 hn⟩
 rcases List.mem_or_eq_of_mem_set hx with h1|h1
 ·exact h.1 x h1
 ·rw[h1];exact hs
theorem setAt_parts (e:Ex) (g:Slo) (s:ByteArray) (hg:slotOk e g):(setAt e g s).parts=e.parts:=by
 obtain ⟨j,i,q⟩:=g
 cases j with
 |none=>rfl
 |some k=>
  have hk:=hg.2 k rfl
  show e.l++(e.arms.set k _).map Ar.body=e.l++e.arms.map Ar.body
  rw[List.map_set]
  congr 1
  show (e.arms.map Ar.body).set k (e.arms.getD k zAr).body=_
  rw[getD_at hk]
  have:(e.arms.map Ar.body)[k]'(by simpa using hk)=e.arms[k].body:=by simp
  rw[<-this,List.set_getElem_self]
theorem setAt_occ (e:Ex) (g:Slo) (s:ByteArray):occ (setAt e g s)=occ e:=by
 obtain ⟨j,i,q⟩:=g
 cases j<;>rfl
theorem setAt_like {e:Ex} (hn:nodeErr e=0) {g:Slo} (s:ByteArray) (h:g∈slotsL e):Like e (setAt e g s):=by
 obtain ⟨j,i,q⟩:=g
 have hok:=slot_ok hn h
 rcases K13 h with ⟨h1,h2,h3⟩|⟨k,x,h1,h2,h3,h4⟩
 ·have h1:j=none:=h1
  subst h1
  refine ⟨rfl,rfl,rfl,(List.length_set ..).symm,rfl,rfl,fun _=>rfl,fun h17=>?_,eqArms_refl _⟩
  have hi:i<ownC e:=h2
  unfold ownC at hi
  rw[if_pos h17] at hi
  have:i=0:=by omega
  subst this
  show e.names.drop 1=(e.names.set 0 s).drop 1
  cases e.names<;>rfl
 ·have h1:j=some k:=h1
  subst h1
  have hk:=hok.2 k rfl
  refine ⟨rfl,rfl,rfl,rfl,rfl,(List.length_set ..).symm,fun _=>rfl,fun _=>rfl,?_⟩
  refine eqArms_of (List.length_set ..).symm fun m y z hy hz=>?_
  have hz:(e.arms.set k _)[m]?=some z:=hz
  rw[List.getElem?_set] at hz
  by_cases q:k=m
  ·subst q
   rw[if_pos rfl,if_pos hk] at hz
   cases hz
   have:e.arms.getD k zAr=y:=by rw[List.getD_eq_getElem?_getD,hy];rfl
   rw[this]
   exact ⟨rfl,(List.length_set ..).symm⟩
  ·rw[if_neg q,hy] at hz
   cases hz;exact ⟨rfl,rfl⟩
theorem setAt_node {e:Ex} (hn:nodeErr e=0) (hf:fit1 e) {g:Slo} {s:ByteArray} (h:g∈slotsL e) (hs:isVar s=true) (hns:s∉grpN e g.1):nodeErr (setAt e g s)=0/\fit1 (setAt e g s):=by
 have hl:=setAt_like hn s h
 obtain ⟨j,i,q⟩:=g
 have hok:=slot_ok hn h
 obtain ⟨_,hd⟩:=grp_at hn h
 refine like_node hl hn hf (fun hq=>?_) ?_ fun y hy=>?_
 ·rw[setAt_occ] at hq
  have:(setAt e (j,i,q) s).s=e.s:=by cases j<;>rfl
  rw[this,<-occ_s hq];exact occ_var hn hq
 ·rcases K13 h with ⟨h1,h2,h3⟩|⟨k,x,h1,h2,h3,h4⟩
  ·have h1:j=none:=h1
   subst h1
   have:ownN (setAt e (none,i,q) s)=(ownN e).set i s:=by
    unfold ownN
    show (if e.k=17 then (e.names.set i s).take 1 else e.names.set i s)=_
    split
    ·rw[List.take_set]
    ·rfl
   rw[this]
   exact distinct_set hd hs hns
  ·have h1:j=some k:=h1
   subst h1
   have:ownN (setAt e (some k,i,q) s)=ownN e:=rfl
   rw[this]
   exact node_own hn
 ·cases j with
  |none=>exact M12 hn y hy
  |some k=>
   have hk:=hok.2 k rfl
   have hy:y∈e.arms.set k _:=hy
   rcases List.mem_or_eq_of_mem_set hy with h1|h1
   ·exact M12 hn y h1
   ·rw[h1]
    exact distinct_set hd hs hns
theorem slots_with {e:Ex} {ls:List Ex} (h:ls.length=e.parts.length):slotsL (withP e ls)=slotsL e:=(slots_like (like_with h)).symm
theorem grp_with {e:Ex} {ls:List Ex} (j:Option Nat):grpN (withP e ls) j=grpN e j:=by
 cases j with
 |none=>rfl
 |some k=>
  show ((withP e ls).arms.getD k zAr).names=(e.arms.getD k zAr).names
  rw[List.getD_eq_getElem?_getD,List.getD_eq_getElem?_getD,withP_arm]
  cases e.arms[k]?<;>rfl
theorem like_renamed {e:Ex} (hn:nodeErr e=0) (hf:fit1 e) {g:Slo} (s:ByteArray) (h:g∈slotsL e):Like e (renamedF e g s):=by
 have hl:=renL_len e g s
 exact (like_with hl).trans (setAt_like (node_with hl hn hf).1 s (by rw[slots_with hl];exact h))
theorem L13 {e:Ex} (hn:nodeErr e=0) (hf:fit1 e) {g:Slo} (s:ByteArray) (h:g∈slotsL e):(renamedF e g s).parts=renL e g s:=by
 have hl:=renL_len e g s
 have h':g∈slotsL (withP e (renL e g s)):=by rw[slots_with hl];exact h
 unfold renamedF
 rw[setAt_parts _ _ _ (slot_ok (node_with hl hn hf).1 h'),withP_parts hl]
theorem renamed_kept {e:Ex} (hc:checked e=0) (hf:Fit e) {g:Slo} {s:ByteArray} (h:g∈slotsL e) (hs:isVar s=true) (hns:s∉grpN e g.1):Kept e (renamedF e g s):=by
 obtain ⟨hn,hp⟩:=(M11 e).1 hc
 have hl:=renL_len e g s
 obtain ⟨n1,n2⟩:=node_with hl hn hf.one
 refine kept_of (like_renamed hn hf.one s h) (setAt_node n1 n2 (by rw[slots_with hl];exact h) hs (by rw[grp_with];exact hns)) fun i x y hx hy=>?_
 rw[L13 hn hf.one s h] at hy
 unfold renL at hy
 rw[List.getElem?_mapIdx,hx] at hy
 have hm:=List.mem_of_getElem? hx
 simp only[Option.map_some,Option.some.injEq] at hy
 rw[<-hy]
 split
 ·exact rename_kept hs x (hp x hm) (hf.part hm)
 ·exact ⟨hp x hm,hf.part hm,rfl,rfl⟩
theorem slots_len (e:Ex) (hn:nodeErr e=0):(slotsL e).length<=e.wid:=by
 have h1:=ownC_le hn
 rw[Ex.wid_eq]
 unfold slotsL
 rw[List.length_append,List.length_map,List.length_range,slotsA_len];omega
theorem own1_k {a b:Ex} (h:a.k=b.k) (i:Nat):own1 a i=own1 b i:=by unfold own1;rw[h]
theorem setAt_l (e:Ex) (g:Slo) (s:ByteArray):(setAt e g s).l=e.l:=by
 obtain ⟨j,i,q⟩:=g
 cases j<;>rfl
theorem fr_setAt {e:Ex} (hn:nodeErr e=0) {g:Slo} (h:g∈slotsL e) (s:ByteArray) (i:Nat) (q:Bool) :
  selN q (fr (setAt e g s) i)=if place e g.1 i=true/\q=g.2.2 then (selN q (fr e i)).set g.2.1 s else selN q (fr e i):=by
 obtain ⟨j,m,hh⟩:=g
 have hok:=slot_ok hn h
 have hll:=setAt_l e (j,m,hh) s
 rcases K13 h with ⟨h1,h2,h3⟩|⟨k,x,h1,h2,h3,h4⟩
 ·have h1:j=none:=h1
  subst h1
  have h3:hh=decide (e.k=15):=h3
  show _=if decide (i<e.l.length)=true/\q=hh then _ else _
  by_cases hi:i<e.l.length
  ·rw[fr_left hi,fr_left (by rw[hll];exact hi)]
   cases q with
   |true=>
    show ownH (setAt e (none,m,hh) s) i=if _ then (ownH e i).set m s else ownH e i
    unfold ownH
    show (if e.k=15 then e.names.set m s else [])=_
    by_cases hk:e.k=15
    ·rw[if_pos hk,if_pos hk,if_pos ⟨decide_eq_true hi,by rw[h3,decide_eq_true hk]⟩]
    ·rw[if_neg hk,if_neg hk]
     split<;>rfl
   |false=>
    show ownV (setAt e (none,m,hh) s) i=if _ then (ownV e i).set m s else ownV e i
    by_cases hk:e.k=15
    ·rw[if_neg (fun q=>by rw[h3,decide_eq_true hk] at q;cases q.2)]
     rw[(own_15 hk i).1,(own_15 (e:=setAt e (none,m,hh) s) hk i).1]
    ·rw[if_pos ⟨decide_eq_true hi,by rw[h3,decide_eq_false hk]⟩]
     unfold ownV
     rw[own1_k (show (setAt e (none,m,hh) s).k=e.k from rfl)]
     show (if own1 e i then (e.names.set m s).take 1 else if e.k=7 then (e.names.set m s).take (2-i) else [])=_
     split
     ·rw[List.take_set]
     ·split
      ·rw[List.take_set]
      ·rfl
  ·rw[if_neg (fun q=>hi (of_decide_eq_true q.1))]
   have:fr (setAt e (none,m,hh) s) i=fr e i:=by
    unfold fr vOf hOf
    rw[hll,if_neg hi,if_neg hi,if_neg hi,if_neg hi];rfl
   rw[this]
 ·have h1:j=some k:=h1
  subst h1
  have h4:hh=false:=h4
  subst h4
  have hk:=hok.2 k rfl
  have hgx:e.arms.getD k zAr=x:=by rw[List.getD_eq_getElem?_getD,h2];rfl
  show _=if decide (i=e.l.length+k)=true/\q=false then _ else _
  by_cases hi:i<e.l.length
  ·rw[if_neg (fun q=>by have:=of_decide_eq_true q.1;omega)]
   rw[fr_left hi,fr_left (by rw[hll];exact hi)];rfl
  ·cases q with
   |true=>
    rw[if_neg (fun q=>by cases q.2)]
    show hOf _ i=hOf e i
    unfold hOf
    rw[hll,if_neg hi,if_neg hi]
   |false=>
    show vOf (setAt e (some k,m,false) s) i=if _ then (vOf e i).set m s else vOf e i
    unfold vOf
    rw[hll,if_neg hi,if_neg hi]
    show (match (e.arms.set k (.mk (e.arms.getD k zAr).op ((e.arms.getD k zAr).names.set m s) (e.arms.getD k zAr).body))[i-e.l.length]? with|some a=>a.names|none=>[])=_
    rw[List.getElem?_set]
    by_cases hik:i=e.l.length+k
    ·have:k=i-e.l.length:=by omega
     rw[if_pos this,if_pos hk,if_pos ⟨decide_eq_true hik,rfl⟩,<-this,h2,hgx];rfl
    ·rw[if_neg (by omega),if_neg (fun q=>hik (of_decide_eq_true q.1))]
     cases e.arms[i-e.l.length]?<;>rfl
theorem AI_eq2 (z:ByteArray) (e:Ex):AI z e↔((occ e).2.2=true/\z=(occ e).1)\/(∃ i q,i<e.parts.length/\z∈selN q (fr e i))\/∃ p∈e.parts,AI z p:=by
 rw[AI_eq]
 refine or_congr Iff.rfl (or_congr ?_ Iff.rfl)
 constructor
 ·rintro ⟨i,hi,h|h⟩
  ·exact ⟨i,false,hi,h⟩
  ·exact ⟨i,true,hi,h⟩
 ·rintro ⟨i,q,hi,h⟩
  cases q with
  |false=>exact ⟨i,hi,.inl h⟩
  |true=>exact ⟨i,hi,.inr h⟩
theorem fr_rename (a b:ByteArray) (h:Bool) (e:Ex) (i:Nat):fr (renameF a b h e) i=fr e i:=by
 rw[renameF_eq,fr_with (by rw[List.length_mapIdx,J13]),fr_occR]
theorem occ_rename (a b:ByteArray) (h:Bool) (e:Ex):occ (renameF a b h e)=if occ e=(a,h,true) then (b,h,true) else occ e:=by
 rw[renameF_eq,occ_with]
 rcases occR_or a b h e with ⟨q,r⟩|⟨q,r⟩
 ·rw[r,if_pos q,occ_setS b (by rw[q]),q]
 ·rw[r,if_neg q]
theorem AI_rename {a b z:ByteArray} {h:Bool} (e:Ex):AI z (renameF a b h e)->AI z e\/z=b:=by
 induction e using Ex.ind with
 |step e ih=>
  intro hz
  rcases (AI_eq2 z _).1 hz with ⟨h1,h2⟩|⟨i,q,h1,h2⟩|⟨p,h1,h2⟩
  ·rw[occ_rename] at h1 h2
   split at h2
   ·exact .inr h2
   ·rename_i hne
    rw[if_neg hne] at h1
    exact .inl ((AI_eq2 z e).2 (.inl ⟨h1,h2⟩))
  ·rw[fr_rename] at h2
   rw[rename_parts,List.length_mapIdx] at h1
   exact .inl ((AI_eq2 z e).2 (.inr (.inl ⟨i,q,h1,h2⟩)))
  ·rw[rename_parts] at h1
   obtain ⟨i,hi,rfl⟩:=List.getElem_of_mem h1
   rw[List.length_mapIdx] at hi
   rw[List.getElem_mapIdx] at h2
   have hm:=List.getElem_mem hi
   split at h2
   ·exact .inl ((AI_eq2 z e).2 (.inr (.inr ⟨_,hm,h2⟩)))
   ·rcases ih _ hm h2 with q|q
    ·exact .inl ((AI_eq2 z e).2 (.inr (.inr ⟨_,hm,q⟩)))
    ·exact .inr q
theorem fr_renamed {e:Ex} (hn:nodeErr e=0) (hf:fit1 e) {g:Slo} (h:g∈slotsL e) (s:ByteArray) (i:Nat) (q:Bool) :
  selN q (fr (renamedF e g s) i)=if place e g.1 i=true/\q=g.2.2 then (selN q (fr e i)).set g.2.1 s else selN q (fr e i):=by
 have hl:=renL_len e g s
 unfold renamedF
 rw[fr_setAt (node_with hl hn hf).1 (by rw[slots_with hl];exact h),fr_with hl]
 have:place (withP e (renL e g s)) g.1 i=place e g.1 i:=by
  cases g.1 with
  |none=>show decide (i<_)=decide (i<_);rw[F13 hl]
  |some k=>show decide (i=_+k)=decide (i=_+k);rw[F13 hl]
 rw[this]
theorem occ_renamed (e:Ex) (g:Slo) (s:ByteArray):occ (renamedF e g s)=occ e:=by
 unfold renamedF;rw[setAt_occ,occ_with]
theorem AI_renamed {e:Ex} (hn:nodeErr e=0) (hf:fit1 e) {g:Slo} (h:g∈slotsL e) {s z:ByteArray} (hz:AI z (renamedF e g s)):AI z e\/z=s:=by
 rcases (AI_eq2 z _).1 hz with h1|⟨i,q,h1,h2⟩|⟨p,h1,h2⟩
 ·rw[occ_renamed] at h1
  exact .inl ((AI_eq2 z e).2 (.inl h1))
 ·rw[L13 hn hf s h,renL_len] at h1
  rw[fr_renamed hn hf h] at h2
  split at h2
  ·rcases List.mem_or_eq_of_mem_set h2 with h3|h3
   ·exact .inl ((AI_eq2 z e).2 (.inr (.inl ⟨i,q,h1,h3⟩)))
   ·exact .inr h3
  ·exact .inl ((AI_eq2 z e).2 (.inr (.inl ⟨i,q,h1,h2⟩)))
 ·rw[L13 hn hf s h] at h1
  unfold renL at h1
  obtain ⟨i,hi,rfl⟩:=List.getElem_of_mem h1
  rw[List.length_mapIdx] at hi
  rw[List.getElem_mapIdx] at h2
  have hm:=List.getElem_mem hi
  split at h2
  ·rcases AI_rename _ h2 with q|q
   ·exact .inl ((AI_eq2 z e).2 (.inr (.inr ⟨_,hm,q⟩)))
   ·exact .inr q
  ·exact .inl ((AI_eq2 z e).2 (.inr (.inr ⟨_,hm,h2⟩)))
theorem grp_AI {e:Ex} (hn:nodeErr e=0) {j:Option Nat} (hj:∀ k,j=some k->k<e.arms.length) {z:ByteArray} (hz:z∈grpN e j):AI z e:=by
 refine (AI_eq2 z e).2 (.inr (.inl ?_))
 cases j with
 |none=>
  have hz:z∈ownN e:=hz
  have:∃ q,(z,q)∈bsN e:=by
   unfold ownN at hz
   unfold bsN
   split at hz
   ·rename_i h;rw[if_pos h];exact ⟨_,List.mem_map.2 ⟨z,hz,rfl⟩⟩
   ·rename_i h;rw[if_neg h];exact ⟨_,List.mem_map.2 ⟨z,hz,rfl⟩⟩
  obtain ⟨q,hq⟩:=this
  obtain ⟨i,h1,h2⟩:=bsN_part hn hq
  exact ⟨i,q,h1,h2⟩
 |some k=>
  have hk:=hj k rfl
  have hz:z∈(e.arms.getD k zAr).names:=hz
  refine ⟨e.l.length+k,false,by rw[Z11];omega,?_⟩
  show z∈vOf e _
  unfold vOf
  rw[if_neg (by omega),Nat.add_sub_cancel_left,List.getElem?_eq_getElem hk]
  rwa [getD_at hk] at hz
abbrev St3:=Ex×Option (List ByteArray)×List ByteArray
noncomputable def toB (S:Sub) (a:St3) (g:Slo):ByteArray:=freshB (nameAt a.1 g) (a.2.1.getD (allK a.1)++(S.nm++(S.x::a.2.2)))
noncomputable def stepIn (S:Sub) (a:St3) (g:Slo):St3:=if capF S a.1 g then (renamedF a.1 g (toB S a g),some (a.2.1.getD (allK a.1)),addK a.2.2 (toB S a g)) else a
structure IS (e:Ex) (n:Nat) (a:St3):Prop where
 kept:Kept e a.1
 like:Like e a.1
 mine:(a.2.1=none/\a.1=e/\a.2.2=[])\/a.2.1=some (allK e)
 names:∀ z,AI z a.1->AI z e\/z∈a.2.2
 len:a.2.2.length<=n
theorem IS.start {e:Ex} (h:Okk e):IS e 0 (e,none,[]):=⟨h.kept,Like.refl e (eqArms_refl _),.inl ⟨rfl,rfl,rfl⟩,fun z hz=>.inl hz,Nat.zero_le _⟩
theorem IS.all {e:Ex} {n:Nat} {a:St3} (h:IS e n a):a.2.1.getD (allK a.1)=allK e:=by
 rcases h.mine with ⟨h1,h2,_⟩|h1
 ·rw[h1,h2];rfl
 ·rw[h1];rfl
structure SubOk (S:Sub):Prop where
 ok:Okk S.v
 x:isVar S.x=true
 nm:S.nm.length<=bnd
theorem IS.to {S:Sub} (hS:SubOk S) {e:Ex} (he:Okk e) {n:Nat} (hn:n<=e.wid) {a:St3} (h:IS e n a) {g:Slo} (hg:g∈slotsL e) :
  isVar (toB S a g)=true/\¬ AI (toB S a g) a.1/\toB S a g∉S.nm/\toB S a g≠S.x/\toB S a g∉grpN a.1 g.1:=by
 have hk:=h.kept.okk he
 have hga:g∈slotsL a.1:=by rw[<-slots_like h.like];exact hg
 have hbb:bnd=16777216:=rfl
 have hlen:(a.2.1.getD (allK a.1)++(S.nm++(S.x::a.2.2))).length<=100000000:=by
  have h1:=allK_len e
  have h2:=he.2.2.2
  have h3:=h.len
  have h4:=hS.nm
  rw[h.all]
  simp only[List.length_append,List.length_cons];omega
 have hno:=freshB_not (nameAt a.1 g) (a.2.1.getD (allK a.1)++(S.nm++(S.x::a.2.2)))
 have hv:=freshB_var (nameAt_var hk.node hga) hlen
 rw[h.all] at hno
 have hto:toB S a g=freshB (nameAt a.1 g) (allK e++(S.nm++(S.x::a.2.2))):=by unfold toB;rw[h.all]
 rw[h.all] at hv
 rw[<-hto] at hno hv
 simp only[List.mem_append,List.mem_cons,not_or] at hno
 have hAI:¬ AI (toB S a g) a.1:=fun q=>by
  rcases h.names _ q with q|q
  ·exact hno.1 ((allK_mem e _).2 q)
  ·exact hno.2.2.2 q
 exact ⟨hv,hAI,hno.2.1,hno.2.2.1,fun q=>hAI (grp_AI hk.node (slot_ok hk.node hga).2 q)⟩
theorem IS.step {S:Sub} (hS:SubOk S) {e:Ex} (he:Okk e) {n:Nat} (hn:n<=e.wid) {a:St3} (h:IS e n a) {g:Slo} (hg:g∈slotsL e):IS e (n+1) (stepIn S a g):=by
 unfold stepIn
 split
 ·have hk:=h.kept.okk he
  have hga:g∈slotsL a.1:=by rw[<-slots_like h.like];exact hg
  obtain ⟨h1,h2,h3,h4,h5⟩:=h.to hS he hn hg
  refine ⟨h.kept.trans (renamed_kept hk.2.1 hk.1 hga h1 h5),h.like.trans (like_renamed hk.node hk.1.one _ hga),.inr (by rw[h.all]),fun z hz=>?_,?_⟩
  ·rcases AI_renamed hk.node hk.1.one hga hz with q|q
   ·rcases h.names z q with q|q
    ·exact .inl q
    ·exact .inr ((addK_mem _ _ _).2 (.inl q))
   ·exact .inr ((addK_mem _ _ _).2 (.inr q))
  ·have:=addK_len a.2.2 (toB S a g)
   have:=h.len
   show (addK a.2.2 _).length<=_
   omega
 ·exact ⟨h.kept,h.like,h.mine,h.names,Nat.le_succ_of_le h.len⟩
noncomputable def slotSt (S:Sub) (e:Ex) (i:Nat):St3:=((slotsL e).take i).foldl (stepIn S) (e,none,[])
theorem slotSt_succ (S:Sub) {e:Ex} {i:Nat} (h:i<(slotsL e).length):slotSt S e (i+1)=stepIn S (slotSt S e i) (slotsL e)[i]:=by
 unfold slotSt
 rw[List.take_succ_eq_append_getElem h,List.foldl_append];rfl
theorem slotSt_is {S:Sub} (hS:SubOk S) {e:Ex} (he:Okk e):∀ i,i<=(slotsL e).length->IS e i (slotSt S e i)
 |0,_=>IS.start he
 |i+1,h=>by
  have hl:=slots_len e he.node
  rw[slotSt_succ S (by omega)]
  exact (slotSt_is hS he i (by omega)).step hS he (by omega) (List.getElem_mem _)
noncomputable def slotsF (S:Sub) (e:Ex):Ex:=(slotSt S e (slotsL e).length).1
inductive Rf where
 |b (i:Nat)
 |f (s:ByteArray)
def Rf.up:Rf->Rf
 |.b i=>.b (i+1)
 |.f s=>.f s
theorem up_inj {a b:Rf} (h:a.up=b.up):a=b:=by
 cases a<;>cases b<;>simp_all[Rf.up]
theorem up_ne0 (a:Rf):a.up≠.b 0:=by cases a<;>simp[Rf.up]
def res:List ByteArray->ByteArray->Rf
 |[],s=>.f s
 |x::l,s=>if x=s then .b 0 else (res l s).up
theorem res_same (a b:ByteArray):∀ (l m:List ByteArray),l.length=m.length->(sameLs l m a b=true↔res l a=res m b)
 |[],[],_=>by simp[sameLs,res]
 |[],_::_,h=>by simp at h
 |_::_,[],h=>by simp at h
 |x::l,y::m,h=>by
  have ih:=res_same a b l m (by simpa using h)
  simp only[sameLs,res]
  by_cases h1:x=a
  ·by_cases h2:y=b
   ·simp[h1,h2]
   ·rw[if_pos (.inl h1),if_pos h1,if_neg h2]
    simp[h2,Ne.symm (up_ne0 (res m b))]
  ·by_cases h2:y=b
   ·rw[if_pos (.inr h2),if_neg h1,if_pos h2]
    simp[h1,up_ne0 (res l a)]
   ·rw[if_neg (by simp[h1,h2]),if_neg h1,if_neg h2,ih]
    exact ⟨fun q=>by rw[q],up_inj⟩
theorem res_free {s:ByteArray}:∀ {l:List ByteArray},s∉l->res l s=.f s
 |[],_=>rfl
 |x::l,h=>by
  have h1:x≠s:=fun q=>h (by simp[q])
  rw[res,if_neg h1,res_free (fun q=>h (by simp[q]))];rfl
theorem res_f {s z:ByteArray}:∀ {l:List ByteArray},res l s=.f z->s=z/\s∉l
 |[],h=>by cases h;exact ⟨rfl,by simp⟩
 |x::l,h=>by
  unfold res at h
  split at h
  ·cases h
  ·rename_i h1
   have:res l s=.f z:=by
    cases q:res l s with
    |b i=>rw[q] at h;cases h
    |f w=>rw[q] at h;cases h;rfl
   obtain ⟨h2,h3⟩:=res_f this
   exact ⟨h2,by simp[h3,Ne.symm h1]⟩
theorem res_frame {z:ByteArray} {l m:List ByteArray}:∀ (F:List ByteArray),(z∉F->res l z=res m z)->res (F++l) z=res (F++m) z
 |[],h=>h (by simp)
 |x::F,h=>by
  show (if x=z then Rf.b 0 else (res (F++l) z).up)=if x=z then Rf.b 0 else (res (F++m) z).up
  by_cases q:x=z
  ·rw[if_pos q,if_pos q]
  ·rw[if_neg q,if_neg q,res_frame F fun hf=>h (by simp[hf,Ne.symm q])]
theorem res_frame2 {a b:ByteArray} {l m:List ByteArray} (h:res l a=res m b):∀ (F:List ByteArray),a∉F->b∉F->res (F++l) a=res (F++m) b
 |[],_,_=>h
 |x::F,h1,h2=>by
  show (if x=a then Rf.b 0 else (res (F++l) a).up)=if x=b then Rf.b 0 else (res (F++m) b).up
  rw[if_neg (fun q=>h1 (by simp[q])),if_neg (fun q=>h2 (by simp[q])),res_frame2 h F (fun q=>h1 (by simp[q])) (fun q=>h2 (by simp[q]))]
theorem res_swap1 {a b z:ByteArray} {l:List ByteArray} (hzb:z≠b) (hza:z≠a):∀ (F:List ByteArray),res (F++l) z=res (F.map (fun y=>if y=a then b else y)++l) z
 |[]=>rfl
 |x::F=>by
  show (if x=z then Rf.b 0 else (res (F++l) z).up)=if (if x=a then b else x)=z then Rf.b 0 else (res (F.map _++l) z).up
  rw[<-res_swap1 hzb hza F]
  by_cases hxa:x=a
  ·rw[if_pos hxa,if_neg (fun q=>hza (q.symm.trans hxa)),if_neg (fun q=>hzb q.symm)]
  ·rw[if_neg hxa]
theorem res_swap2 {a b:ByteArray} {l:List ByteArray}:∀ (F:List ByteArray),b∉F->a∈F->res (F++l) a=res (F.map (fun y=>if y=a then b else y)++l) b
 |[],_,h=>by cases h
 |x::F,hb,h=>by
  show (if x=a then Rf.b 0 else (res (F++l) a).up)=if (if x=a then b else x)=b then Rf.b 0 else (res (F.map _++l) b).up
  by_cases hxa:x=a
  ·rw[if_pos hxa,if_pos hxa,if_pos rfl]
  ·have haF:a∈F:=by
    rcases List.mem_cons.1 h with r|r
    ·exact absurd r.symm hxa
    ·exact r
   rw[if_neg hxa,if_neg hxa,if_neg (fun q=>hb (by simp[q])),res_swap2 F (fun (q:b∈F)=>hb (List.mem_cons_of_mem _ q)) haF]
theorem set_map {a s:ByteArray}:∀ {l:List ByteArray} {m:Nat},l.Nodup->l[m]?=some a->l.set m s=l.map (fun y=>if y=a then s else y)
 |[],_,_,h=>by simp at h
 |x::l,0,hn,h=>by
  simp only[List.getElem?_cons_zero,Option.some.injEq] at h
  subst h
  rw[List.nodup_cons] at hn
  rw[List.set_cons_zero,List.map_cons,if_pos rfl]
  congr 1
  have:∀ y∈l,(if y=x then s else y)=y:=fun y hy=>if_neg fun q=>hn.1 (by rw[<-q];exact hy)
  rw[List.map_congr_left this,List.map_id']
 |x::l,m+1,hn,h=>by
  rw[List.nodup_cons] at hn
  have h':l[m]?=some a:=by simpa using h
  rw[List.set_cons_succ,List.map_cons,set_map hn.2 h',if_neg (fun q=>hn.1 (by rw[q];exact List.mem_of_getElem? h'))]
structure Lab where
 k:Int
 n:Int
 t:ByteArray
 nn:Nat
 labels:List ByteArray
 s:ByteArray
 nl:Nat
 arms:List (ByteArray×Nat)
inductive DT where
 |mk (lab:Lab) (r:Option (Bool×Rf)) (ks:List DT)
mutual
def DT.para {α:Type} (f:Lab->Option (Bool×Rf)->List α->α):DT->α
 |.mk l r ks=>f l r (DT.paraL f ks)
def DT.paraL {α:Type} (f:Lab->Option (Bool×Rf)->List α->α):List DT->List α
 |[]=>[]
 |d::ds=>DT.para f d::DT.paraL f ds
end
theorem DT.paraL_map {α:Type} (f:Lab->Option (Bool×Rf)->List α->α):∀ ks:List DT,DT.paraL f ks=ks.map (DT.para f)
 |[]=>rfl
 |d::ds=>by rw[DT.paraL,DT.paraL_map f ds];rfl
theorem DT.para_mk {α:Type} (f:Lab->Option (Bool×Rf)->List α->α) (l:Lab) (r:Option (Bool×Rf)) (ks:List DT):DT.para f (.mk l r ks)=f l r (ks.map (DT.para f)):=by rw[DT.para,DT.paraL_map]
mutual
theorem DT.ind {P:DT->Prop} (h:∀ l r ks,(∀ d∈ks,P d)->P (.mk l r ks)):∀ d,P d
 |.mk l r ks=>h l r ks (DT.indL h ks)
theorem DT.indL {P:DT->Prop} (h:∀ l r ks,(∀ d∈ks,P d)->P (.mk l r ks)):∀ ks:List DT,∀ d∈ks,P d
 |[],_,hd=>by cases hd
 |k::ks,d,hd=>by
  rcases List.mem_cons.1 hd with q|q
  ·rw[q];exact DT.ind h k
  ·exact DT.indL h ks d q
end
def DT.lab:DT->Lab
 |.mk l _ _=>l
def DT.ref:DT->Option (Bool×Rf)
 |.mk _ r _=>r
def labF (e:Ex):Lab:=⟨e.k,e.n,e.t,e.names.length,if e.k=17 then e.names.drop 1 else [],if (occ e).2.2 then emp else e.s,e.l.length,e.arms.map fun x=>(x.op,x.names.length)⟩
def refF (e:Ex) (L:List Nm):Option (Bool×Rf):=if (occ e).2.2 then some ((occ e).2.1,res (env (occ e).2.1 L) (occ e).1) else none
def db:Ex->List Nm->DT:=Ex.para fun e rs L=>.mk (labF e) (refF e L) (rs.mapIdx fun i r=>r (fr e i::L))
theorem map_mapIdx {α β γ:Type} (g:α->β) (f:Nat->β->γ) (l:List α):(l.map g).mapIdx f=l.mapIdx fun i x=>f i (g x):=by
 refine List.ext_getElem? fun i=>?_
 rw[List.getElem?_mapIdx,List.getElem?_mapIdx,List.getElem?_map]
 cases l[i]?<;>rfl
theorem mapIdx_map2 {α β γ:Type} (g:β->γ) (f:Nat->α->β) (l:List α):(l.mapIdx f).map g=l.mapIdx fun i x=>g (f i x):=by
 refine List.ext_getElem? fun i=>?_
 rw[List.getElem?_map,List.getElem?_mapIdx,List.getElem?_mapIdx]
 cases l[i]?<;>rfl
theorem mapIdx_ext {α β:Type} {f g:Nat->α->β} {l:List α} (h:∀ i x,l[i]?=some x->f i x=g i x):l.mapIdx f=l.mapIdx g:=by
 refine List.ext_getElem? fun i=>?_
 rw[List.getElem?_mapIdx,List.getElem?_mapIdx]
 cases q:l[i]? with
 |none=>rfl
 |some x=>show some _=some _;rw[h i x q]
theorem db_eq (e:Ex) (L:List Nm):db e L=.mk (labF e) (refF e L) (e.parts.mapIdx fun i p=>db p (fr e i::L)):=by
 conv=>lhs;unfold db;rw[Ex.para_eq]
 show DT.mk _ _ ((e.parts.map db).mapIdx _)=_
 rw[map_mapIdx]
theorem eqArms_map:∀ {l m:List Ar},eqArms l m=true↔(l.map fun x=>(x.op,x.names.length))=m.map fun x=>(x.op,x.names.length)
 |[],[]=>by simp[eqArms]
 |[],_::_=>by simp[eqArms]
 |_::_,[]=>by simp[eqArms]
 |x::l,y::m=>by
  have e:eqArms (x::l) (y::m)=(armF x y&&eqArms l m):=rfl
  rw[e,Bool.and_eq_true,eqArms_map]
  simp only[armF,Bool.and_eq_true,decide_eq_true_eq,List.map_cons,List.cons.injEq,Prod.mk.injEq]
  constructor
  ·rintro ⟨⟨h1,h2⟩,h3⟩;exact ⟨⟨h1,by omega⟩,h3⟩
  ·rintro ⟨⟨h1,h2⟩,h3⟩;exact ⟨⟨h1,by omega⟩,h3⟩
theorem lab_like {a b:Ex}:labF a=labF b↔Like a b:=by
 constructor
 ·intro h
  unfold labF at h
  injection h with h1 h2 h3 h4 h5 h6 h7 h8
  have ho:=occ_kind h1
  refine ⟨h1,h2,h3,h4,h7,?_,fun q=>?_,fun q=>?_,eqArms_map.2 h8⟩
  ·simpa using congrArg List.length h8
  ·have q2:(occ b).2.2=false:=by rw[<-ho];exact q
   rw[if_neg (by rw[q];decide),if_neg (by rw[q2];decide)] at h6
   exact h6
  ·rw[if_pos q,if_pos (h1▸q)] at h5;exact h5
 ·intro h
  have ho:=occ_kind h.k
  unfold labF
  have e1:(if a.k=17 then a.names.drop 1 else [])=if b.k=17 then b.names.drop 1 else []:=by
   rw[<-h.k]
   split
   ·exact h.labels ‹_›
   ·rfl
  have e2:(if (occ a).2.2 then emp else a.s)=if (occ b).2.2 then emp else b.s:=by
   rw[<-ho]
   cases q:(occ a).2.2 with
   |true=>rfl
   |false=>exact h.s q
  rw[h.k,h.n,h.t,h.names,h.l,eqArms_map.1 h.arm,e2]
  rw[<-h.k] at e1 ⊢
  rw[e1]
theorem alpha_db (a:Ex):∀ (b:Ex) (L M:List Nm),Fr L M->(alphaF a b (L.zip M)=true↔db a L=db b M):=by
 induction a using Ex.ind with
 |step a ih=>
  intro b L M hf
  rw[alpha_iff,db_eq,db_eq,DT.mk.injEq,lab_like]
  refine and_congr_right fun hl=>?_
  have ho:=occ_kind hl.k
  refine and_congr ?_ ?_
  ·unfold refF
   rw[<-ho]
   cases q:(occ a).2.2 with
   |false=>simp
   |true=>
    simp only[true_implies,↓reduceIte,Option.some.injEq,Prod.mk.injEq,true_and]
    rw[same_env _ _ _ _ _ hf]
    exact res_same _ _ _ _ hf.len
  ·constructor
   ·intro h
    refine List.ext_getElem? fun i=>?_
    rw[List.getElem?_mapIdx,List.getElem?_mapIdx]
    by_cases hi:i<a.parts.length
    ·have hx:=List.getElem?_eq_getElem hi
     have hy:=List.getElem?_eq_getElem (show i<b.parts.length by rw[<-hl.parts];exact hi)
     rw[hx,hy]
     exact congrArg some ((ih _ (List.getElem_mem hi) _ _ _ (hf.cons hl i)).1 (h i _ _ hx hy))
    ·rw[List.getElem?_eq_none (by omega),List.getElem?_eq_none (by rw[<-hl.parts];omega)];rfl
   ·intro h i x y hx hy
    have:=congrArg (fun l=>l[i]?) h
    simp only[List.getElem?_mapIdx,hx,hy,Option.map_some,Option.some.injEq] at this
    exact (ih x (List.mem_of_getElem? hx) y _ _ (hf.cons hl i)).2 this
theorem FI_part {h:Bool} {z:ByteArray} {e p:Ex} {i:Nat} (hp:e.parts[i]?=some p) (hz:FI h z p) (hn:z∉selN h (fr e i)):FI h z e:=(FI_eq h z e).2 (.inr ⟨i,p,hp,hz,hn⟩)
theorem db_congr (e:Ex):∀ (L M:List Nm),(∀ h z,FI h z e->res (env h L) z=res (env h M) z)->db e L=db e M:=by
 induction e using Ex.ind with
 |step e ih=>
  intro L M h
  rw[db_eq,db_eq]
  congr 1
  ·unfold refF
   cases q:(occ e).2.2 with
   |false=>rfl
   |true=>
    rw[if_pos rfl,if_pos rfl,h _ _ ((FI_eq _ _ e).2 (.inl (by rw[<-q])))]
  ·refine mapIdx_ext fun i p hp=>ih p (List.mem_of_getElem? hp) _ _ fun q z hz=>?_
   show res ((selN q (fr e i)).reverse++env q L) z=res ((selN q (fr e i)).reverse++env q M) z
   exact res_frame _ fun hn=>h q z (FI_part hp hz (fun r=>hn (List.mem_reverse.2 r)))
theorem FI_AI {h:Bool} {z:ByteArray} (e:Ex):FI h z e->AI z e:=by
 induction e using Ex.ind with
 |step e ih=>
  intro hz
  rcases (FI_eq h z e).1 hz with q|⟨i,p,h1,h2,_⟩
  ·exact (AI_eq z e).2 (.inl (by rw[q];exact ⟨rfl,rfl⟩))
  ·have hm:=List.mem_of_getElem? h1
   exact (AI_eq z e).2 (.inr (.inr ⟨p,hm,ih p hm h2⟩))
theorem AI_part {z:ByteArray} {e p:Ex} (hp:p∈e.parts) (h:AI z p):AI z e:=(AI_eq z e).2 (.inr (.inr ⟨p,hp,h⟩))
theorem AI_fr {z:ByteArray} {e:Ex} {i:Nat} {q:Bool} (hi:i<e.parts.length) (h:z∈selN q (fr e i)):AI z e:=(AI_eq2 z e).2 (.inr (.inl ⟨i,q,hi,h⟩))
theorem rename_db (a b:ByteArray) (h:Bool) (e:Ex):∀ (L M:List Nm),¬ AI b e->(∀ q z,FI q z e->¬ (q=h/\z=a)->res (env q L) z=res (env q M) z)->(FI h a e->res (env h L) a=res (env h M) b)->db e L=db (renameF a b h e) M:=by
 induction e using Ex.ind with
 |step e ih=>
  intro L M hb h1 h2
  rw[db_eq,db_eq (renameF a b h e),lab_like.2 (like_rename a b h e),rename_parts]
  congr 1
  ·unfold refF
   rw[occ_rename]
   by_cases q:occ e=(a,h,true)
   ·rw[if_pos q,q]
    show some (h,_)=some (h,_)
    rw[h2 ((FI_eq h a e).2 (.inl q))]
   ·rw[if_neg q]
    cases w:(occ e).2.2 with
    |false=>rfl
    |true=>
     rw[if_pos rfl,if_pos rfl,h1 _ _ ((FI_eq _ _ e).2 (.inl (by rw[<-w]))) fun r=>q (by rw[<-r.1,<-r.2,<-w])]
  ·refine List.ext_getElem? fun i=>?_
   rw[List.getElem?_mapIdx,List.getElem?_mapIdx,List.getElem?_mapIdx,fr_rename]
   cases hp:e.parts[i]? with
   |none=>rfl
   |some p=>
    have hm:=List.mem_of_getElem? hp
    have hi:=(List.getElem?_eq_some_iff.1 hp).1
    show some _=some _
    congr 1
    show db p (fr e i::L)=db (if inside e h a i=true then p else renameF a b h p) (fr e i::M)
    by_cases hin:inside e h a i=true
    ·rw[if_pos hin]
     have haF:a∈selN h (fr e i):=(P11 _ _).1 hin
     refine db_congr p _ _ fun q z hz=>?_
     show res ((selN q (fr e i)).reverse++env q L) z=res ((selN q (fr e i)).reverse++env q M) z
     refine res_frame _ fun hn=>?_
     have hn':z∉selN q (fr e i):=fun r=>hn (List.mem_reverse.2 r)
     exact h1 q z (FI_part hp hz hn') fun r=>hn' (by rw[r.1,r.2];exact haF)
    ·rw[if_neg hin]
     have haF:a∉selN h (fr e i):=fun r=>hin ((P11 _ _).2 r)
     have hbF:b∉selN h (fr e i):=fun r=>hb (AI_fr hi r)
     refine ih p hm _ _ (fun r=>hb (AI_part hm r)) (fun q z hz hne=>?_) fun hz=>?_
     ·show res ((selN q (fr e i)).reverse++env q L) z=res ((selN q (fr e i)).reverse++env q M) z
      exact res_frame _ fun hn=>h1 q z (FI_part hp hz (fun r=>hn (List.mem_reverse.2 r))) hne
     ·show res ((selN h (fr e i)).reverse++env h L) a=res ((selN h (fr e i)).reverse++env h M) b
      exact res_frame2 (h2 (FI_part hp hz haF)) _ (fun r=>haF (List.mem_reverse.1 r)) (fun r=>hbF (List.mem_reverse.1 r))
theorem frame_take {e:Ex} (hn:nodeErr e=0) {g:Slo} (h:g∈slotsL e) {i:Nat} (hp:place e g.1 i=true):∃ c,selN g.2.2 (fr e i)=(grpN e g.1).take c:=by
 obtain ⟨j,m,hh⟩:=g
 rcases K13 h with ⟨h1,h2,h3⟩|⟨k,x,h1,h2,h3,h4⟩
 ·have h1:j=none:=h1
  subst h1
  have h3:hh=decide (e.k=15):=h3
  have hi:i<e.l.length:=of_decide_eq_true hp
  rw[fr_left hi]
  show ∃ c,selN hh (ownV e i,ownH e i)=(ownN e).take c
  by_cases hk:e.k=15
  ·rw[h3,decide_eq_true hk]
   refine ⟨e.names.length,?_⟩
   show ownH e i=_
   unfold ownH ownN
   rw[if_pos hk,if_neg (by omega),List.take_length]
  ·rw[h3,decide_eq_false hk]
   show ∃ c,ownV e i=_
   unfold ownV ownN
   by_cases h1:own1 e i=true
   ·rw[if_pos h1]
    refine ⟨1,?_⟩
    split
    ·rw[List.take_take,Nat.min_self]
    ·rfl
   ·rw[if_neg h1]
    by_cases h7:e.k=7
    ·rw[if_pos h7,if_neg (by omega)];exact ⟨2-i,rfl⟩
    ·rw[if_neg h7];exact ⟨0,rfl⟩
 ·have h1:j=some k:=h1
  subst h1
  have h4:hh=false:=h4
  subst h4
  have hi:i=e.l.length+k:=of_decide_eq_true hp
  refine ⟨x.names.length,?_⟩
  show vOf e i=((e.arms.getD k zAr).names).take _
  rw[List.getD_eq_getElem?_getD,h2]
  unfold vOf
  rw[if_neg (by omega),hi,Nat.add_sub_cancel_left,h2]
  show x.names=x.names.take _
  rw[List.take_length]
theorem renamed_db {e:Ex} (hn:nodeErr e=0) (hf:fit1 e) {g:Slo} (h:g∈slotsL e) {s:ByteArray} (hs:¬ AI s e) (L:List Nm):db (renamedF e g s) L=db e L:=by
 rw[db_eq,db_eq e,<-lab_like.2 (like_renamed hn hf s h),L13 hn hf s h]
 congr 1
 ·unfold refF;rw[occ_renamed]
 ·unfold renL
  refine List.ext_getElem? fun i=>?_
  rw[List.getElem?_mapIdx,List.getElem?_mapIdx,List.getElem?_mapIdx]
  cases hp:e.parts[i]? with
  |none=>rfl
  |some p=>
   have hm:=List.mem_of_getElem? hp
   have hi:=(List.getElem?_eq_some_iff.1 hp).1
   have hfr:=fr_renamed hn hf h s i
   obtain ⟨hat,hdi⟩:=grp_at hn h
   show some _=some _
   congr 1
   show db (if (place e g.1 i&&inside e g.2.2 (nameAt e g) i)=true then renameF (nameAt e g) s g.2.2 p else p) (fr (renamedF e g s) i::L)=db p (fr e i::L)
   have hsame:(∀ q,selN q (fr (renamedF e g s) i)=selN q (fr e i))->db p (fr (renamedF e g s) i::L)=db p (fr e i::L):=fun hq=>
    db_congr p _ _ fun q z hz=>by
     show res ((selN q (fr (renamedF e g s) i)).reverse++env q L) z=res ((selN q (fr e i)).reverse++env q L) z
     rw[hq]
   by_cases hpl:place e g.1 i=true
   ·obtain ⟨c,hc⟩:=frame_take hn h hpl
    have hnd:=((K11 _).1 hdi).2
    have hnF:(selN g.2.2 (fr e i)).Nodup:=by rw[hc];exact hnd.sublist (List.take_sublist _ _)
    have hsF:s∉selN g.2.2 (fr e i):=fun r=>hs (AI_fr hi r)
    by_cases hmc:g.2.1<c
    ·have hFm:(selN g.2.2 (fr e i))[g.2.1]?=some (nameAt e g):=by rw[hc,List.getElem?_take_of_lt hmc];exact hat
     have hin:inside e g.2.2 (nameAt e g) i=true:=(P11 _ _).2 (List.mem_of_getElem? hFm)
     rw[hpl,hin,if_pos (by rfl)]
     have hfe:selN g.2.2 (fr (renamedF e g s) i)=(selN g.2.2 (fr e i)).map (fun y=>if y=nameAt e g then s else y):=by
      rw[hfr,if_pos ⟨hpl,rfl⟩,set_map hnF hFm]
     refine (rename_db (nameAt e g) s g.2.2 p _ _ (fun r=>hs (AI_part hm r)) (fun q z hz hne=>?_) fun hz=>?_).symm
     ·have hzs:z≠s:=fun r=>hs (AI_part hm (by rw[<-r];exact FI_AI p hz))
      show res ((selN q (fr e i)).reverse++env q L) z=res ((selN q (fr (renamedF e g s) i)).reverse++env q L) z
      by_cases hq:q=g.2.2
      ·subst hq
       rw[hfe,<-List.map_reverse]
       exact res_swap1 hzs (fun r=>hne ⟨rfl,r⟩) _
      ·rw[hfr,if_neg (fun r=>hq r.2)]
     ·show res ((selN g.2.2 (fr e i)).reverse++env g.2.2 L) _=res ((selN g.2.2 (fr (renamedF e g s) i)).reverse++env g.2.2 L) _
      rw[hfe,<-List.map_reverse]
      exact res_swap2 _ (fun r=>hsF (List.mem_reverse.1 r)) (List.mem_reverse.2 (List.mem_of_getElem? hFm))
    ·have hlen:(selN g.2.2 (fr e i)).length<=g.2.1:=by rw[hc,List.length_take];omega
     have hnin:inside e g.2.2 (nameAt e g) i=false:=by
      cases w:inside e g.2.2 (nameAt e g) i with
      |false=>rfl
      |true=>
       have hmem:=(P11 _ _).1 w
       obtain ⟨m,hm1,hm2⟩:=List.getElem_of_mem hmem
       have h1:(grpN e g.1)[m]?=some (nameAt e g):=by
        have:(selN g.2.2 (fr e i))[m]?=some (nameAt e g):=by rw[List.getElem?_eq_getElem hm1,hm2]
        rw[hc] at this
        have hmc:m<c:=by rw[hc,List.length_take] at hm1;omega
        rwa [List.getElem?_take_of_lt hmc] at this
       have:=(List.getElem?_inj (List.getElem?_eq_some_iff.1 h1).1 hnd).1 (h1.trans hat.symm)
       omega
     rw[hnin,Bool.and_false,if_neg (by decide)]
     refine hsame fun q=>?_
     rw[hfr]
     split
     ·rename_i w
      rw[w.2]
      exact List.set_eq_of_length_le hlen
     ·rfl
   ·have hpf:place e g.1 i=false:=by simpa using hpl
    rw[hpf,Bool.false_and,if_neg (by decide)]
    exact hsame fun q=>by rw[hfr,if_neg (fun r=>hpl r.1)]
def hitR (x:ByteArray):Option (Bool×Rf)->Bool
 |some (false,.f s)=>decide (s=x)
 |_=>false
theorem hitR_iff {x:ByteArray} {r:Option (Bool×Rf)}:hitR x r=true↔r=some (false,.f x):=by
 unfold hitR
 split
 ·simp
 ·rename_i h
  simp only[Bool.false_eq_true,false_iff]
  exact fun q=>h x q
def subD (x:ByteArray) (V:DT):DT->DT:=DT.para fun l r ks=>if hitR x r then (if l.k=0 then V else .mk l V.ref ks) else .mk l r ks
def fvD (h:Bool) (z:ByteArray):DT->Prop:=DT.para fun l r ks=>r=some (h,.f z)\/∃ k∈ks,k
def spB (x:ByteArray):DT->Bool:=DT.para fun l r ks=>(hitR x r&&!decide (l.k=0))||ks.any id
def cntD (x:ByteArray):DT->Nat:=DT.para fun l r ks=>(if hitR x r then 1 else 0)+ks.sum
def nodesD:DT->Nat:=DT.para fun l r ks=>1+ks.sum
theorem subD_mk (x:ByteArray) (V:DT) (l:Lab) (r:Option (Bool×Rf)) (ks:List DT):subD x V (.mk l r ks)=if hitR x r then (if l.k=0 then V else .mk l V.ref (ks.map (subD x V))) else .mk l r (ks.map (subD x V)):=DT.para_mk ..
theorem fvD_mk (h:Bool) (z:ByteArray) (l:Lab) (r:Option (Bool×Rf)) (ks:List DT):fvD h z (.mk l r ks)↔(r=some (h,.f z)\/∃ d∈ks,fvD h z d):=by
 unfold fvD
 rw[DT.para_mk]
 refine or_congr Iff.rfl ⟨?_,?_⟩
 ·rintro ⟨k,hk,q⟩
  obtain ⟨d,hd,rfl⟩:=List.mem_map.1 hk
  exact ⟨d,hd,q⟩
 ·rintro ⟨d,hd,q⟩
  exact ⟨_,List.mem_map_of_mem hd,q⟩
theorem spB_mk (x:ByteArray) (l:Lab) (r:Option (Bool×Rf)) (ks:List DT):spB x (.mk l r ks)=((hitR x r&&!decide (l.k=0))||ks.any (spB x)):=by
 unfold spB
 rw[DT.para_mk,List.any_map];rfl
theorem cntD_mk (x:ByteArray) (l:Lab) (r:Option (Bool×Rf)) (ks:List DT):cntD x (.mk l r ks)=(if hitR x r then 1 else 0)+(ks.map (cntD x)).sum:=DT.para_mk ..
theorem nodesD_mk (l:Lab) (r:Option (Bool×Rf)) (ks:List DT):nodesD (.mk l r ks)=1+(ks.map nodesD).sum:=DT.para_mk ..
theorem subD_free {x:ByteArray} {V:DT} (D:DT):cntD x D=0->subD x V D=D:=by
 induction D using DT.ind with
 |h l r ks ih=>
  intro h
  rw[cntD_mk] at h
  have h1:hitR x r=false:=by
   cases q:hitR x r with
   |false=>rfl
   |true=>rw[q,if_pos rfl] at h;omega
  have h2:∀ d∈ks,cntD x d=0:=fun d hd=>by
   have:=le_sum (List.mem_map_of_mem (f:=cntD x) hd)
   omega
  rw[subD_mk,h1,if_neg (by decide)]
  congr 1
  have:∀ d∈ks,subD x V d=d:=fun d hd=>ih d hd (h2 d hd)
  rw[List.map_congr_left this,List.map_id']
theorem cnt_fv {x:ByteArray} (D:DT):0<cntD x D↔fvD false x D:=by
 induction D using DT.ind with
 |h l r ks ih=>
  rw[cntD_mk,fvD_mk]
  constructor
  ·intro h
   cases q:hitR x r with
   |true=>exact .inl (hitR_iff.1 q)
   |false=>
    rw[q,if_neg (by decide),Nat.zero_add] at h
    right
    have:∃ d∈ks,0<cntD x d:=by
     refine Classical.byContradiction fun hn=>?_
     have hz:∀ d∈ks,cntD x d=0:=fun d hd=>by
      refine Classical.byContradiction fun q=>hn ⟨d,hd,by omega⟩
     have:(ks.map (cntD x)).sum=0:=by
      rw[List.map_congr_left (g:=fun _=>0) hz]
      have:∀ l:List DT,(l.map fun _=>0).sum=0:=fun l=>by induction l<;>simp_all
      exact this ks
     omega
    obtain ⟨d,hd,q2⟩:=this
    exact ⟨d,hd,(ih d hd).1 q2⟩
  ·rintro (h|⟨d,hd,h⟩)
   ·rw[hitR_iff.2 h,if_pos rfl];omega
   ·have h1:=(ih d hd).2 h
    have:=le_sum (List.mem_map_of_mem (f:=cntD x) hd)
    omega
theorem cnt_nodes (x:ByteArray) (D:DT):cntD x D<=nodesD D:=by
 induction D using DT.ind with
 |h l r ks ih=>
  rw[cntD_mk,nodesD_mk]
  have:(ks.map (cntD x)).sum<=(ks.map nodesD).sum:=by
   induction ks with
   |nil=>exact Nat.le_refl _
   |cons d ks ihk=>
    have:=ih d (by simp)
    have:=ihk fun d hd=>ih d (by simp[hd])
    simp only[List.map_cons,List.sum_cons];omega
  split<;>omega
def leafD:DT->Prop:=DT.para fun l r ks=>(l.k=0->ks=[])/\∀ k∈ks,k
theorem leafD_mk (l:Lab) (r:Option (Bool×Rf)) (ks:List DT):leafD (.mk l r ks)↔(l.k=0->ks=[])/\∀ d∈ks,leafD d:=by
 unfold leafD
 rw[DT.para_mk]
 refine and_congr ⟨fun h q=>by simpa using h q,fun h q=>by rw[h q];rfl⟩ ⟨fun h d hd=>h _ (List.mem_map_of_mem hd),fun h k hk=>?_⟩
 obtain ⟨d,hd,rfl⟩:=List.mem_map.1 hk
 exact h d hd
def Fits (x:ByteArray) (V D:DT):Prop:=spB x D=false\/∃ l r,V=.mk l r []
theorem Fits.kid {x:ByteArray} {V d:DT} {l:Lab} {r:Option (Bool×Rf)} {ks:List DT} (h:Fits x V (.mk l r ks)) (hd:d∈ks):Fits x V d:=by
 rcases h with h|h
 ·left
  rw[spB_mk,Bool.or_eq_false_iff,List.any_eq_false] at h
  simpa using h.2 d hd
 ·exact .inr h
theorem sum_congr {α:Type} {f g:α->Nat}:∀ {l:List α},(∀ x∈l,f x=g x)->(l.map f).sum=(l.map g).sum:=fun h=>by rw[List.map_congr_left h]
theorem sum_add {α:Type} (f g:α->Nat):∀ l:List α,(l.map fun x=>f x+g x).sum=(l.map f).sum+(l.map g).sum
 |[]=>rfl
 |x::l=>by simp only[List.map_cons,List.sum_cons,sum_add f g l];omega
theorem sum_mul {α:Type} (f:α->Nat) (n:Nat):∀ l:List α,(l.map fun x=>f x*n).sum=(l.map f).sum*n
 |[]=>by simp
 |x::l=>by simp only[List.map_cons,List.sum_cons,sum_mul f n l,Nat.add_mul]
theorem nodes_sub {x:ByteArray} {V:DT} (D:DT):leafD D->Fits x V D->nodesD (subD x V D)+cntD x D=nodesD D+cntD x D*nodesD V:=by
 induction D using DT.ind with
 |h l r ks ih=>
  intro hlf hf
  obtain ⟨hl0,hlk⟩:=(leafD_mk ..).1 hlf
  have hkids:((ks.map (subD x V)).map nodesD).sum+(ks.map (cntD x)).sum=(ks.map nodesD).sum+(ks.map (cntD x)).sum*nodesD V:=by
   rw[List.map_map,<-sum_mul,<-sum_add,<-sum_add]
   exact sum_congr fun d hd=>ih d hd (hlk d hd) (hf.kid hd)
  rw[subD_mk,cntD_mk,nodesD_mk]
  by_cases h1:hitR x r=true
  ·rw[if_pos h1,if_pos h1]
   by_cases hk:l.k=0
   ·rw[if_pos hk,hl0 hk]
    simp;omega
   ·rw[if_neg hk,nodesD_mk]
    have hV:nodesD V=1:=by
     rcases hf with q|⟨l',r',rfl⟩
     ·rw[spB_mk,h1,Bool.true_and,Bool.or_eq_false_iff] at q
      have:=q.1
      simp[hk] at this
     ·rw[nodesD_mk];rfl
    rw[hV,Nat.mul_one] at hkids ⊢
    omega
  ·rw[if_neg h1,if_neg h1,nodesD_mk,Nat.zero_add];omega
theorem refF_f {e:Ex} {L:List Nm} {h:Bool} {z:ByteArray}:refF e L=some (h,.f z)↔occ e=(z,h,true)/\z∉env h L:=by
 unfold refF
 constructor
 ·intro q
  cases w:(occ e).2.2 with
  |false=>rw[w] at q;cases q
  |true=>
   rw[w,if_pos rfl] at q
   injection q with q
   injection q with q1 q2
   obtain ⟨q3,q4⟩:=res_f q2
   rw[q1] at q4
   refine ⟨?_,by rw[<-q3];exact q4⟩
   rw[<-q1,<-q3,<-w]
 ·rintro ⟨q1,q2⟩
  rw[q1]
  show some (h,res (env h L) z)=_
  rw[res_free q2]
theorem FI_db (h:Bool) (z:ByteArray) (e:Ex):∀ L:List Nm,fvD h z (db e L)↔FI h z e/\z∉env h L:=by
 induction e using Ex.ind with
 |step e ih=>
  intro L
  rw[db_eq,fvD_mk,refF_f,FI_eq]
  constructor
  ·rintro (⟨q1,q2⟩|⟨d,hd,q⟩)
   ·exact ⟨.inl q1,q2⟩
   ·obtain ⟨i,hi,rfl⟩:=List.getElem_of_mem hd
    rw[List.length_mapIdx] at hi
    rw[List.getElem_mapIdx] at q
    obtain ⟨q1,q2⟩:=(ih _ (List.getElem_mem hi) _).1 q
    have q2:z∉(selN h (fr e i)).reverse++env h L:=q2
    simp only[List.mem_append,List.mem_reverse,not_or] at q2
    exact ⟨.inr ⟨i,_,List.getElem?_eq_getElem hi,q1,q2.1⟩,q2.2⟩
  ·rintro ⟨q1|⟨i,p,hp,q1,q2⟩,q3⟩
   ·exact .inl ⟨q1,q3⟩
   ·right
    refine ⟨db p (fr e i::L),?_,(ih p (List.mem_of_getElem? hp) _).2 ⟨q1,?_⟩⟩
    ·refine List.mem_of_getElem? (i:=i) ?_
     rw[List.getElem?_mapIdx,hp];rfl
    ·show z∉(selN h (fr e i)).reverse++env h L
     simp only[List.mem_append,List.mem_reverse,not_or]
     exact ⟨q2,q3⟩
theorem nodes_db (e:Ex):∀ L:List Nm,nodesD (db e L)=e.nodes:=by
 induction e using Ex.ind with
 |step e ih=>
  intro L
  rw[db_eq,nodesD_mk,Ex.nodes_eq,mapIdx_map2]
  congr 2
  refine List.ext_getElem? fun i=>?_
  rw[List.getElem?_mapIdx,List.getElem?_map]
  cases hp:e.parts[i]? with
  |none=>rfl
  |some p=>exact congrArg some (ih p (List.mem_of_getElem? hp) _)
theorem kids_mem {e:Ex} {L:List Nm} {d:DT} (h:d∈e.parts.mapIdx fun i p=>db p (fr e i::L)):∃ i p,e.parts[i]?=some p/\d=db p (fr e i::L):=by
 obtain ⟨i,hi,rfl⟩:=List.getElem_of_mem h
 rw[List.length_mapIdx] at hi
 exact ⟨i,_,List.getElem?_eq_getElem hi,by rw[List.getElem_mapIdx]⟩
theorem var_parts {e:Ex} (hn:nodeErr e=0) (hk:e.k=0):e.parts=[]:=by
 obtain ⟨x,hx,_,_,_,hb,_,_⟩:=(O13 e).1 hn
 rw[hk] at hx
 have hx:shapes[(0:Int).toNat]?=some x:=hx
 have:shapes[(0:Int).toNat]?=some ⟨1,0,0,0,false,0,0⟩:=rfl
 rw[this] at hx
 injection hx with hx
 subst hx
 unfold nodeBad nodeParts at hb
 simp only[Bool.or_eq_false_iff,Bool.and_eq_false_iff,decide_eq_false_iff_not,Bool.not_eq_false',Bool.or_eq_true,decide_eq_true_eq,Bool.and_eq_true,Bool.not_false,Bool.true_eq_false,false_or,hk] at hb
 have h1:e.l.length=0:=by omega
 have h2:e.arms.length=0:=by omega
 unfold Ex.parts
 rw[List.eq_nil_of_length_eq_zero h1,List.eq_nil_of_length_eq_zero h2];rfl
theorem leaf_db (e:Ex):checked e=0->∀ L:List Nm,leafD (db e L):=by
 induction e using Ex.ind with
 |step e ih=>
  intro hc L
  obtain ⟨hn,hp⟩:=(M11 e).1 hc
  rw[db_eq,leafD_mk]
  refine ⟨fun hk=>?_,fun d hd=>?_⟩
  ·rw[var_parts hn hk];rfl
  ·obtain ⟨i,p,hi,rfl⟩:=kids_mem hd
   have hm:=List.mem_of_getElem? hi
   exact ih p hm (hp p hm) _
theorem hasN_env (x:ByteArray) (h:Bool):∀ L:List Nm,hasN L x h=true↔x∈env h L
 |[]=>by simp[hasN,env]
 |c::L=>by
  have ih:=hasN_env x h L
  show (if has (selN h c) x=true then true else hasN L x h)=true↔x∈(selN h c).reverse++env h L
  rw[List.mem_append,List.mem_reverse,<-P11]
  by_cases q:has (selN h c) x=true
  ·simp[q]
  ·rw[if_neg q,ih];simp[q]
theorem hit_db (x:ByteArray) (e:Ex) (L:List Nm):hitR x (refF e L)=((occ e).2.2&&!(occ e).2.1&&decide ((occ e).1=x)&&!hasN L x false):=by
 rw[Bool.eq_iff_iff,hitR_iff,refF_f]
 simp only[Bool.and_eq_true,Bool.not_eq_true',decide_eq_true_eq]
 have:hasN L x false=false↔x∉env false L:=by rw[<-hasN_env];simp
 rw[this]
 constructor
 ·rintro ⟨q,q2⟩
  rw[q];exact ⟨⟨⟨rfl,rfl⟩,rfl⟩,q2⟩
 ·rintro ⟨⟨⟨q1,q2⟩,q3⟩,q4⟩
  exact ⟨by rw[<-q1,<-q2,<-q3],q4⟩
theorem walk_uses (x:ByteArray) (e:Ex):∀ (L:List Nm) (n:Int) (sp:Bool),0<=n->n+e.nodes<1000000000->walkF (usesVis x) e L (n,sp)=(n+cntD x (db e L),sp||spB x (db e L)):=by
 induction e using Ex.ind with
 |step e ih=>
  intro L n sp h0 hlt
  have hgo:∀ (ps:List Ex) (i:Nat) (n:Int) (sp:Bool),(∀ p∈ps,p∈e.parts)->0<=n->n+((ps.map Ex.nodes).sum:Nat)<1000000000 ->
    goW e L i (ps.map (walkF (usesVis x))) (n,sp)=(n+(((ps.mapIdx fun j p=>db p (fr e (i+j)::L)).map (cntD x)).sum:Nat),sp||(ps.mapIdx fun j p=>db p (fr e (i+j)::L)).any (spB x)):=fun ps=>by
   induction ps with
   |nil=>intro i n sp _ _ _;simp[goW]
   |cons p ps ihp=>
    intro i n sp hm h0 hlt
    simp only[List.map_cons,List.sum_cons] at hlt
    have h1:=ih p (hm p (by simp)) (fr e i::L) n sp h0 (by omega)
    have hcn:cntD x (db p (fr e i::L))<=p.nodes:=by rw[<-nodes_db p (fr e i::L)];exact cnt_nodes _ _
    show goW e L (i+1) (ps.map (walkF (usesVis x))) (walkF (usesVis x) p (fr e i::L) (n,sp))=_
    rw[h1,ihp (i+1) _ _ (fun q hq=>hm q (by simp[hq])) (by omega) (by omega)]
    simp only[List.mapIdx_cons,List.map_cons,List.sum_cons,List.any_cons,Nat.add_zero]
    have hi:(fun (j:Nat) (p:Ex)=>db p (fr e (i+(j+1))::L))=fun (j:Nat) (p:Ex)=>db p (fr e (i+1+j)::L):=by
     funext j p;rw[show i+(j+1)=i+1+j by omega]
    rw[hi]
    refine Prod.ext ?_ ?_
    ·show _=n+((_+_:Nat):Int);omega
    ·exact Bool.or_assoc ..
  rw[walkF_eq,db_eq,cntD_mk,spB_mk]
  have hnod:=Ex.nodes_eq e
  have hg:=hgo e.parts 0
  simp only[Nat.zero_add] at hg
  have hwr:IntKind.i64.wrap (n+1)=n+1:=wrap64 (by omega) (by omega)
  have hkk:(labF e).k=e.k:=rfl
  have hv:usesVis x L e (n,sp)=if (occ e).2.2&&!(occ e).2.1&&decide ((occ e).1=x)&&!hasN L x false then (IntKind.i64.wrap (n+1),sp||!decide (e.k=0)) else (n,sp):=rfl
  rw[hv,hit_db,hkk]
  by_cases q:((occ e).2.2&&!(occ e).2.1&&decide ((occ e).1=x)&&!hasN L x false)=true
  ·rw[if_pos q,q,if_pos rfl,hwr]
   show goW e L 0 (e.parts.map (walkF (usesVis x))) (n+1,sp||!decide (e.k=0))=_
   rw[hg _ _ (fun _ h=>h) (by omega) (by omega)]
   refine Prod.ext ?_ ?_
   ·show _=n+((_+_:Nat):Int);omega
   ·rw[Bool.true_and];exact Bool.or_assoc ..
  ·have q':((occ e).2.2&&!(occ e).2.1&&decide ((occ e).1=x)&&!hasN L x false)=false:=by simpa using q
   rw[q',if_neg (by decide),if_neg (by decide),hg _ _ (fun _ h=>h) h0 (by omega)]
   refine Prod.ext ?_ ?_
   ·show _=n+((_+_:Nat):Int);omega
   ·rw[Bool.false_and,Bool.false_or]
theorem uses_db {e:Ex} (he:e.nodes<=bnd) (x:ByteArray):usesK x e=(((cntD x (db e []):Nat):Int),spB x (db e [])):=by
 have hbb:bnd=16777216:=rfl
 unfold usesK
 rw[walk_uses x e [] 0 false (by omega) (by omega)]
 simp
structure SubV (S:Sub):Prop extends SubOk S where
 set:∀ h z,z∈S.set h↔FI h z S.v
 nms:∀ z,AI z S.v->z∈S.nm
theorem capG_iff {S:Sub} {e:Ex} {g:Slo}:∀ {ps:List Ex} {i:Nat},capG S e g i ps=true↔∃ j p,ps[j]?=some p/\capP S e g (i+j) p=true
 |[],i=>by simp[capG]
 |p::ps,i=>by
  rw[capG,Bool.or_eq_true,capG_iff]
  constructor
  ·rintro (h|⟨j,q,h1,h2⟩)
   ·exact ⟨0,p,rfl,h⟩
   ·exact ⟨j+1,q,by simpa using h1,by rw[<-h2];congr 1;omega⟩
  ·rintro ⟨j,q,h1,h2⟩
   cases j with
   |zero=>simp only[List.getElem?_cons_zero,Option.some.injEq] at h1;subst h1;exact .inl h2
   |succ j=>exact .inr ⟨j,q,by simpa using h1,by rw[<-h2];congr 1;omega⟩
def Bad (S:Sub) (a:Ex) (g:Slo):Prop:=FI g.2.2 (nameAt a g) S.v/\∃ i p,a.parts[i]?=some p/\place a g.1 i=true/\nameAt a g∈selN g.2.2 (fr a i)/\S.x∉vOf a i/\FI false S.x p
theorem cap_iff {S:Sub} (hS:SubV S) {a:Ex} (ha:Okk a) {g:Slo}:capF S a g=true↔Bad S a g:=by
 unfold capF Bad
 rw[Bool.and_eq_true,P11,hS.set,capG_iff]
 refine and_congr_right fun _=>exists_congr fun i=>exists_congr fun p=>and_congr_right fun hp=>?_
 have hm:=List.mem_of_getElem? hp
 have hpk:=ha.part hm
 unfold capP
 rw[Nat.zero_add,uses_db hpk.2.2.1]
 have hcn:(0:Int)<((cntD S.x (db p []):Nat):Int)↔FI false S.x p:=by
  rw[show ((0:Int)<((cntD S.x (db p []):Nat):Int))↔0<cntD S.x (db p []) from by omega,cnt_fv,FI_db]
  simp[env]
 simp only[Bool.and_eq_true,Bool.not_eq_true',decide_eq_true_eq,hcn]
 have h1:inside a g.2.2 (nameAt a g) i=true↔nameAt a g∈selN g.2.2 (fr a i):=P11 _ _
 have h2:has (vOf a i) S.x=false↔S.x∉vOf a i:=by rw[<-P11];simp
 rw[h1,h2]
 exact ⟨fun ⟨⟨⟨q1,q2⟩,q3⟩,q4⟩=>⟨q1,q2,q3,q4⟩,fun ⟨q1,q2,q3,q4⟩=>⟨⟨⟨q1,q2⟩,q3⟩,q4⟩⟩
theorem Bad.ne {S:Sub} {a:Ex} {g:Slo} (h:Bad S a g):¬ (g.2.2=false/\nameAt a g=S.x):=by
 rintro ⟨q1,q2⟩
 obtain ⟨_,i,p,_,_,h3,h4,_⟩:=h
 rw[q1,q2] at h3
 exact h4 h3
theorem FI_rename {a b z:ByteArray} {h q:Bool} (hza:¬ (q=h/\z=a)) (hzb:¬ (q=h/\z=b)) (e:Ex):FI q z (renameF a b h e)↔FI q z e:=by
 induction e using Ex.ind with
 |step e ih=>
  rw[FI_eq,FI_eq,occ_rename]
  refine or_congr ?_ ?_
  ·split
   ·rename_i ho
    rw[ho]
    constructor
    ·intro w;cases w;exact absurd ⟨rfl,rfl⟩ hzb
    ·intro w;cases w;exact absurd ⟨rfl,rfl⟩ hza
   ·exact Iff.rfl
  ·have hfr:∀ i,(vOf (renameF a b h e) i,hOf (renameF a b h e) i)=(vOf e i,hOf e i):=fun i=>fr_rename a b h e i
   refine exists_congr fun i=>?_
   rw[hfr,rename_parts]
   simp only[List.getElem?_mapIdx]
   cases hp:e.parts[i]? with
   |none=>simp
   |some p=>
    have hm:=List.mem_of_getElem? hp
    have hi:=ih p hm
    have hpp:FI q z (if inside e h a i=true then p else renameF a b h p)↔FI q z p:=by
     split
     ·exact Iff.rfl
     ·exact hi
    simp only[Option.map_some,Option.some.injEq,exists_eq_left',hpp]
theorem namesAt_with (e:Ex) (ls:List Ex) (j:Option Nat):namesAt (withP e ls) j=namesAt e j:=by
 cases j with
 |none=>rfl
 |some k=>
  show ((withP e ls).arms.getD k zAr).names=(e.arms.getD k zAr).names
  rw[List.getD_eq_getElem?_getD,List.getD_eq_getElem?_getD,withP_arm]
  cases e.arms[k]?<;>rfl
theorem namesAt_setAt {e:Ex} {g:Slo} (hok:slotOk e g) (s:ByteArray) (j:Option Nat):namesAt (setAt e g s) j=if j=g.1 then (namesAt e j).set g.2.1 s else namesAt e j:=by
 obtain ⟨j',i,q⟩:=g
 cases j' with
 |none=>
  cases j with
  |none=>rfl
  |some k=>rfl
 |some k'=>
  cases j with
  |none=>rfl
  |some k=>
   have hk':=hok.2 k' rfl
   show ((e.arms.set k' _).getD k zAr).names=if some k=some k' then ((e.arms.getD k zAr).names).set i s else (e.arms.getD k zAr).names
   rw[List.getD_eq_getElem?_getD,List.getElem?_set]
   by_cases w:k'=k
   ·subst w
    rw[if_pos rfl,if_pos rfl,if_pos hk'];rfl
   ·rw[if_neg w,if_neg (by simpa using fun r:k=k'=>w r.symm),List.getD_eq_getElem?_getD]
theorem namesAt_renamed {e:Ex} (hn:nodeErr e=0) (hf:fit1 e) {g:Slo} (h:g∈slotsL e) (s:ByteArray) (j:Option Nat):namesAt (renamedF e g s) j=if j=g.1 then (namesAt e j).set g.2.1 s else namesAt e j:=by
 have hl:=renL_len e g s
 unfold renamedF
 rw[namesAt_setAt (slot_ok (node_with hl hn hf).1 (by rw[slots_with hl];exact h)),namesAt_with]
theorem nameAt_same {e:Ex} (hn:nodeErr e=0) (hf:fit1 e) {g:Slo} (h:g∈slotsL e) (s:ByteArray):nameAt (renamedF e g s) g=s:=by
 unfold nameAt
 have hok:=slot_ok hn h
 rw[namesAt_renamed hn hf h,if_pos rfl,getD_at (by rw[List.length_set];exact hok.1),List.getElem_set_self]
theorem slot_eq {e:Ex} {g g':Slo} (h:g∈slotsL e) (h':g'∈slotsL e) (h1:g.1=g'.1) (h2:g.2.1=g'.2.1):g=g':=by
 obtain ⟨j,i,q⟩:=g
 obtain ⟨j',i',q'⟩:=g'
 have h1:j=j':=h1
 have h2:i=i':=h2
 subst h1 h2
 have:q=q':=by
  rcases K13 h with ⟨a1,a2,a3⟩|⟨k,x,a1,a2,a3,a4⟩
  ·rcases K13 h' with ⟨b1,b2,b3⟩|⟨k',x',b1,b2,b3,b4⟩
   ·exact a3.trans b3.symm
   ·exact absurd (a1.symm.trans b1) (by simp)
  ·rcases K13 h' with ⟨b1,b2,b3⟩|⟨k',x',b1,b2,b3,b4⟩
   ·exact absurd (b1.symm.trans a1) (by simp)
   ·exact a4.trans b4.symm
 rw[this]
theorem nameAt_other {e:Ex} (hn:nodeErr e=0) (hf:fit1 e) {g g':Slo} (h:g∈slotsL e) (h':g'∈slotsL e) (hne:g'≠g) (s:ByteArray):nameAt (renamedF e g s) g'=nameAt e g':=by
 unfold nameAt
 rw[namesAt_renamed hn hf h]
 split
 ·rename_i h1
  have hi:g.2.1≠g'.2.1:=fun q=>hne (slot_eq h' h h1 q.symm)
  rw[List.getD_eq_getElem?_getD,List.getElem?_set,if_neg hi,List.getD_eq_getElem?_getD]
 ·rfl
theorem place_renamed {e:Ex} (g:Slo) (s:ByteArray) (j:Option Nat) (i:Nat):place (renamedF e g s) j i=place e j i:=by
 have hl:=renL_len e g s
 have:(renamedF e g s).l.length=e.l.length:=by
  unfold renamedF
  rw[setAt_l,F13 hl]
 cases j with
 |none=>show decide (_<_)=decide (_<_);rw[this]
 |some k=>show decide (_=_+_)=decide (_=_+_);rw[this]
theorem mem_set_ne {x s:ByteArray} {l:List ByteArray} {m:Nat} (h:x∈l) (hm:l[m]?≠some x):x∈l.set m s:=by
 obtain ⟨c,hc,rfl⟩:=List.getElem_of_mem h
 have hcm:m≠c:=fun q=>hm (by rw[q,List.getElem?_eq_getElem hc])
 refine List.mem_of_getElem? (i:=c) ?_
 rw[List.getElem?_set,if_neg hcm,List.getElem?_eq_getElem hc]
theorem renamed_live {e:Ex} (hn:nodeErr e=0) (hf:fit1 e) {g:Slo} (h:g∈slotsL e) {s x:ByteArray} (hsx:s≠x) (hx:¬ (g.2.2=false/\nameAt e g=x)) {i:Nat} {p':Ex} (hp:(renamedF e g s).parts[i]?=some p')
  (hv:x∉vOf (renamedF e g s) i) (hF:FI false x p'):∃ p,e.parts[i]?=some p/\x∉vOf e i/\FI false x p:=by
 rw[L13 hn hf s h] at hp
 unfold renL at hp
 rw[List.getElem?_mapIdx] at hp
 cases hpp:e.parts[i]? with
 |none=>rw[hpp] at hp;cases hp
 |some p=>
  rw[hpp] at hp
  simp only[Option.map_some,Option.some.injEq] at hp
  refine ⟨p,rfl,fun hxv=>?_,?_⟩
  ·have h1:=fr_renamed hn hf h s i false
   have h1:vOf (renamedF e g s) i=if place e g.1 i=true/\false=g.2.2 then (vOf e i).set g.2.1 s else vOf e i:=h1
   rw[h1] at hv
   split at hv
   ·rename_i hc
    refine hv (mem_set_ne hxv fun q=>hx ⟨hc.2.symm,?_⟩)
    obtain ⟨c,hcc⟩:=frame_take hn h hc.1
    rw[<-hc.2] at hcc
    have hcc:vOf e i=(grpN e g.1).take c:=hcc
    rw[hcc] at q
    obtain ⟨hat,_⟩:=grp_at hn h
    have hlt:g.2.1<c:=by
     have:=(List.getElem?_eq_some_iff.1 q).1
     rw[List.length_take] at this;omega
    rw[List.getElem?_take_of_lt hlt,hat] at q
    injection q
   ·exact hv hxv
  ·rw[<-hp] at hF
   split at hF
   ·exact (FI_rename (fun r=>hx ⟨r.1.symm,r.2.symm⟩) (fun r=>hsx r.2.symm) p).1 hF
   ·exact hF
theorem bad_step {S:Sub} (hS:SubV S) {a:Ex} (hn:nodeErr a=0) (hf:fit1 a) {g g':Slo} (h:g∈slotsL a) (h':g'∈slotsL a) {s:ByteArray} (hsA:¬ AI s a) (hsn:s∉S.nm) (hsx:s≠S.x) (hb:Bad S a g)
  (hb':Bad S (renamedF a g s) g'):g'≠g/\Bad S a g':=by
 have hne:g'≠g:=fun q=>by
  subst q
  have h1:=hb'.1
  rw[nameAt_same hn hf h] at h1
  exact hsn (hS.nms _ (FI_AI _ h1))
 refine ⟨hne,?_⟩
 obtain ⟨h1,i,p',h2,h3,h4,h5,h6⟩:=hb'
 rw[nameAt_other hn hf h h' hne] at h1 h4
 rw[place_renamed] at h3
 obtain ⟨p,hp,hxv,hxp⟩:=renamed_live hn hf h hsx hb.ne h2 h5 h6
 refine ⟨h1,i,p,hp,h3,?_,hxv,hxp⟩
 rw[fr_renamed hn hf h] at h4
 split at h4
 ·rcases List.mem_or_eq_of_mem_set h4 with q|q
  ·exact q
  ·exact absurd (by rw[<-q];exact grp_AI hn (slot_ok hn h').2 (List.mem_of_getElem? (grp_at hn h').1)) hsA
 ·exact h4
theorem slot_no {S:Sub} (hS:SubV S) {e:Ex} (he:Okk e):∀ n,n<=(slotsL e).length->∀ m,(hm:m<(slotsL e).length)->m<n->¬ Bad S (slotSt S e n).1 (slotsL e)[m]
 |0,_,_,_,h=>by omega
 |n+1,hn,m,hm,h=>by
  have hi:=slotSt_is hS.toSubOk he n (by omega)
  have hk:=hi.kept.okk he
  have hl:=slots_len e he.node
  have hgm:∀ q (hq:q<(slotsL e).length),(slotsL e)[q]∈slotsL (slotSt S e n).1:=fun q hq=>by rw[<-slots_like hi.like];exact List.getElem_mem _
  have ih:=slot_no hS he n (by omega) m hm
  rw[slotSt_succ S (by omega)]
  unfold stepIn
  by_cases hc:capF S (slotSt S e n).1 (slotsL e)[n]=true
  ·rw[if_pos hc]
   obtain ⟨h1,h2,h3,h4,h5⟩:=hi.to hS.toSubOk he (by omega) (List.getElem_mem (show n<(slotsL e).length by omega))
   intro hb
   obtain ⟨q1,q2⟩:=bad_step hS hk.node hk.1.one (hgm n (by omega)) (hgm m hm) h2 h3 h4 ((cap_iff hS hk).1 hc) hb
   by_cases hmn:m=n
   ·subst hmn;exact q1 rfl
   ·exact ih (by omega) q2
  ·rw[if_neg hc]
   by_cases hmn:m=n
   ·subst hmn;exact fun hb=>hc ((cap_iff hS hk).2 hb)
   ·exact ih (by omega)
theorem slotSt_db {S:Sub} (hS:SubV S) {e:Ex} (he:Okk e) (L:List Nm):∀ n,n<=(slotsL e).length->db (slotSt S e n).1 L=db e L
 |0,_=>rfl
 |n+1,hn=>by
  have hi:=slotSt_is hS.toSubOk he n (by omega)
  have hk:=hi.kept.okk he
  have hl:=slots_len e he.node
  have ih:=slotSt_db hS he L n (by omega)
  rw[slotSt_succ S (by omega)]
  unfold stepIn
  split
  ·obtain ⟨h1,h2,h3,h4,h5⟩:=hi.to hS.toSubOk he (by omega) (List.getElem_mem (show n<(slotsL e).length by omega))
   exact (renamed_db hk.node hk.1.one (by rw[<-slots_like hi.like];exact List.getElem_mem _) h2 L).trans ih
  ·exact ih
theorem slotsA_in:∀ {xs:List Ar} {j k m:Nat} {x:Ar},xs[k]?=some x->m<x.names.length->((some (j+k),m,false):Slo)∈slotsA j xs
 |[],_,_,_,_,h,_=>by simp at h
 |y::ys,j,0,m,x,h,hm=>by
  simp only[List.getElem?_cons_zero,Option.some.injEq] at h
  subst h
  exact List.mem_append.2 (.inl (List.mem_map.2 ⟨m,List.mem_range.2 hm,rfl⟩))
 |y::ys,j,k+1,m,x,h,hm=>by
  have:=slotsA_in (xs:=ys) (j:=j+1) (k:=k) (by simpa using h) hm
  rw[show j+1+k=j+(k+1) by omega] at this
  exact List.mem_append.2 (.inr this)
theorem own_in {e:Ex} {m:Nat} (hm:m<ownC e):((none,m,decide (e.k=15)):Slo)∈slotsL e:=List.mem_append.2 (.inl (List.mem_map.2 ⟨m,List.mem_range.2 hm,rfl⟩))
theorem fr_slot {e:Ex} (hn:nodeErr e=0) {i:Nat} {h:Bool} {z:ByteArray} (hz:z∈selN h (fr e i)):∃ g∈slotsL e,place e g.1 i=true/\g.2.2=h/\nameAt e g=z:=by
 by_cases hi:i<e.l.length
 ·rw[fr_left hi] at hz
  have key:∀ c,z∈e.names.take c->(e.k=17->c<=1)->decide (e.k=15)=h->∃ g∈slotsL e,place e g.1 i=true/\g.2.2=h/\nameAt e g=z:=fun c hz hc hk=>by
   obtain ⟨m,hm,rfl⟩:=List.getElem_of_mem hz
   rw[List.length_take] at hm
   have hmo:m<ownC e:=by
    unfold ownC
    split
    ·have:=hc ‹_›;omega
    ·omega
   refine ⟨(none,m,decide (e.k=15)),own_in hmo,decide_eq_true hi,hk,?_⟩
   show e.names.getD m emp=_
   rw[getD_at (by omega),List.getElem_take]
  cases h with
  |true=>
   have hz:z∈ownH e i:=hz
   unfold ownH at hz
   split at hz
   ·rename_i hk
    exact key e.names.length (by rw[List.take_length];exact hz) (fun q=>by omega) (decide_eq_true hk)
   ·cases hz
  |false=>
   have hz:z∈ownV e i:=hz
   by_cases hk:e.k=15
   ·rw[(own_15 hk i).1] at hz;cases hz
   ·unfold ownV at hz
    split at hz
    ·exact key 1 hz (fun _=>Nat.le_refl _) (decide_eq_false hk)
    ·split at hz
     ·rename_i h7
      exact key (2-i) hz (fun q=>by omega) (decide_eq_false hk)
     ·cases hz
 ·cases h with
  |true=>
   have hz:z∈hOf e i:=hz
   unfold hOf at hz
   rw[if_neg hi] at hz;cases hz
  |false=>
   have hz:z∈vOf e i:=hz
   unfold vOf at hz
   rw[if_neg hi] at hz
   cases ha:e.arms[i-e.l.length]? with
   |none=>rw[ha] at hz;cases hz
   |some x=>
    rw[ha] at hz
    have hz:z∈x.names:=hz
    obtain ⟨m,hm,rfl⟩:=List.getElem_of_mem hz
    have:=slotsA_in (j:=0) ha hm
    rw[Nat.zero_add] at this
    refine ⟨_,List.mem_append.2 (.inr this),?_,rfl,?_⟩
    ·show decide (i=e.l.length+(i-e.l.length))=true
     exact decide_eq_true (by omega)
    ·show ((e.arms.getD (i-e.l.length) zAr).names).getD m emp=_
     have:e.arms.getD (i-e.l.length) zAr=x:=by rw[List.getD_eq_getElem?_getD,ha];rfl
     rw[this,getD_at hm]
theorem slotsF_no {S:Sub} (hS:SubV S) {e:Ex} (he:Okk e) {i:Nat} {p:Ex} (hp:(slotsF S e).parts[i]?=some p) (hx:S.x∉vOf (slotsF S e) i) (hF:FI false S.x p) {h:Bool} {z:ByteArray} (hz:FI h z S.v):z∉selN h (fr (slotsF S e) i):=by
 intro hm
 have hi:=slotSt_is hS.toSubOk he _ (Nat.le_refl _)
 have hk:=hi.kept.okk he
 obtain ⟨g,hg,h1,h2,h3⟩:=fr_slot hk.node hm
 rw[<-slots_like hi.like] at hg
 obtain ⟨m,hml,rfl⟩:=List.getElem_of_mem hg
 refine slot_no hS he _ (Nat.le_refl _) m hml hml ⟨?_,i,p,hp,h1,?_,hx,hF⟩
 ·rw[h2]
  have h3:nameAt (slotSt S e (slotsL e).length).1 (slotsL e)[m]=z:=h3
  rw[h3];exact hz
 ·have h3:nameAt (slotSt S e (slotsL e).length).1 (slotsL e)[m]=z:=h3
  rw[h2,h3];exact hm
def hitS (S:Sub) (e:Ex):Bool:=(occ e).2.2&&!(occ e).2.1&&decide ((occ e).1=S.x)
theorem hitS_iff {S:Sub} {e:Ex}:hitS S e=true↔occ e=(S.x,false,true):=by
 unfold hitS
 simp only[Bool.and_eq_true,Bool.not_eq_true',decide_eq_true_eq]
 exact ⟨fun ⟨⟨q1,q2⟩,q3⟩=>by rw[<-q1,<-q2,<-q3],fun q=>by rw[q];exact ⟨⟨rfl,rfl⟩,rfl⟩⟩
def hitE (S:Sub) (e:Ex):Ex:=if hitS S e then setS e S.v.s else e
theorem hitE_occR (S:Sub) (e:Ex):hitE S e=occR S.x S.v.s false e:=by
 unfold hitE
 rcases occR_or S.x S.v.s false e with ⟨q,r⟩|⟨q,r⟩
 ·rw[r,if_pos (hitS_iff.2 q)]
 ·rw[r,if_neg (fun w=>q (hitS_iff.1 w))]
noncomputable def substN (S:Sub):Nat->Ex->Ex
 |0,e=>e
 |n+1,e=>if hitS S e&&decide (e.k=0) then S.v else
  withP (slotsF S (hitE S e)) ((slotsF S (hitE S e)).parts.mapIdx fun i p=>if has (vOf (slotsF S (hitE S e)) i) S.x then p else substN S n p)
theorem occ_zero {v:Ex} (hk:v.k=0):occ v=(v.s,false,true):=by
 unfold occ;rw[if_pos (.inl hk)]
theorem hitE_kept {S:Sub} (hS:SubV S) {e:Ex} (he:Okk e) (hv:hitS S e=true->S.v.k=0):Kept e (hitE S e):=by
 by_cases hh:hitS S e=true
 ·have ho:=occ_zero (hv hh)
  have hvar:isVar S.v.s=true:=by
   have:=occ_var hS.ok.node (by rw[ho])
   rw[ho] at this;exact this
  rw[hitE_occR]
  obtain ⟨n1,n2⟩:=node_occR (a:=S.x) (b:=S.v.s) (h:=false) he.node he.1.one hvar
  refine kept_of (like_occR _ _ _ e) ⟨n1,n2⟩ fun i x y hx hy=>?_
  rw[J13,hx] at hy
  cases hy
  exact (he.part (List.mem_of_getElem? hx)).kept
 ·unfold hitE
  rw[if_neg hh];exact he.kept
theorem subst_db {S:Sub} (hS:SubV S):∀ (n:Nat) (e:Ex) (L:List Nm),e.nodes<=n->Okk e->S.x∉env false L->(FI false S.x e->∀ h z,FI h z S.v->z∉env h L)->(S.v.k=0\/spB S.x (db e L)=false) ->
  db (substN S n e) L=subD S.x (db S.v []) (db e L)/\checked (substN S n e)=0/\Fit (substN S n e)
 |0,e,L,hn,_,_,_,_=>by have:=Ex.nodes_eq e;omega
 |n+1,e,L,hn,he,hxL,hvL,hsp=>by
  have hV:FI false S.x e->db S.v L=db S.v []:=fun hx=>db_congr _ _ _ fun h z hz=>by
   rw[res_free (hvL hx h z hz)];rfl
  have hx0:hasN L S.x false=false:=by
   cases q:hasN L S.x false with
   |false=>rfl
   |true=>exact absurd ((hasN_env _ _ _).1 q) hxL
  have hhit:hitR S.x (refF e L)=hitS S e:=by rw[hit_db,hx0];simp[hitS]
  have hFx:hitS S e=true->FI false S.x e:=fun q=>(FI_eq _ _ e).2 (.inl (hitS_iff.1 q))
  have hlk:(labF e).k=e.k:=rfl
  unfold substN
  by_cases hc:(hitS S e&&decide (e.k=0))=true
  ·rw[if_pos hc]
   simp only[Bool.and_eq_true,decide_eq_true_eq] at hc
   rw[db_eq e,subD_mk,hhit,if_pos hc.1,hlk,if_pos hc.2]
   exact ⟨hV (hFx hc.1),hS.ok.2.1,hS.ok.1⟩
  ·rw[if_neg hc]
   have hv0:hitS S e=true->S.v.k=0:=fun q=>by
    have hk:e.k≠0:=fun r=>hc (by rw[q,r];rfl)
    rcases hsp with r|r
    ·exact r
    ·rw[db_eq,spB_mk,hhit,q,hlk,Bool.or_eq_false_iff] at r
     have:=r.1
     simp[hk] at this
   have hke:=hitE_kept hS he hv0
   have hk1:=hke.okk he
   have hisn:=slotSt_is hS.toSubOk hk1 _ (Nat.le_refl _)
   have hsd:=fun M=>slotSt_db hS hk1 M _ (Nat.le_refl _)
   have hno:=fun i p=>slotsF_no hS hk1 (i:=i) (p:=p)
   have hkf:Kept (hitE S e) (slotsF S (hitE S e)):=hisn.kept
   have hlf:Like (hitE S e) (slotsF S (hitE S e)):=hisn.like
   have hsd:∀ M,db (slotsF S (hitE S e)) M=db (hitE S e) M:=hsd
   clear hisn
   generalize slotsF S (hitE S e)=f at hkf hlf hsd hno ⊢
   have hkk:=hkf.okk hk1
   have hl:(f.parts.mapIdx fun i p=>if has (vOf f i) S.x then p else substN S n p).length=f.parts.length:=List.length_mapIdx
   have hfx:FI false S.x f->FI false S.x e:=fun q=>by
    by_cases hh:hitS S e=true
    ·exact hFx hh
    ·have h1:=(FI_db false S.x f []).2 ⟨q,by simp[env]⟩
     rw[hsd] at h1
     have h2:=((FI_db _ _ _ []).1 h1).1
     unfold hitE at h2
     rwa [if_neg hh] at h2
   have hlab:labF f=labF e:=by
    rw[<-lab_like.2 hlf,hitE_occR,<-lab_like.2 (like_occR _ _ _ e)]
   have hLf:=hsd L
   rw[db_eq f,db_eq (hitE S e)] at hLf
   injection hLf with hL1 hL2 hL3
   have hkid:(hitE S e).parts.mapIdx (fun i p=>db p (fr (hitE S e) i::L))=e.parts.mapIdx fun i p=>db p (fr e i::L):=by
    rw[hitE_occR,J13]
    refine mapIdx_ext fun i p _=>?_
    rw[fr_occR]
   rw[hkid] at hL3
   have hsp':∀ i p,f.parts[i]?=some p->(S.v.k=0\/spB S.x (db p (fr f i::L))=false):=fun i p hp=>by
    rcases hsp with q|q
    ·exact .inl q
    ·right
     rw[db_eq,spB_mk,<-hL3,Bool.or_eq_false_iff,List.any_eq_false] at q
     have:=q.2 (db p (fr f i::L)) (List.mem_of_getElem? (i:=i) (by rw[List.getElem?_mapIdx,hp];rfl))
     simpa using this
   have ih:∀ i p,f.parts[i]?=some p->db (if has (vOf f i) S.x=true then p else substN S n p) (fr f i::L)=subD S.x (db S.v []) (db p (fr f i::L))/\checked (if has (vOf f i) S.x=true then p else substN S n p)=0/\Fit (if has (vOf f i) S.x=true then p else substN S n p):=fun i p hp=>by
    have hm:=List.mem_of_getElem? hp
    have hpk:=hkk.part hm
    by_cases hq:has (vOf f i) S.x=true
    ·rw[if_pos hq]
     refine ⟨(subD_free _ ?_).symm,hpk.2.1,hpk.1⟩
     have:¬ 0<cntD S.x (db p (fr f i::L)):=fun w=>by
      have:=((FI_db _ _ _ _).1 ((cnt_fv _).1 w)).2
      refine this ?_
      show S.x∈(vOf f i).reverse++env false L
      rw[List.mem_append,List.mem_reverse]
      exact .inl ((P11 _ _).1 hq)
     omega
    ·rw[if_neg hq]
     have hq':S.x∉vOf f i:=fun w=>hq ((P11 _ _).2 w)
     refine subst_db hS n p (fr f i::L) ?_ hpk ?_ (fun hF h z hz=>?_) (hsp' i p hp)
     ·have h1:=Ex.part_lt hm
      have h2:=hkf.nodes
      have h3:=hke.nodes
      omega
     ·show S.x∉(vOf f i).reverse++env false L
      rw[List.mem_append,List.mem_reverse,not_or]
      exact ⟨hq',hxL⟩
     ·show z∉(selN h (fr f i)).reverse++env h L
      rw[List.mem_append,List.mem_reverse,not_or]
      exact ⟨hno i p hp hq' hF hz,hvL (hfx (FI_part hp hF hq')) h z hz⟩
   refine ⟨?_,?_,?_⟩
   ·have hlw:labF (withP f (f.parts.mapIdx fun i p=>if has (vOf f i) S.x then p else substN S n p))=labF f:=(lab_like.2 (like_with hl)).symm
    have hrw:refF (withP f (f.parts.mapIdx fun i p=>if has (vOf f i) S.x then p else substN S n p)) L=refF f L:=rfl
    have hkids:((f.parts.mapIdx fun i p=>if has (vOf f i) S.x then p else substN S n p).mapIdx fun i p=>db p (fr f i::L))=(e.parts.mapIdx fun i p=>db p (fr e i::L)).map (subD S.x (db S.v [])):=by
     rw[<-hL3,mapIdx_map2]
     refine List.ext_getElem? fun i=>?_
     rw[List.getElem?_mapIdx,List.getElem?_mapIdx,List.getElem?_mapIdx]
     cases hp:f.parts[i]? with
     |none=>rfl
     |some p=>exact congrArg some (ih i p hp).1
    rw[db_eq,hlw,hrw,withP_parts hl,hlab,hL2]
    have hfrw:(f.parts.mapIdx fun i p=>if has (vOf f i) S.x then p else substN S n p).mapIdx (fun i p=>db p (fr (withP f (f.parts.mapIdx fun i p=>if has (vOf f i) S.x then p else substN S n p)) i::L))=(f.parts.mapIdx fun i p=>if has (vOf f i) S.x then p else substN S n p).mapIdx fun i p=>db p (fr f i::L):=mapIdx_ext fun i p _=>by rw[fr_with hl]
    rw[hfrw,hkids,db_eq e,subD_mk,hhit,hlk]
    by_cases hh:hitS S e=true
    ·have hk:e.k≠0:=fun r=>hc (by rw[hh,r];rfl)
     rw[if_pos hh,if_neg hk]
     congr 1
     have ho:=occ_zero (hv0 hh)
     have hs:=hitS_iff.1 hh
     unfold hitE refF
     rw[if_pos hh,occ_setS _ (by rw[hs]),hs]
     have hvs:FI false S.v.s S.v:=(FI_eq _ _ _).2 (.inl ho)
     show some (false,res (env false L) S.v.s)=(db S.v []).ref
     rw[db_eq]
     show _=refF S.v []
     unfold refF
     rw[ho]
     show _=some (false,res (env false []) S.v.s)
     rw[res_free (hvL (hFx hh) false _ hvs)];rfl
    ·rw[if_neg hh]
     congr 1
     unfold hitE
     rw[if_neg hh]
   ·rw[M11,withP_parts hl]
    refine ⟨(node_with hl hkk.node hkk.1.one).1,fun y hy=>?_⟩
    obtain ⟨i,hi,rfl⟩:=List.getElem_of_mem hy
    rw[List.length_mapIdx] at hi
    rw[List.getElem_mapIdx]
    exact (ih i _ (List.getElem?_eq_getElem hi)).2.1
   ·rw[Fit.eq,withP_parts hl]
    refine ⟨(node_with hl hkk.node hkk.1.one).2,fun y hy=>?_⟩
    obtain ⟨i,hi,rfl⟩:=List.getElem_of_mem hy
    rw[List.length_mapIdx] at hi
    rw[List.getElem_mapIdx]
    exact (ih i _ (List.getElem?_eq_getElem hi)).2.2
theorem sub_step {S:Sub} (hS:SubV S) {e:Ex} {L:List Nm} (he:Okk e) (hxL:S.x∉env false L) (hsp:S.v.k=0\/spB S.x (db e L)=false) (hc:(hitS S e&&decide (e.k=0))=false) :
  Okk (hitE S e)/\(hitE S e).nodes=e.nodes/\∀ i p,(slotsF S (hitE S e)).parts[i]?=some p->has (vOf (slotsF S (hitE S e)) i) S.x=false ->
   S.x∉env false (fr (slotsF S (hitE S e)) i::L)/\(S.v.k=0\/spB S.x (db p (fr (slotsF S (hitE S e)) i::L))=false):=by
 have hx0:hasN L S.x false=false:=by
  cases q:hasN L S.x false with
  |false=>rfl
  |true=>exact absurd ((hasN_env _ _ _).1 q) hxL
 have hhit:hitR S.x (refF e L)=hitS S e:=by rw[hit_db,hx0];simp[hitS]
 have hlk:(labF e).k=e.k:=rfl
 have hv0:hitS S e=true->S.v.k=0:=fun q=>by
  have hk:e.k≠0:=fun r=>by rw[q,r] at hc;cases hc
  rcases hsp with r|r
  ·exact r
  ·rw[db_eq,spB_mk,hhit,q,hlk,Bool.or_eq_false_iff] at r
   have:=r.1
   simp[hk] at this
 have hke:=hitE_kept hS he hv0
 have hk1:=hke.okk he
 refine ⟨hk1,hke.nodes,fun i p hp hq=>⟨?_,?_⟩⟩
 ·have hq':S.x∉vOf (slotsF S (hitE S e)) i:=fun w=>by rw[(P11 _ _).2 w] at hq;cases hq
  show S.x∉(vOf (slotsF S (hitE S e)) i).reverse++env false L
  rw[List.mem_append,List.mem_reverse,not_or]
  exact ⟨hq',hxL⟩
 ·have hsd:db (slotsF S (hitE S e)) L=db (hitE S e) L:=slotSt_db hS hk1 L _ (Nat.le_refl _)
  generalize slotsF S (hitE S e)=f at hp hq hsd ⊢
  have hkid:(hitE S e).parts.mapIdx (fun i p=>db p (fr (hitE S e) i::L))=e.parts.mapIdx fun i p=>db p (fr e i::L):=by
   rw[hitE_occR,J13]
   refine mapIdx_ext fun i p _=>?_
   rw[fr_occR]
  rw[db_eq f,db_eq (hitE S e)] at hsd
  injection hsd with hL1 hL2 hL3
  rw[hkid] at hL3
  rcases hsp with q|q
  ·exact .inl q
  ·right
   rw[db_eq,spB_mk,<-hL3,Bool.or_eq_false_iff,List.any_eq_false] at q
   have:=q.2 (db p (fr f i::L)) (List.mem_of_getElem? (i:=i) (by rw[List.getElem?_mapIdx,hp];rfl))
   simpa using this
def mineV:Option (List ByteArray)->AV
 |none=>.val (.map none)
 |some l=>.imap (kv l)
def HI (Hr:HM) (b3 bt b9:Nat) (a:St3):HM:=((Hr.upd b3 (.cells 27 a.1.av.cells)).upd bt (.map (kv a.2.2))).upd b9 (.cells 67 [mineV a.2.1])
section
variable {Hr:HM} {b3 bt b9:Nat} {a:St3}
theorem HI_9:HI Hr b3 bt b9 a b9=some (.cells 67 [mineV a.2.1]):=HM.upd_same _ _ _
theorem HI_t (h:bt≠b9):HI Hr b3 bt b9 a bt=some (.map (kv a.2.2)):=by unfold HI;rw[HM.upd_ne _ _ h,HM.upd_same]
theorem HI_3 (h:b3≠b9) (h2:b3≠bt):HI Hr b3 bt b9 a b3=some (.cells 27 a.1.av.cells):=by unfold HI;rw[HM.upd_ne _ _ h,HM.upd_ne _ _ h2,HM.upd_same]
theorem HI_u9 (m:Option (List ByteArray)):(HI Hr b3 bt b9 a).upd b9 (.cells 67 [mineV m])=HI Hr b3 bt b9 (a.1,m,a.2.2):=by unfold HI;rw[HM.upd_upd]
theorem HI_ut (h:bt≠b9) (t:List ByteArray):(HI Hr b3 bt b9 a).upd bt (.map (kv t))=HI Hr b3 bt b9 (a.1,a.2.1,t):=by
 unfold HI;rw[HM.upd_comm _ _ _ h.symm,HM.upd_upd]
theorem HI_u3 (h:b3≠b9) (h2:b3≠bt) (e:Ex):(HI Hr b3 bt b9 a).upd b3 (.cells 27 e.av.cells)=HI Hr b3 bt b9 (e,a.2):=by
 unfold HI;rw[HM.upd_comm _ _ _ h.symm,HM.upd_comm _ _ _ h2.symm,HM.upd_upd]
theorem HI_drop (h3:Hr b3=none) (ht:Hr bt=none) (h9:Hr b9=none):Drop (HI Hr b3 bt b9 a) Hr:=fun k=>by
 by_cases q9:k=b9
 ·rw[q9];exact .inl h9
 by_cases qt:k=bt
 ·rw[qt];exact .inl ht
 by_cases q3:k=b3
 ·rw[q3];exact .inl h3
 unfold HI
 rw[HM.upd_ne _ _ q9,HM.upd_ne _ _ qt,HM.upd_ne _ _ q3];exact .inr rfl
end
section
variable {G:GT} {H:HM}
theorem in1_c (S:Sub) (s:ByteArray) (mine taken:List ByteArray) {b9 bt:Nat} (h9:H b9=some (.cells 67 [.imap (kv mine)])) (ht:H bt=some (.map (kv taken))) :
  PureF prog G 113 [.str s,.addr b9 0,.ref [.ref S.cells],.ref [.map bt]] H (.bool (has (mine++(S.nm++(S.x::taken))) s)):=by
 have ha:has (mine++(S.nm++(S.x::taken))) s=(has mine s||(has S.nm s||(decide (s=S.x)||has taken s))):=by
  have:decide (s=S.x)=decide (S.x=s):=by rw[Bool.eq_iff_iff,decide_eq_true_eq,decide_eq_true_eq];exact eq_comm
  rw[this]
  unfold has;rw[List.any_append,List.any_append];rfl
 rw[ha]
 refine P10 (fn:=f113) func113 rfl (by kernel_rfl) (by kernel_rfl) (Nat.le_of_ble_eq_true (by kernel_rfl)) fun K hk=>?_
 refine A10 [] fun N E hN hE=>?_
 simp +decide only[ZS,↓reduceIte]
 refine hN _ ?_
 clear hN hE N E
 refine O11 [] (fun s'=>s'.tmps 5=.bool (has mine s||(has S.nm s||(decide (s=S.x)||has taken s)))/\s'.H=H/\s'.defs=[]) (fun N E hN hE=>?_) ?_
 ·clear hE hk
  simp +decide only[ZS,↓reduceIte,h9,ht,vlk_kv,Sub.cells]
  refine V10 (fun hb1=>?_) (fun hb1=>?_)
  ·simp +decide only[ZS,↓reduceIte,h9,ht,vlk_kv,Sub.cells,hb1]
   refine hN _ ⟨?_,rfl,rfl⟩
   simp +decide only[ZS,↓reduceIte]
   rw[hb1];rfl
  ·simp +decide only[ZS,↓reduceIte,h9,ht,vlk_kv,Sub.cells,hb1]
   refine V10 (fun hb2=>?_) (fun hb2=>?_)
   ·simp +decide only[ZS,↓reduceIte,h9,ht,vlk_kv,Sub.cells,hb1,hb2]
    refine hN _ ⟨?_,rfl,rfl⟩
    simp +decide only[ZS,↓reduceIte]
    rw[hb1,hb2];rfl
   ·simp +decide only[ZS,↓reduceIte,h9,ht,vlk_kv,Sub.cells,hb1,hb2]
    refine V10 (fun hb3=>?_) (fun hb3=>?_)
    ·simp +decide only[ZS,↓reduceIte,h9,ht,vlk_kv,Sub.cells,hb1,hb2,hb3]
     refine hN _ ⟨?_,rfl,rfl⟩
     simp +decide only[ZS,↓reduceIte]
     rw[hb1,hb2,hb3];rfl
    ·simp +decide only[ZS,↓reduceIte,h9,ht,vlk_kv,Sub.cells,hb1,hb2,hb3]
     refine hN _ ⟨?_,rfl,rfl⟩
     simp +decide only[ZS,↓reduceIte]
     rw[hb1,hb2,hb3];rfl
 rintro ⟨tm,H1,ds⟩ ⟨f5,gH,gds⟩
 obtain rfl:H1=H:=gH
 obtain rfl:ds=[]:=gds
 refine B10 5 _ f5 ?_
 refine L10 (K10 5 rfl ?_)
 simp +decide only[ZS,↓reduceIte]
 exact hk
end
theorem left_nodes (e:Ex):∀ n d:Int,0<=left e n d->left e n d=n-e.nodes:=by
 induction e using Ex.ind with
 |step e ih=>
  intro n d h
  rw[left_eq] at h ⊢
  split at h
  ·omega
  ·rename_i hd
   rw[if_neg hd]
   have key:∀ (l:List Ex),(∀ x∈l,x∈e.parts)->∀ m:Int,0<=leftL (l.map left) m (d-1)->leftL (l.map left) m (d-1)=m-((l.map Ex.nodes).sum:Nat):=by
    intro l
    induction l with
    |nil=>intro _ m _;show m=m-((0:Nat):Int);omega
    |cons x l ihl=>
     intro hx m hm
     simp only[List.map_cons,leftL,List.sum_cons] at hm ⊢
     split at hm
     ·rename_i h0
      rw[if_pos h0]
      have h1:=ihl (fun y hy=>hx y (by simp[hy])) _ hm
      have h2:0<=left x m (d-1):=by
       refine Classical.byContradiction fun q=>?_
       rw[leftL_stop _ _ _ (by omega)] at hm
       omega
      have h3:=ih x (hx x (by simp)) _ _ h2
      rw[h1,h3];omega
     ·omega
   rw[key e.parts (fun _ h=>h) _ h,Ex.nodes_eq];omega
theorem A13 {e:Ex} (hc:check e=0):e.nodes<=3000/\size e=e.nodes:=by
 have h0:¬ left e 3000 200<0:=fun q=>by
  unfold check at hc;rw[if_pos q] at hc;cases hc
 have h1:=left_nodes e 3000 200 (by omega)
 have h2:=left_le e 3000 200 (by decide)
 unfold size
 rw[if_pos hc]
 omega
theorem armsF_names (h:Bool):∀ (l b:List Ar),armsF h b l=0->∀ x∈l,x.names.length<=4
 |[],_,_,_,hx=>by cases hx
 |a::l,b,h0,x,hx=>by
  unfold armsF at h0
  split at h0
  ·cases h0
  ·rename_i h1
   split at h0
   ·cases h0
   ·split at h0
    ·split at h0
     ·cases h0
     ·rcases List.mem_cons.1 hx with q|q
      ·subst q
       have h1:armArity h (h&&b.isEmpty) x=false:=by simpa using h1
       unfold armArity at h1
       simp only[Bool.or_eq_false_iff,Bool.and_eq_false_iff,Bool.not_eq_false',decide_eq_true_eq,decide_eq_false_iff_not] at h1
       obtain ⟨⟨h2,h3⟩,h4⟩:=h1
       rcases h4 with h4|h4
       ·have hh:h=true:=by cases h<;>simp_all
        rcases h2 with h2|h2
        ·rcases h3 with (h3|h3)|h3
         ·rw[hh] at h3;cases h3
         ·exfalso
          rw[hh] at h2
          rcases h2 with q|q
          ·cases q
          ·rw[hh,q] at h3;cases h3
         ·omega
        ·omega
       ·omega
      ·exact armsF_names h l _ h0 x q
    ·rename_i h2
     exact absurd h0 h2
theorem node_wid {e:Ex} (hn:nodeErr e=0):1+e.names.length+(e.arms.map fun a=>a.names.length).sum<=64:=by
 obtain ⟨x,hx,hk,_,_,hb,_,ha⟩:=(O13 e).1 hn
 have hxm:x.Names<=2:=by
  have hm:=List.mem_of_getElem? hx
  have:∀ x∈shapes,x.Names<=2:=by decide
  exact this x hm
 unfold nodeBad nodeMany at hb
 simp only[Bool.or_eq_false_iff,Bool.not_eq_false',Bool.or_eq_true,Bool.and_eq_true,decide_eq_true_eq,Bool.and_eq_false_iff,decide_eq_false_iff_not] at hb
 obtain ⟨⟨⟨h1,_⟩,h2⟩,h3⟩:=hb
 have hnl:e.names.length<=13:=by omega
 have har:∀ y∈e.arms,y.names.length<=4:=fun y hy=>by
  by_cases q:x.Arms=true
  ·have h4:=ha q
   unfold armsErr at h4
   split at h4
   ·exact armsF_names _ _ _ ‹_› y hy
   ·rename_i h5;exact absurd h4 h5
  ·have h0:e.arms.length=0:=by
    rcases h2 with h2|h2
    ·exact absurd h2 q
    ·omega
   rw[List.eq_nil_of_length_eq_zero h0] at hy;cases hy
 have hsum:∀ l:List Ar,(∀ y∈l,y.names.length<=4)->(l.map fun a=>a.names.length).sum<=4*l.length:=fun l=>by
  induction l with
  |nil=>intro _;exact Nat.le_refl _
  |cons y l ih=>
   intro h
   have h5:=ih fun z hz=>h z (by simp[hz])
   have h6:=h y (by simp)
   simp only[List.map_cons,List.sum_cons,List.length_cons];omega
 have:=hsum e.arms har
 omega
theorem wid_nodes (e:Ex):checked e=0->e.wid<=64*e.nodes:=by
 induction e using Ex.ind with
 |step e ih=>
  intro hc
  obtain ⟨hn,hp⟩:=(M11 e).1 hc
  have h1:=node_wid hn
  rw[Ex.wid_eq,Ex.nodes_eq]
  have key:∀ l:List Ex,(∀ x∈l,x∈e.parts)->(l.map Ex.wid).sum<=64*(l.map Ex.nodes).sum:=fun l=>by
   induction l with
   |nil=>intro _;exact Nat.le_refl _
   |cons x l ihl=>
    intro h
    have h2:=ihl fun y hy=>h y (by simp[hy])
    have h3:=ih x (h x (by simp)) (hp x (h x (by simp)))
    simp only[List.map_cons,List.sum_cons];omega
  have:=key e.parts fun _ h=>h
  omega
theorem okk_of {e:Ex} (hc:checked e=0) (hf:Fit e) (hn:e.nodes<=200000):Okk e:=by
 have:=wid_nodes e hc
 have hb:bnd=16777216:=rfl
 exact ⟨hf,hc,by omega,by omega⟩
theorem okk_inp {e:Ex} (h:Okk e):Inp e:=⟨h.1,h.2.2.1,h.2.2.2⟩
theorem slots_id {S:Sub} (hS:SubV S) {e:Ex} (he:Okk e) (hx:¬ FI false S.x e):∀ n,n<=(slotsL e).length->slotSt S e n=(e,none,[])
 |0,_=>rfl
 |n+1,hn=>by
  rw[slotSt_succ S (by omega),slots_id hS he hx n (by omega)]
  unfold stepIn
  rw[if_neg fun q=>?_]
  obtain ⟨_,i,p,hp,_,_,h4,h5⟩:=(cap_iff hS he).1 q
  exact hx (FI_part hp h5 h4)
theorem subst_id {S:Sub} (hS:SubV S):∀ (n:Nat) (e:Ex),e.nodes<=n->Okk e->¬ FI false S.x e->substN S n e=e
 |0,e,hn,_,_=>by have:=Ex.nodes_eq e;omega
 |n+1,e,hn,he,hx=>by
  have hh:hitS S e=false:=by
   cases q:hitS S e with
   |false=>rfl
   |true=>exact absurd ((FI_eq false S.x e).2 (.inl (hitS_iff.1 q))) hx
  have he1:hitE S e=e:=by unfold hitE;rw[hh];rfl
  have hsf:slotsF S e=e:=by unfold slotsF;rw[slots_id hS he hx _ (Nat.le_refl _)]
  unfold substN
  rw[hh,Bool.false_and,if_neg (by decide),he1,hsf]
  have:(e.parts.mapIdx fun i p=>if has (vOf e i) S.x=true then p else substN S n p)=e.parts:=by
   refine List.ext_getElem? fun i=>?_
   rw[List.getElem?_mapIdx]
   cases hp:e.parts[i]? with
   |none=>rfl
   |some p=>
    show some (if has (vOf e i) S.x=true then p else substN S n p)=some p
    congr 1
    by_cases q:has (vOf e i) S.x=true
    ·rw[if_pos q]
    ·rw[if_neg q]
     have hm:=List.mem_of_getElem? hp
     have:=Ex.part_lt hm
     exact subst_id hS n p (by omega) (he.part hm) fun w=>hx (FI_part hp w fun r=>q ((P11 _ _).2 r))
  rw[this,withP_self]
def mkS (x:ByteArray) (v:Ex):Sub:=⟨x,v,freeK v false,freeK v true,allK v⟩
theorem mkS_ok {x:ByteArray} {v:Ex} (hx:isVar x=true) (hv:Okk v):SubV (mkS x v) where
 ok:=hv
 x:=hx
 nm:=Nat.le_trans (allK_len v) hv.2.2.2
 set:=fun h z=>by
  have:(mkS x v).set h=freeK v h:=by cases h<;>rfl
  rw[this,freeK_mem];rfl
 nms:=fun z hz=>(allK_mem v z).2 hz
noncomputable def subOut (x:ByteArray) (v e:Ex):Ex:=substN (mkS x v) e.nodes e
def sizeS (x:ByteArray) (v e:Ex):Int:=size e+(usesK x e).1*(size v-1)
noncomputable def sSub (e:Ex) (x:ByteArray) (v:Ex):Ex×Int:=
 if check e≠0 then (zeroEx,check e) else if isVar x=false then (zeroEx,4) else if check v≠0 then (zeroEx,check v) else
 if (usesK x e).2=true/\v.k≠0 then (zeroEx,1) else if 3000<sizeS x v e then (zeroEx,3) else
 if check (subOut x v e)=3 then (zeroEx,3) else (subOut x v e,0)
structure SG (e:Ex) (x:ByteArray) (v out:Ex):Prop where
 ce:check e=0
 vx:isVar x=true
 cv:check v=0
 sp:v.k=0\/spB x (db e [])=false
 ok:Okk out
 c:check out=0
 d:db out []=subD x (db v []) (db e [])
 n:out.nodes+cntD x (db e [])=e.nodes+cntD x (db e [])*v.nodes
 id:cntD x (db e [])=0->out=e
theorem fits_of {e v:Ex} {x:ByteArray} (hv:checked v=0) (h:v.k=0\/spB x (db e [])=false):Fits x (db v []) (db e []):=by
 rcases h with h|h
 ·right
  rw[db_eq,var_parts ((M11 v).1 hv).1 h]
  exact ⟨_,_,rfl⟩
 ·exact .inl h
theorem uses_k {e:Ex} (he:check e=0) (x:ByteArray):usesK x e=(((cntD x (db e []):Nat):Int),spB x (db e [])):=uses_db (Nat.le_trans (A13 he).1 (by decide)) x
theorem subOut_good {e v:Ex} {x:ByteArray} (he:Okk e) (hv:Okk v) (hx:isVar x=true) (hsp:v.k=0\/spB x (db e [])=false) :
  db (subOut x v e) []=subD x (db v []) (db e [])/\checked (subOut x v e)=0/\Fit (subOut x v e)/\(subOut x v e).nodes+cntD x (db e [])=e.nodes+cntD x (db e [])*v.nodes/\(cntD x (db e [])=0->subOut x v e=e):=by
 have hS:=mkS_ok hx hv
 obtain ⟨h1,h2,h3⟩:=subst_db hS e.nodes e [] (Nat.le_refl _) he (by simp[env]) (fun _ h z _=>by simp[env]) hsp
 have h1:db (subOut x v e) []=subD x (db v []) (db e []):=h1
 have h4:=nodes_sub (x:=x) (V:=db v []) (db e []) (leaf_db e he.2.1 []) (fits_of hv.2.1 hsp)
 rw[<-h1,nodes_db,nodes_db,nodes_db] at h4
 refine ⟨h1,h2,h3,h4,fun h0=>subst_id hS _ e (Nat.le_refl _) he fun q=>?_⟩
 have:=(cnt_fv (x:=x) (db e [])).2 ((FI_db false x e []).2 ⟨q,by simp[env]⟩)
 omega
theorem sizeS_eq {e v:Ex} {x:ByteArray} (he:check e=0) (hv:check v=0):sizeS x v e=(e.nodes:Int)+((cntD x (db e []):Nat):Int)*((v.nodes:Int)-1):=by
 unfold sizeS
 rw[uses_k he,(A13 he).2,(A13 hv).2]
theorem sSub_ok {e v:Ex} {x:ByteArray} (hie:Inp e) (hiv:Inp v) (h:(sSub e x v).2=0):SG e x v (sSub e x v).1:=by
 unfold sSub at h ⊢
 by_cases h1:check e≠0
 ·rw[if_pos h1] at h;exact absurd h h1
 rw[if_neg h1] at h ⊢
 by_cases h2:isVar x=false
 ·rw[if_pos h2] at h;cases h
 rw[if_neg h2] at h ⊢
 by_cases h3:check v≠0
 ·rw[if_pos h3] at h;exact absurd h h3
 rw[if_neg h3] at h ⊢
 by_cases h4:(usesK x e).2=true/\v.k≠0
 ·rw[if_pos h4] at h;cases h
 rw[if_neg h4] at h ⊢
 by_cases h5:3000<sizeS x v e
 ·rw[if_pos h5] at h;cases h
 rw[if_neg h5] at h ⊢
 by_cases h6:check (subOut x v e)=3
 ·rw[if_pos h6] at h;cases h
 rw[if_neg h6] at h ⊢
 have c1:check e=0:=Classical.byContradiction h1
 have c3:check v=0:=Classical.byContradiction h3
 have c2:isVar x=true:=by simpa using h2
 rw[uses_k c1] at h4
 have hsp:v.k=0\/spB x (db e [])=false:=by
  by_cases q:v.k=0
  ·exact .inl q
  ·right
   cases w:spB x (db e []) with
   |false=>rfl
   |true=>exact absurd ⟨w,q⟩ h4
 obtain ⟨g1,g2,g3,g4,g5⟩:=subOut_good (hie.okk c1) (hiv.okk c3) c2 hsp
 have hc:check (subOut x v e)=0:=by
  unfold check at h6 ⊢
  split at h6
  ·exact absurd rfl h6
  ·rename_i h7;rw[if_neg h7];exact g2
 have hn:=(A13 hc).1
 exact ⟨c1,c2,c3,hsp,okk_of g2 g3 (Nat.le_trans hn (by decide)),hc,g1,g4,g5⟩
theorem alpha_db0 (a b:Ex):alphaF a b []=true↔db a []=db b []:=alpha_db a b [] [] trivial
theorem SG.inp {e v out:Ex} {x:ByteArray} (g:SG e x v out):Inp out:=okk_inp g.ok
theorem sSub_of {e v:Ex} {x:ByteArray} (he:check e=0) (hx:isVar x=true) (hv:check v=0) (hsp:v.k=0\/spB x (db e [])=false) (hsz:e.nodes+cntD x (db e [])*v.nodes<=3000+cntD x (db e [])) (ho:check (subOut x v e)=0):sSub e x v=(subOut x v e,0):=by
 have h5:¬ 3000<sizeS x v e:=by
  rw[sizeS_eq he hv,Int.mul_sub,Int.mul_one]
  have h2:((e.nodes+cntD x (db e [])*v.nodes:Nat):Int)<=((3000+cntD x (db e []):Nat):Int):=Int.ofNat_le.2 hsz
  rw[Int.natCast_add,Int.natCast_add,Int.natCast_mul] at h2
  omega
 unfold sSub
 rw[if_neg (fun q=>q he),if_neg (by rw[hx];decide),if_neg (fun q=>q hv),if_neg,if_neg h5,if_neg (by rw[ho];decide)]
 rw[uses_k he]
 rintro ⟨q1,q2⟩
 rcases hsp with r|r
 ·exact q2 r
 ·rw[r] at q1;cases q1
theorem respects {e w:Ex} {x:ByteArray} (hie:Inp e) (hiw:Inp w) (h:(sSub e x w).2=0) :
  (sSub (sCanon e) x (sUniq w)).2=0/\SG (sCanon e) x (sUniq w) (sSub (sCanon e) x (sUniq w)).1/\alphaF (sSub e x w).1 (sSub (sCanon e) x (sUniq w)).1 []=true/\alphaF (sSub (sCanon e) x (sUniq w)).1 (sSub e x w).1 []=true:=by
 have g:=sSub_ok hie hiw h
 generalize (sSub e x w).1=a at g ⊢
 obtain ⟨gc,_⟩:=sCanon_good hie g.ce
 obtain ⟨gd,_⟩:=sUniq_good hiw g.cv
 generalize sCanon e=c at gc ⊢
 generalize sUniq w=d at gd ⊢
 have hc:=(alpha_db0 e c).1 gc.a
 have hd:=(alpha_db0 w d).1 gd.a
 have hk:d.k=w.k:=by
  have:labF w=labF d:=by
   have:=congrArg DT.lab hd
   rw[db_eq,db_eq] at this;exact this
  exact (lab_like.1 this).k.symm
 have hsp:d.k=0\/spB x (db c [])=false:=by rw[hk,<-hc];exact g.sp
 have hcn:c.nodes=e.nodes:=by rw[<-nodes_db c [],<-hc,nodes_db]
 have hdn:d.nodes=w.nodes:=by rw[<-nodes_db d [],<-hd,nodes_db]
 obtain ⟨o1,o2,o3,o4,_⟩:=subOut_good gc.ok gd.ok g.vx hsp
 have hdb:db a []=db (subOut x d c) []:=by rw[g.d,o1,hc,hd]
 have ha1:=(alpha_db0 _ _).2 hdb
 have ha2:=(alpha_db0 _ _).2 hdb.symm
 have ho:=left_check g.c ha1 o2
 have hsz:c.nodes+cntD x (db c [])*d.nodes<=3000+cntD x (db c []):=by
  rw[<-o4]
  have:=(A13 ho).1
  omega
 have hs:=sSub_of gc.c g.vx gd.c hsp hsz ho
 rw[hs]
 have hgood:=sSub_ok gc.inp gd.inp (x:=x) (by rw[hs])
 rw[hs] at hgood
 exact ⟨rfl,hgood,ha1,ha2⟩
end Go.V
