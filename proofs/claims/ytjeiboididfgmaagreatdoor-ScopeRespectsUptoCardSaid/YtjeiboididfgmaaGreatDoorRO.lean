/- The program's scope: slot.renamed. No condition. The program's scope: slots. No condition. The program's scope: uses. No condition. The program's scope: subst.captures. No condition. -/
import Derived.Test.YtjeiboididfgmaaGreatDoorRN
set_option linter.unusedVariables false
set_option linter.unusedSimpArgs false
set_option linter.defProp false
set_option maxRecDepth 100000
namespace Go.V
open Go Go.Proofs.Tryz
theorem renL_len (e:Ex) (g:Slo) (s:ByteArray):(renL e g s).length=e.parts.length:=by unfold renL;rw[List.length_mapIdx]
theorem armsV_at (n:Nat) (ls:List Ex) (j:Nat) (v:AV):∀ (xs:List Ar) (i m:Nat),(armsV n ls j v i xs)[m]?=(xs[m]?).map fun x=>armV x (if i+m=j then v else .list (strs x.names)) (ls.getD (n+(i+m)) x.body)
 |[],_,_=>by simp[armsV]
 |x::xs,i,0=>by simp[armsV]
 |x::xs,i,m+1=>by
  rw[armsV,List.getElem?_cons_succ,List.getElem?_cons_succ,armsV_at n ls j v xs (i+1) m,show i+1+m=i+(m+1) by omega]
theorem armsV_set (e:Ex) (ls:List Ex) {k:Nat} (hk:k<e.arms.length) (ns:List ByteArray):armsV e.l.length ls k (.list (strs ns)) 0 e.arms=ars ((withP e ls).arms.set k (.mk ((withP e ls).arms.getD k zAr).op ns ((withP e ls).arms.getD k zAr).body)):=by
 refine List.ext_getElem? fun m=>?_
 have hl:=D13 e ls
 rw[armsV_at,ars,List.getElem?_map,List.getElem?_set]
 by_cases hm:m<e.arms.length
 ·rw[List.getElem?_eq_getElem hm,Nat.zero_add]
  have h1:=withP_arm e ls m
  rw[List.getElem?_eq_getElem hm] at h1
  by_cases q:m=k
  ·subst q
   rw[if_pos rfl,if_pos (by omega),List.getD_eq_getElem?_getD,h1]
   show some (armV _ (if m=m then _ else _) _)=some (Ar.av _)
   rw[if_pos rfl]
   exact congrArg some (armV_list (.mk e.arms[m].op ns e.arms[m].body) (ls.getD (e.l.length+m) e.arms[m].body))
  ·rw[if_neg (Ne.symm q),h1]
   show some (armV _ (if m=k then _ else _) _)=some (Ar.av _)
   rw[if_neg q,armV_list]
 ·rw[List.getElem?_eq_none (by omega)]
  by_cases q:k=m
  ·rw[if_pos q,if_neg (by omega)];rfl
  ·rw[if_neg q,List.getElem?_eq_none (by omega)];rfl
theorem armsV_view {G:GT} {H H1:HM} {v v':AV} (hd:Drop H H1) (h:View G H H1 v v') (n:Nat) (ls:List Ex) (j:Nat):∀ (xs:List Ar) (i:Nat),ViewL G H H1 (flat (armsV n ls j v i xs)) (flat (armsV n ls j v' i xs))
 |[],_=>.nil
 |x::xs,i=>by
  have ih:=armsV_view hd h n ls j xs (i+1)
  have v0:∀ y,View G H H1 y y:=fun y=>View.of_drop hd y
  have hx:View G H H1 (if i=j then v else .list (strs x.names)) (if i=j then v' else .list (strs x.names)):=by
   split
   ·exact h
   ·exact v0 _
  show ViewL G H H1 ((armV x _ _).cells++flat (armsV n ls j v (i+1) xs)) ((armV x _ _).cells++flat (armsV n ls j v' (i+1) xs))
  rw[armV_cells,armV_cells]
  exact (ViewL.cons (v0 _) (.cons hx (.cons (v0 _) (.cons (v0 _) (.cons (v0 _) (.cons (v0 _) (.cons (v0 _) (.cons (v0 _) (.cons (v0 _) .nil))))))))).append ih
theorem armsV_nine (n:Nat) (ls:List Ex) (j:Nat) (v:AV):∀ (xs:List Ar) (i:Nat),∀ y∈armsV n ls j v i xs,y.cells.length=9
 |[],_,_,h=>by cases h
 |x::xs,i,y,h=>by
  rcases List.mem_cons.1 h with rfl|h
  ·rfl
  ·exact armsV_nine n ls j v xs (i+1) y h
theorem arms_view {G:GT} {H1 Hc H:HM} {vA vJ:AV} {nJ:List ByteArray} {n:Nat} {ls:List Ex} {j:Nat} {xs:List Ar} (sA:Sl H1 Hc vA 85 9 (armsV n ls j vJ 0 xs)) (sJ:Sl H1 Hc vJ 9 1 (strs nJ)) (hd:Drop Hc H) (hf:∀ b,H1 b=none->H b=none) (hl:xs.length<=lim) (hlJ:nJ.length<=lim) :
  View G Hc H vA (.list (armsV n ls j (.list (strs nJ)) 0 xs)):=by
 rcases sA with ⟨h,rfl⟩|⟨b,cap,rfl,h2,h3⟩
 ·have:xs=[]:=by
   cases xs with
   |nil=>rfl
   |cons=>cases h
  subst this;exact View.nil0 hd
 ·have hd1:Drop Hc (fun k=>if k=b then none else Hc k):=fun k=>by
   by_cases q:k=b
   ·left;simp[q]
   ·right;simp[q]
  have hd2:Drop (fun k=>if k=b then none else Hc k) H:=fun k=>by
   by_cases q:k=b
   ·left;rw[q];exact hf b h3
   ·rcases hd k with e|e
    ·exact .inl e
    ·right;simp[q,e]
  refine View.trans hd1 (View.row hd1 h2 (by simp) rfl (by rw[B13];exact hl)) ?_
  refine View.list hd2 (by rw[B13,B13]) (fun sz h y hy=>?_) (armsV_view hd2 ?_ n ls j xs 0)
  ·cases xs with
   |nil=>cases hy
   |cons x xs=>
    have h1:=h _ (List.mem_cons_self ..)
    rw[armsV_nine n ls j _ (x::xs) 0 y hy,<-h1];rfl
  ·refine Sl.view (H:=H1) (e:=9) (sz:=1) ?_ hd2 hf (by rw[O10];exact hlJ)
   refine sJ.keep fun b' cap' q1 q2=>?_
   have:b'≠b:=fun q=>by rw[q,h2] at q1;cases q1
   simp[this]
theorem Sl.rowset {H Hc:HM} {b n cap e sz:Nat} {zs:List AV} (h:H b=none) (hn:n=zs.length):Sl H (Hc.upd b (.row e sz cap zs)) (.mlist b n cap) e sz zs:=.inr ⟨b,cap,by rw[hn],HM.upd_same _ _ _,h⟩
theorem Sl.rowat {H Hc:HM} {v:AV} {e sz:Nat} {ys:List AV} {b:Nat} {o:AObj} (h:Sl H Hc v e sz ys) (hb:∀ b' n' c',v=.mlist b' n' c'->b'≠b):Sl H (Hc.upd b o) v e sz ys:=by
 rcases h with ⟨h,rfl⟩|⟨b',cap',rfl,h2,h3⟩
 ·exact .inl ⟨h,rfl⟩
 ·exact .inr ⟨b',cap',rfl,by rw[HM.upd_ne _ _ (hb _ _ _ rfl)];exact h2,h3⟩
theorem Fin_node {G:GT} {fn:Func} {K:ARes->HM->Prop} {H H7:HM} {tm:Nat->AV} {ds:List ADef} {a r:Nat} {vN vL vA:AV} {cs:List AV} (e:Ex) (h:fn.results = #[.cell a 27]) (ha:tm a=.addr r 0) (hb:H7 r=some (.cells 27 cs)) (hcs:cs=[.int e.k,.int e.n,.str e.s,.str e.t,vN,vL,vA]) (hd:∀ d∈ds,∃ D,d=.mark D)
  (hdr:Drop H7 H) (hN:View G H7 H vN (.list (strs e.names))) (hL:View G H7 H vL (.list (exs e.l))) (hA:View G H7 H vA (.list (ars e.arms))) (hk:K (.ret e.av) H):Fin prog G fn K .ret ⟨tm,H7,ds⟩:=by
 subst hcs
 have v0:∀ x,View G H7 H x x:=fun x=>View.of_drop hdr x
 refine ⟨hd,_,_,H,I13 (a:=a) (t:=27) (et:=27) h ti27 rfl rfl ha hb,hdr,View.agg (.cons (v0 _) (.cons (v0 _) (.cons (v0 _) (.cons (v0 _) (.cons hN (.cons hL (.cons hA .nil))))))),?_⟩
 rw[ex_fold,ex_eta];exact hk
theorem dT (h:Decidable True):@decide True h=true:=match h with
 |isTrue _=>rfl
 |isFalse q=>absurd trivial q
theorem dF (h:Decidable False):@decide False h=false:=match h with
 |isTrue q=>q.elim
 |isFalse _=>rfl
section
variable {G:GT}
theorem renamed_c (e:Ex) (ho:Okk e) (g:Slo) (hg:slotOk e g) (s:ByteArray) (hs:isVar s=true) (H:HM):PureF prog G 114 [slotV g,e.av,.str s] H (renamedF e g s).av:=by
 have hf:=ho.1.one
 have hn:=ho.node
 obtain ⟨j,q,h⟩:=g
 obtain ⟨_,_,hnl,hll,hal,_,_⟩:=id hf
 have hbb:bnd=16777216:=rfl
 have hlim:50000000<=lim:=by decide
 have hpl:=Z11 e
 have hj:∀ k,j=some k->k<e.arms.length:=hg.2
 refine P10 (fn:=f114) func114 rfl (by kernel_rfl) (by kernel_rfl) (Nat.le_of_ble_eq_true (by kernel_rfl)) fun K hk=>?_
 simp only[slotV]
 refine A10 [4] fun N E hN hE=>?_
 simp +decide only[ZS,↓reduceIte]
 refine F10 fun b4 hb4=>?_
 simp +decide only[ZS,↓reduceIte]
 refine F10 fun r hr0=>?_
 obtain ⟨hr4,hr⟩:=G11 hr0
 simp +decide only[ZS,↓reduceIte]
 refine hN _ ?_
 clear hN hE N E
 obtain ⟨H1,hH1⟩:∃ H1,H1=(H.upd b4 (.cells 27 e.av.cells)).upd r (.cells 27 zc):=⟨_,rfl⟩
 have h14:H1 b4=some (.cells 27 e.av.cells):=by rw[hH1,HM.upd_ne _ _ (Ne.symm hr4),HM.upd_same]
 have h1r:H1 r=some (.cells 27 zc):=by rw[hH1,HM.upd_same]
 have h1o:∀ b,b≠r->b≠b4->H1 b=H b:=fun b q1 q2=>by rw[hH1,HM.upd_ne _ _ q1,HM.upd_ne _ _ q2]
 rw[C10] at hH1
 show VW prog G f114.ntmps none _ _ ⟨_,(H.upd b4 (.cells 27 _)).upd r (.cells 27 zc),_⟩
 rw[<-hH1]
 rw[C10] at h14
 clear hH1 hr0
 have hnm:=name_c (G:=G) (H:=H1) e (j,q,h) hf hg
 simp only[slotV] at hnm
 refine A10 [] fun N E hN hE=>?_
 simp +decide only[ZS,↓reduceIte,h14]
 refine D10 hnm ?_
 simp +decide only[ZS,↓reduceIte]
 refine F10 fun bf hbf=>?_
 simp +decide only[ZS,↓reduceIte]
 refine hN _ ?_
 clear hN hE N E
 obtain ⟨a,ha⟩:∃ a,a=nameAt e (j,q,h):=⟨_,rfl⟩
 rw[<-ha]
 refine V11 (i:=7) hbf rfl ?_
 clear hbf hnm
 refine A10 [] fun N E hN hE=>?_
 simp +decide only[ZS,↓reduceIte]
 refine F10 fun b3 hb3=>?_
 simp +decide only[ZS,↓reduceIte]
 refine hN _ ?_
 clear hN hE N E
 have hb3r:b3≠r:=fun q=>by rw[q,h1r] at hb3;cases hb3
 have hb34:b3≠b4:=fun q=>by rw[q,h14] at hb3;cases hb3
 obtain ⟨Hb,hHb⟩:∃ Hb,Hb=H1.upd b3 (.cells 24 [.nil0]):=⟨_,rfl⟩
 have h33:Hb b3=some (.cells 24 [.nil0]):=by rw[hHb];exact HM.upd_same _ _ _
 have hb4':Hb b4=some (.cells 27 [.int e.k,.int e.n,.str e.s,.str e.t,.list (strs e.names),.list (exs e.l),.list (ars e.arms)]):=by rw[hHb,HM.upd_ne _ _ (Ne.symm hb34)];exact h14
 show VW prog G f114.ntmps none _ _ ⟨_,H1.upd b3 (.cells 24 [.nil0]),_⟩
 rw[<-hHb]
 refine I10 (A10 [] fun N E hN hE=>?_)
 simp +decide only[ZS,↓reduceIte,hb4']
 refine D10 (sParts_c e) ?_
 simp +decide only[ZS,↓reduceIte]
 refine hN _ ?_
 clear hN hE N E
 refine J10 ?_
 refine V12 fun tn htn=>?_
 have u15:tn 15=.func (.func 136) [] [.ref e.av.cells]:=by rw[htn,C10];rfl
 have u8:tn 8=.addr b3 0:=by rw[htn];rfl
 have u7:tn 7=.ref [.str a]:=by rw[htn];rfl
 have u6:tn 6=.addr r 0:=by rw[htn];rfl
 have u5:tn 5=.ref [.str s]:=by rw[htn];rfl
 have u4:tn 4=.addr b4 0:=by rw[htn];rfl
 have u3:tn 3=.ref [.int (armI j),.int q,.bool h]:=by rw[htn];rfl
 clear htn
 have hls:renL e (j,q,h) s=e.parts.mapIdx fun i p=>if (place e j i&&inside e h a i)=true then renameF a s h p else p:=by rw[ha];rfl
 have hlsl:=renL_len e (j,q,h) s
 have hun:renamedF e (j,q,h) s=setAt (withP e (renL e (j,q,h) s)) (j,q,h) s:=rfl
 rw[hun] at hk
 generalize renL e (j,q,h) s=ls at *
 clear hun
 refine C12 (xs:=items e) (gf:=136) (first:=[]) (cap:=[.ref e.av.cells]) u15 (parts_it e hf hn) ?_
  (fun i H'=>∃ v,DL Hb b3 v (ls.take i) H') (fun _ _=>False) ⟨.nil0,DL.start h33⟩ ?_ ?_ ?_
 ·intro x hx
  obtain ⟨p,_,rfl⟩:=List.mem_map.1 hx
  rfl
 ·rintro l i x H' hx ⟨v,d⟩
  have hi:i<e.parts.length:=by
   have:=(List.getElem?_eq_some_iff.1 hx).1
   rwa [T11] at this
  rw[P13 hi] at hx
  cases hx
  have hxm:=List.getElem_mem hi
  have htk:ls.take (i+1)=ls.take i++[if (place e j i&&inside e h a i)=true then renameF a s h e.parts[i] else e.parts[i]]:=by rw[hls,mapIdx_take _ _ hi]
  have hlk:(ls.take i).length=i:=by rw[List.length_take];omega
  rw[htk]
  generalize ls.take i=xs at *
  generalize e.parts[i]=x at *
  have hof:=fun H0=>of_c (G:=G) (H:=H0) (vOf e i) (hOf e i) h
  have hsel:(if h=true then hOf e i else vOf e i)=selN h (fr e i):=rfl
  simp only[hsel] at hof
  have hins:has (selN h (fr e i)) a=inside e h a i:=rfl
  have hlim2:=vOf_lim hf h i
  simp only[setPs,List.zip,List.zipWith,List.foldl,partAV]
  refine A10 [] fun N E hN hE=>?_
  simp +decide only[ZS,↓reduceIte]
  refine hN _ ?_
  clear hN hE N E
  refine R10 [] fun N E hN hE=>?_
  simp +decide only[ZS,↓reduceIte]
  refine F10 fun c hcn=>?_
  simp +decide only[ZS,↓reduceIte]
  refine hN _ ?_
  clear hN hE N E
  refine ⟨rfl,?_⟩
  have hcc:∀ cs,(H'.upd c (.cells 122 cs)) c=some (.cells 122 cs):=fun cs=>HM.upd_same _ _ _
  have hH4:H' b4=some (.cells 27 [.int e.k,.int e.n,.str e.s,.str e.t,.list (strs e.names),.list (exs e.l),.list (ars e.arms)]):=by rw[d.rest b4 (Ne.symm hb34) (by rw[hb4'];simp)];exact hb4'
  have h4c:∀ o,(H'.upd c o) b4=some (.cells 27 [.int e.k,.int e.n,.str e.s,.str e.t,.list (strs e.names),.list (exs e.l),.list (ars e.arms)]):=fun o=>by rw[HM.upd_ne _ _ (fun q=>by rw[q,hcn] at hH4;cases hH4)];exact hH4
  refine J10 ?_
  refine I10 (VW_regqC [] (fun s'=>s'.tmps 51=.bool (place e j i&&inside e h a i)/\s'.tmps 10=.addr c 0/\s'.tmps 8=.addr b3 0/\s'.tmps 7=.ref [.str a]/\s'.tmps 5=.ref [.str s]/\s'.tmps 3=.ref [.int (armI j),.int q,.bool h]/\s'.H=H'.upd c (.cells 122 (pcs e i x))/\s'.defs=[]) 34 (by kernel_rfl) (by kernel_rfl) (by kernel_rfl) (fun N E hN hE=>?_) ?_)
  ·clear hE hk
   cases j with
   |none=>
    simp only[armI] at u3
    by_cases hil:i<e.l.length
    ·have hil1:decide ((i:Int)<(e.l.length:Int))=true:=decide_eq_true (by omega)
     have hpl1:place e none i=true:=decide_eq_true hil
     simp +decide only[ZS,QS,↓reduceIte,u3,u7,u5,h4c,hcc,Z10,Nat.add_zero,List.drop_zero,len2,take2,dT,dF,u4,hil1]
     refine F11 (hof _) ?_
     simp +decide only[ZS,QS,↓reduceIte,u3,u7,u5,h4c,hcc,Z10,Nat.add_zero,List.drop_zero,len2,take2,dT,dF,u4,hil1]
     refine F11 (X12 _ a hlim2) ?_
     rw[hins]
     simp +decide only[ZS,QS,↓reduceIte,u3,u7,u5,h4c,hcc,Z10,Nat.add_zero,List.drop_zero,len2,take2,dT,dF,u4,hil1]
     refine hN _ ⟨?_,rfl,u8,u7,u5,u3,rfl,rfl⟩
     rw[hpl1]
     rfl
    ·have hil1:decide ((i:Int)<(e.l.length:Int))=false:=decide_eq_false (by omega)
     have hpl1:place e none i=false:=decide_eq_false hil
     simp +decide only[ZS,QS,↓reduceIte,u3,u7,u5,h4c,hcc,Z10,Nat.add_zero,List.drop_zero,len2,take2,dT,dF,u4,hil1]
     refine hN _ ⟨?_,rfl,u8,u7,u5,u3,rfl,rfl⟩
     rw[hpl1]
     rfl
   |some k=>
    have hkl:=hj k rfl
    have hk0:decide ((k:Int)<0)=false:=decide_eq_false (by omega)
    have hk1:decide ((k:Int)>=0)=true:=decide_eq_true (by omega)
    have hw:IntKind.i64.wrap ((e.l.length:Int)+(k:Int))=((e.l.length+k:Nat):Int):=by rw[wrap64]<;>omega
    simp only[armI] at u3
    by_cases hil:i=e.l.length+k
    ·have hil1:decide ((i:Int)=((e.l.length+k:Nat):Int))=true:=decide_eq_true (by omega)
     have hpl1:place e (some k) i=true:=decide_eq_true hil
     simp +decide only[ZS,QS,↓reduceIte,u3,u7,u5,h4c,hcc,Z10,Nat.add_zero,List.drop_zero,len2,take2,dT,dF,u4,hil1,hk0,hk1,hw]
     refine F11 (hof _) ?_
     simp +decide only[ZS,QS,↓reduceIte,u3,u7,u5,h4c,hcc,Z10,Nat.add_zero,List.drop_zero,len2,take2,dT,dF,u4,hil1,hk0,hk1,hw]
     refine F11 (X12 _ a hlim2) ?_
     rw[hins]
     simp +decide only[ZS,QS,↓reduceIte,u3,u7,u5,h4c,hcc,Z10,Nat.add_zero,List.drop_zero,len2,take2,dT,dF,u4,hil1,hk0,hk1,hw]
     refine hN _ ⟨?_,rfl,u8,u7,u5,u3,rfl,rfl⟩
     rw[hpl1]
     rfl
    ·have hil1:decide ((i:Int)=((e.l.length+k:Nat):Int))=false:=decide_eq_false (by omega)
     have hpl1:place e (some k) i=false:=decide_eq_false hil
     simp +decide only[ZS,QS,↓reduceIte,u3,u7,u5,h4c,hcc,Z10,Nat.add_zero,List.drop_zero,len2,take2,dT,dF,u4,hil1,hk0,hk1,hw]
     refine hN _ ⟨?_,rfl,u8,u7,u5,u3,rfl,rfl⟩
     rw[hpl1]
     rfl
  rintro ⟨tp,Hc,ds⟩ ⟨t51,t10,t8,t7,t5,t3,hHc,hds⟩
  obtain rfl:Hc=_:=hHc
  obtain rfl:ds=[]:=hds
  have t8:tp 8=.addr b3 0:=t8
  have t10:tp 10=.addr c 0:=t10
  have t7:tp 7=.ref [.str a]:=t7
  have t5:tp 5=.ref [.str s]:=t5
  have t3:tp 3=.ref [.int (armI j),.int q,.bool h]:=t3
  refine B10 51 _ t51 ?_
  obtain ⟨y,hy⟩:∃ y,y=if (place e j i&&inside e h a i)=true then renameF a s h x else x:=⟨_,rfl⟩
  rw[<-hy] at htk ⊢
  refine VW_thenC (fun s'=>(s'.tmps 10=.addr c 0/\s'.H=H'.upd c (.cells 122 (pcs e i y)))/\s'.tmps 8=.addr b3 0/\s'.defs=[]) ?_ ?_
  ·refine T10 rfl (fun hc=>?_) (fun hc=>?_)
   ·have hfi:(place e j i&&inside e h a i)=true:=hc
    refine R10 [] fun N E hN hE=>?_
    simp +decide only[ZS,↓reduceIte,hcc,t3,t5,t7,t10,pcs]
    refine D10 (rename_c a s h hs x (ho.part hxm) _) ?_
    simp +decide only[ZS,↓reduceIte,hcc,t10,pcs]
    refine hN _ ?_
    clear hN hE N E
    rw[hfi,if_pos rfl] at hy
    refine ⟨⟨t10,?_⟩,t8,rfl⟩
    rw[hy]
    rfl
   ·have hfi:(place e j i&&inside e h a i)=false:=hc
    rw[hfi,if_neg (by decide)] at hy
    refine G10 ⟨⟨t10,?_⟩,t8,rfl⟩
    rw[hy]
  rintro ⟨tq,Hc,ds⟩ ⟨⟨w10,hHc⟩,w8,hds⟩
  obtain rfl:Hc=_:=hHc
  obtain rfl:ds=[]:=hds
  refine V11 (i:=10) hcn w10 ?_
  clear hcc hcn w10 t10 t51 t8 t7 t5 t3 hy hof hsel hins hlim2 h4c
  have d3:=d.h3
  have dl:=d.lenA
  have t12:tq 8=.addr b3 0:=w8
  refine' VW_mixE [] [0,1,2,3,4] (.one 5 false (.alt (.one 6 false (.alt (.one 7 false (.one 8 false .fin)) (.one 8 false (.one 7 false .fin)))) (.one 8 false (.one 6 false (.one 7 false .fin))))) (fun Hq=>Hq b3=some (.cells 24 [v])) (by kernel_rfl) (by kernel_rfl) (d3) (fun H' N hp hN=>?_) ?_
  rotate_left 1
  ·simp only[opsAt,List.drop,List.take,List.cons_append,List.nil_append]
   simp +decide only[ZS,QS,↓reduceIte,t12,hp,dl,pcs]
   exact ⟨bs_ok (by kernel_rfl) (U13 ⟨rfl,rfl⟩),hN⟩
  refine U10 fun N hN=>?_
  simp only[List.drop,List.take]
  simp +decide only[ZS,↓reduceIte]
  refine vappend_sl (z:=zV) d.sl rfl (by omega) d.nn fun b9 cap hb9 hnc=>?_
  rw[M10]
  simp +decide only[ZS,↓reduceIte]
  refine hN _ ⟨fun h=>(by cases h),?_⟩
  clear hN N
  obtain ⟨hnb,dS⟩:=d.snoc (cap:=cap) hb9 y (.row 27 7 cap (exs xs++[zV]))
  generalize hHz:H'.upd b9 (.row 27 7 cap (exs xs++[zV]))=Hz at *
  have hA:Hz b9=some (.row 27 7 cap (exs xs++[zV])):=by rw[<-hHz];exact HM.upd_same _ _ _
  have h3A:Hz b3=some (.cells 24 [v]):=by rw[<-hHz,HM.upd_ne _ _ (Ne.symm hnb)];exact d3
  have hA3:(Hz.upd b3 (.cells 24 [.mlist b9 (xs.length+1) cap])) b9=some (.row 27 7 cap (exs xs++[zV])):=by rw[HM.upd_ne _ _ hnb];exact hA
  have h3B:(Hz.upd b9 (.row 27 7 cap (exs (xs++[y])))) b3=some (.cells 24 [v]):=by rw[HM.upd_ne _ _ (Ne.symm hnb)];exact h3A
  have hS:((Hz.upd b9 (.row 27 7 cap (exs (xs++[y])))).upd b3 (.cells 24 [.mlist b9 (xs.length+1) cap]))=((Hz.upd b3 (.cells 24 [.mlist b9 (xs.length+1) cap])).upd b9 (.row 27 7 cap (exs (xs++[y])))):=HM.upd_comm _ _ _ hnb
  have hin:((0:Int)<=(xs.length:Int)/\(xs.length:Int)<((xs.length+1:Nat):Int))=True:=eq_true ⟨by omega,by omega⟩
  have hx1:(exs xs++[zV])[xs.length]?=some zV:=exs_last xs zV
  refine wt_alt ?_ ?_
  ·refine U10 fun N hN=>?_
   simp only[List.drop,List.take]
   simp +decide only[ZS,↓reduceIte,hin,Int.toNat_natCast]
   refine hN _ ⟨fun h=>(by cases h),?_⟩
   clear hN N
   refine wt_alt ?_ ?_
   ·refine U10 fun N hN=>?_
    simp only[List.drop,List.take]
    simp +decide only[ZS,↓reduceIte,Y11 (hb:=hA) (hx:=hx1),put0]
    rw[exs_put]
    refine hN _ ⟨fun h=>(by cases h),?_⟩
    clear hN N
    refine U10 fun N hN=>?_
    simp only[List.drop,List.take]
    simp +decide only[ZS,↓reduceIte,t12,h3B]
    refine hN _ ⟨fun h=>(by cases h),O12 ?_⟩
    clear hN N
    simp only[AX.then,AX.inBlock]
    exact ⟨rfl,_,Drop.refl _,_,dS⟩
   ·refine U10 fun N hN=>?_
    simp only[List.drop,List.take]
    simp +decide only[ZS,↓reduceIte,t12,h3A]
    refine hN _ ⟨fun h=>(by cases h),?_⟩
    clear hN N
    refine U10 fun N hN=>?_
    simp only[List.drop,List.take]
    simp +decide only[ZS,↓reduceIte,Y11 (hb:=hA3) (hx:=hx1),put0]
    rw[exs_put,<-hS]
    refine hN _ ⟨fun h=>(by cases h),O12 ?_⟩
    clear hN N
    simp only[AX.then,AX.inBlock]
    exact ⟨rfl,_,Drop.refl _,_,dS⟩
  ·refine U10 fun N hN=>?_
   simp only[List.drop,List.take]
   simp +decide only[ZS,↓reduceIte,t12,h3A]
   refine hN _ ⟨fun h=>(by cases h),?_⟩
   clear hN N
   refine U10 fun N hN=>?_
   simp only[List.drop,List.take]
   simp +decide only[ZS,↓reduceIte,hin,Int.toNat_natCast]
   refine hN _ ⟨fun h=>(by cases h),?_⟩
   clear hN N
   refine U10 fun N hN=>?_
   simp only[List.drop,List.take]
   simp +decide only[ZS,↓reduceIte,Y11 (hb:=hA3) (hx:=hx1),put0]
   rw[exs_put,<-hS]
   refine hN _ ⟨fun h=>(by cases h),O12 ?_⟩
   clear hN N
   simp only[AX.then,AX.inBlock]
   exact ⟨rfl,_,Drop.refl _,_,dS⟩
 ·rintro D H' ⟨v,d⟩ hD _
  rw[T11,<-hlsl,List.take_length] at d
  simp only[AX.then,AX.inBlock]
  rw[hHb] at d
  obtain ⟨hdr,hvw⟩:=d.see (G:=G) hb3 (by omega)
  refine VW_see (s:=⟨tn,H',[.mark D]⟩) (i:=8) (H1:=H1) (v':=.ref [.list (exs ls)]) hdr (by show View G H' H1 (tn 8) _;rw[u8];exact hvw) ?_
  clear hvw hdr d hD hHb h33 u8 hb4'
  refine A10 [] fun N E hN hE=>?_
  simp +decide only[ZS,↓reduceIte,u4,h14]
  refine W10 (by kernel_rfl) (CallF.mono (with_c e hf ls hlsl (j.getD e.arms.length)) ?_)
  rintro _ Hc ⟨vN,vL,vA,vJ,rfl,w⟩
  rw[M10]
  have hc4:Hc b4=some (.cells 27 [.int e.k,.int e.n,.str e.s,.str e.t,.list (strs e.names),.list (exs e.l),.list (ars e.arms)]):=by rw[w.rest b4 (by rw[h14];simp)];exact h14
  have hcr:Hc r=some (.cells 27 zc):=by rw[w.rest r (by rw[h1r];simp)];exact h1r
  simp +decide only[ZS,↓reduceIte,u4,hc4,w.sN.one.1,w.sN.one.2,w.sL.one.1,w.sL.one.2,w.sA.one.1,w.sA.one.2]
  refine hN _ ?_
  clear hN hE N E
  have sN:=w.sN.cell (o:=.cells 27 [.int e.k,.int e.n,.str e.s,.str e.t,vN,vL,vA]) hc4
  have sL:=w.sL.cell (o:=.cells 27 [.int e.k,.int e.n,.str e.s,.str e.t,vN,vL,vA]) hc4
  have sA:=w.sA.cell (o:=.cells 27 [.int e.k,.int e.n,.str e.s,.str e.t,vN,vL,vA]) hc4
  have sJ:=w.sJ.cell (o:=.cells 27 [.int e.k,.int e.n,.str e.s,.str e.t,vN,vL,vA]) hc4
  have hd5:=w.nNJ
  have h54:(Hc.upd b4 (.cells 27 [.int e.k,.int e.n,.str e.s,.str e.t,vN,vL,vA])) b4=some (.cells 27 [.int e.k,.int e.n,.str e.s,.str e.t,vN,vL,vA]):=HM.upd_same _ _ _
  have h5r:(Hc.upd b4 (.cells 27 [.int e.k,.int e.n,.str e.s,.str e.t,vN,vL,vA])) r=some (.cells 27 zc):=by rw[HM.upd_ne _ _ hr4];exact hcr
  have h5o:∀ b,H b≠none->(Hc.upd b4 (.cells 27 [.int e.k,.int e.n,.str e.s,.str e.t,vN,vL,vA])) b=H b:=fun b hb=>by
   have q1:b≠b4:=fun q=>hb (by rw[q];exact hb4)
   have q2:b≠r:=fun q=>hb (by rw[q];exact hr)
   rw[HM.upd_ne _ _ q1,w.rest b (by rw[h1o b q2 q1];exact hb),h1o b q2 q1]
  generalize Hc.upd b4 (.cells 27 [.int e.k,.int e.n,.str e.s,.str e.t,vN,vL,vA])=H5 at *
  clear w hc4 hcr
  have hff:∀ b,H1 b=none->H b=none:=fun b hb=>by
   have q1:b≠b4:=fun q=>by rw[q,h14] at hb;cases hb
   have q2:b≠r:=fun q=>by rw[q,h1r] at hb;cases hb
   rw[<-h1o b q2 q1];exact hb
  have n5N:=sN.one
  have n5L:=sL.one
  have n5A:=sA.one
  have hlt:(ls.take e.l.length).length<=lim:=by rw[List.length_take];omega
  have hin2:∀ {m:Nat},q<m->((0:Int)<=(q:Int)/\(q:Int)<(m:Int))=True:=fun h=>eq_true ⟨by omega,by omega⟩
  cases j with
  |none=>
   have hq:q<e.names.length:=hg.1
   simp only[armI] at u3
   obtain ⟨bN,cN,rfl,hbN,hfN⟩:∃ b cap,vN=.mlist b e.names.length cap/\H5 b=some (.row 9 1 cap (strs e.names))/\H1 b=none:=by
    rcases sN with ⟨h,_⟩|⟨b,cap,h1,h2,h3⟩
    ·have:(strs e.names).length=0:=by rw[h];rfl
     rw[O10] at this;omega
    ·exact ⟨b,cap,by rw[h1,O10],h2,h3⟩
   have hat:(strs e.names)[q]?=some (.str (e.names.getD q emp)):=by
    rw[strs,List.getElem?_map,List.getElem?_eq_getElem hq,getD_at hq];rfl
   refine I10 (A10 [] fun N E hN hE=>?_)
   simp +decide only[ZS,↓reduceIte,u3]
   refine hN _ ?_
   clear hN hE N E
   refine T10 rfl (fun hc=>?_) (fun hc=>?_)
   ·have hi5:=hin2 hq
    refine R10 [] fun N E hN hE=>?_
    simp +decide only[ZS,↓reduceIte,u3,u4,u5,h54,hi5,Int.toNat_natCast,Y11 (hb:=hbN) (hx:=hat),elemPut_str]
    refine hN _ ?_
    clear hN hE N E
    have hne4:b4≠bN:=fun q=>by rw[<-q,h54] at hbN;cases hbN
    have hner:r≠bN:=fun q=>by rw[<-q,h5r] at hbN;cases hbN
    have h64:∀ o,(H5.upd bN o) b4=some (.cells 27 [.int e.k,.int e.n,.str e.s,.str e.t,.mlist bN e.names.length cN,vL,vA]):=fun o=>by rw[HM.upd_ne _ _ hne4];exact h54
    have h6r:∀ o,(H5.upd bN o) r=some (.cells 27 zc):=fun o=>by rw[HM.upd_ne _ _ hner];exact h5r
    refine A10 [] fun N E hN hE=>?_
    simp +decide only[ZS,↓reduceIte,u4,u6,h64,h6r,n5N.1,n5N.2,n5L.1,n5L.2,n5A.1,n5A.2]
    refine hN _ ?_
    clear hN hE N E
    refine L10 ?_
    have hset:(strs e.names).set q (.str s)=strs (e.names.set q s):=strs_set _ _ _
    rw[hset]
    have hbr:∀ o,(H5.upd bN o).upd r (.cells 27 [.int e.k,.int e.n,.str e.s,.str e.t,.mlist bN e.names.length cN,vL,vA]) r=some (.cells 27 [.int e.k,.int e.n,.str e.s,.str e.t,.mlist bN e.names.length cN,vL,vA]):=fun o=>HM.upd_same _ _ _
    have hdr:∀ o o',Drop ((H5.upd bN o).upd r o') H:=fun o o' b=>by
     by_cases hb:H b=none
     ·exact .inl hb
     ·right
      rw[HM.upd_ne _ _ (fun q=>hb (by rw[q];exact hr)),HM.upd_ne _ _ (fun q=>hb (by rw[q];exact hff _ hfN)),h5o b hb]
    have sN':=(Sl.rowset (H:=H1) (Hc:=H5) (cap:=cN) (e:=9) (sz:=1) (zs:=strs (e.names.set q s)) hfN (by rw[O10,List.length_set]:e.names.length=_)).cell (o:=.cells 27 [.int e.k,.int e.n,.str e.s,.str e.t,.mlist bN e.names.length cN,vL,vA]) (h6r _)
    have sL':=(sL.rowne (o:=.row 9 1 cN (strs (e.names.set q s))) hbN (by decide)).cell (o:=.cells 27 [.int e.k,.int e.n,.str e.s,.str e.t,.mlist bN e.names.length cN,vL,vA]) (h6r _)
    have sA':=(sA.rowne (o:=.row 9 1 cN (strs (e.names.set q s))) hbN (by decide)).cell (o:=.cells 27 [.int e.k,.int e.n,.str e.s,.str e.t,.mlist bN e.names.length cN,vL,vA]) (h6r _)
    rw[armsV_P _ _ _ _ _ _ (by show 0+e.arms.length<=(none:Option Nat).getD e.arms.length;simp)] at sA'
    refine Fin_node (setAt (withP e ls) (none,q,h) s) rfl u6 (hbr _) rfl (fun d hd=>⟨_,by simpa using hd⟩) (hdr _ _) (sN'.view (hdr _ _) hff (by rw[O10,List.length_set];omega)) (sL'.view (hdr _ _) hff (by rw[Z10];exact hlt)) (sA'.view (hdr _ _) hff (by rw[U11,armsP_len];omega)) hk
   ·cases hc
  |some k=>
   have hkl:=hj k rfl
   have hq:q<(e.arms.getD k zAr).names.length:=hg.1
   simp only[armI] at u3
   simp only[Option.getD_some] at sA sJ
   rw[if_pos hkl] at sJ
   obtain ⟨x,hx⟩:∃ x,x=e.arms.getD k zAr:=⟨_,rfl⟩
   have hxx:e.arms.getD k (Ar.mk emp [] zeroEx)=x:=hx.symm
   rw[hxx] at sJ
   rw[<-hx] at hq
   have hxk:e.arms[k]?=some x:=by rw[hx,getD_at hkl,List.getElem?_eq_getElem hkl]
   obtain ⟨bA,cA,rfl,hbA,hfA⟩:∃ b cap,vA=.mlist b e.arms.length cap/\H5 b=some (.row 85 9 cap (armsV e.l.length ls k vJ 0 e.arms))/\H1 b=none:=by
    rcases sA with ⟨h,_⟩|⟨b,cap,h1,h2,h3⟩
    ·have:(armsV e.l.length ls k vJ 0 e.arms).length=0:=by rw[h];rfl
     rw[B13] at this;omega
    ·exact ⟨b,cap,by rw[h1,B13],h2,h3⟩
   obtain ⟨bJ,cJ,rfl,hbJ,hfJ⟩:∃ b cap,vJ=.mlist b x.names.length cap/\H5 b=some (.row 9 1 cap (strs x.names))/\H1 b=none:=by
    rcases sJ with ⟨h,_⟩|⟨b,cap,h1,h2,h3⟩
    ·have:(strs x.names).length=0:=by rw[h];rfl
     rw[O10] at this;omega
    ·exact ⟨b,cap,by rw[h1,O10],h2,h3⟩
   have hat:(strs x.names)[q]?=some (.str (x.names.getD q emp)):=by
    rw[strs,List.getElem?_map,List.getElem?_eq_getElem hq,getD_at hq];rfl
   have hatA:(armsV e.l.length ls k (.mlist bJ x.names.length cJ) 0 e.arms)[k]?=some (armV x (.mlist bJ x.names.length cJ) (ls.getD (e.l.length+k) x.body)):=by
    rw[armsV_at,hxk,Nat.zero_add]
    show some (armV x (if k=k then _ else _) _)=_
    rw[if_pos rfl]
   have hk0:decide ((k:Int)<0)=false:=decide_eq_false (by omega)
   have hkA:((0:Int)<=(k:Int)/\(k:Int)<(e.arms.length:Int))=True:=eq_true ⟨by omega,by omega⟩
   have hkB:((k:Int)<(e.arms.length:Int))=True:=eq_true (by omega)
   have hlS:(armsV e.l.length ls k (.mlist bJ x.names.length cJ) 0 e.arms).length=e.arms.length:=B13 _ _ _ _ _ _
   obtain ⟨row,hrow⟩:∃ row,row=armsV e.l.length ls k (.mlist bJ x.names.length cJ) 0 e.arms:=⟨_,rfl⟩
   rw[<-hrow] at hbA hatA hlS
   refine I10 (A10 [] fun N E hN hE=>?_)
   simp +decide only[ZS,↓reduceIte,u3,hk0]
   refine hN _ ?_
   clear hN hE N E
   refine T10 rfl (fun hc=>?_) (fun hc=>?_)
   ·cases hc
   ·have hi5:=hin2 hq
    refine' VW_mixE [] [0,1,2,3,4,5,6,7,8,9] (.one 10 false (.one 11 false .fin)) (fun H'=>H' b4=some (.cells 27 [.int e.k,.int e.n,.str e.s,.str e.t,vN,vL,.mlist bA e.arms.length cA])/\H' bA=some (.row 85 9 cA row)) (by kernel_rfl) (by kernel_rfl) (⟨h54,hbA⟩) (fun H' N hp hN=>?_) ?_
    rotate_left 1
    ·simp only[opsAt,List.drop,List.take,List.cons_append,List.nil_append]
     simp +decide only[ZS,QS,↓reduceIte,u3,u4,u5,hp.1,hp.2,hatA,hlS,hkB,nat0,Int.toNat_natCast,armV_cells]
     exact hN
    have hi6:((q:Int)<(x.names.length:Int))=True:=eq_true (by omega)
    refine U10 fun N hN=>?_
    simp only[List.drop,List.take]
    simp +decide only[ZS,↓reduceIte,hi5,hi6,nat0,Int.toNat_natCast]
    refine hN _ ⟨fun h=>(by cases h),?_⟩
    clear hN N
    refine U10 fun N hN=>?_
    simp only[List.drop,List.take]
    simp +decide only[ZS,↓reduceIte,Y11 (hb:=hbJ) (hx:=hat),elemPut_str]
    refine hN _ ⟨fun h=>(by cases h),O12 ?_⟩
    clear hN N
    have hset:(strs x.names).set q (.str s)=strs (x.names.set q s):=strs_set _ _ _
    rw[hset]
    have hne4:b4≠bJ:=fun q=>by rw[<-q,h54] at hbJ;cases hbJ
    have hner:r≠bJ:=fun q=>by rw[<-q,h5r] at hbJ;cases hbJ
    have h64:∀ o,(H5.upd bJ o) b4=some (.cells 27 [.int e.k,.int e.n,.str e.s,.str e.t,vN,vL,.mlist bA e.arms.length cA]):=fun o=>by rw[HM.upd_ne _ _ hne4];exact h54
    have h6r:∀ o,(H5.upd bJ o) r=some (.cells 27 zc):=fun o=>by rw[HM.upd_ne _ _ hner];exact h5r
    refine A10 [] fun N E hN hE=>?_
    simp +decide only[ZS,↓reduceIte,u4,u6,h64,h6r,n5N.1,n5N.2,n5L.1,n5L.2,n5A.1,n5A.2]
    refine hN _ ?_
    clear hN hE N E
    refine L10 ?_
    have hbr:∀ o,(H5.upd bJ o).upd r (.cells 27 [.int e.k,.int e.n,.str e.s,.str e.t,vN,vL,.mlist bA e.arms.length cA]) r=some (.cells 27 [.int e.k,.int e.n,.str e.s,.str e.t,vN,vL,.mlist bA e.arms.length cA]):=fun o=>HM.upd_same _ _ _
    have hdr:∀ o o',Drop ((H5.upd bJ o).upd r o') H:=fun o o' b=>by
     by_cases hb:H b=none
     ·exact .inl hb
     ·right
      rw[HM.upd_ne _ _ (fun q=>hb (by rw[q];exact hr)),HM.upd_ne _ _ (fun q=>hb (by rw[q];exact hff _ hfJ)),h5o b hb]
    have sJ':=(Sl.rowset (H:=H1) (Hc:=H5) (cap:=cJ) (e:=9) (sz:=1) (zs:=strs (x.names.set q s)) hfJ (by rw[O10,List.length_set]:x.names.length=_)).cell (o:=.cells 27 [.int e.k,.int e.n,.str e.s,.str e.t,vN,vL,.mlist bA e.arms.length cA]) (h6r _)
    have sN':=(sN.rowat (o:=.row 9 1 cJ (strs (x.names.set q s))) (fun b' n' c' hv=>hd5 _ _ _ _ _ _ hv rfl)).cell (o:=.cells 27 [.int e.k,.int e.n,.str e.s,.str e.t,vN,vL,.mlist bA e.arms.length cA]) (h6r _)
    have sL':=(sL.rowne (o:=.row 9 1 cJ (strs (x.names.set q s))) hbJ (by decide)).cell (o:=.cells 27 [.int e.k,.int e.n,.str e.s,.str e.t,vN,vL,.mlist bA e.arms.length cA]) (h6r _)
    have sA':=(sA.rowne (o:=.row 9 1 cJ (strs (x.names.set q s))) hbJ (by decide)).cell (o:=.cells 27 [.int e.k,.int e.n,.str e.s,.str e.t,vN,vL,.mlist bA e.arms.length cA]) (h6r _)
    have hxl:x.names.length<=lim:=by
     have:=(hf.2.2.2.2.2.2 x (List.mem_of_getElem? hxk)).2.1
     omega
    have vA:=arms_view (G:=G) sA' sJ' (hdr _ _) hff (by omega) (by rw[List.length_set];exact hxl)
    rw[armsV_set e ls hkl] at vA
    have hxw:((withP e ls).arms.getD k zAr).names=x.names:=by
     rw[List.getD_eq_getElem?_getD,withP_arm,hxk];rfl
    refine Fin_node (setAt (withP e ls) (some k,q,h) s) rfl u6 (hbr _) rfl (fun d hd=>⟨_,by simpa using hd⟩) (hdr _ _) (sN'.view (hdr _ _) hff (by rw[O10];omega)) (sL'.view (hdr _ _) hff (by rw[Z10];exact hlt)) ?_ hk
    show View G _ H _ (.list (ars ((withP e ls).arms.set k (.mk ((withP e ls).arms.getD k zAr).op (((withP e ls).arms.getD k zAr).names.set q s) ((withP e ls).arms.getD k zAr).body))))
    rw[hxw]
    exact vA
 ·rintro _ _ _ _ hJ
  exact hJ.elim
end
def ownC (e:Ex):Nat:=if e.k=17 then 1 else e.names.length
def slotsA:Nat->List Ar->List Slo
 |_,[]=>[]
 |j,x::xs=>(List.range x.names.length).map (fun i=>((some j,i,false):Slo))++slotsA (j+1) xs
def slotsL (e:Ex):List Slo:=(List.range (ownC e)).map (fun i=>((none,i,decide (e.k=15)):Slo))++slotsA 0 e.arms
def offA (e:Ex) (j:Nat):Nat:=ownC e+((e.arms.take j).map fun x=>x.names.length).sum
theorem slotsA_at:∀ (xs:List Ar) (j k i:Nat) (x:Ar),xs[k]?=some x->i<x.names.length->(slotsA j xs)[((xs.take k).map fun x=>x.names.length).sum+i]?=some (some (j+k),i,false)
 |[],_,_,_,_,h,_=>by simp at h
 |y::ys,j,0,i,x,h,hi=>by
  simp only[List.getElem?_cons_zero,Option.some.injEq] at h
  subst h
  simp only[List.take_zero,List.map_nil,List.sum_nil,Nat.zero_add,slotsA]
  rw[List.getElem?_append_left (by simpa using hi),List.getElem?_map,List.getElem?_range hi];rfl
 |y::ys,j,k+1,i,x,h,hi=>by
  have ih:=slotsA_at ys (j+1) k i x (by simpa using h) hi
  simp only[List.take_succ_cons,List.map_cons,List.sum_cons,slotsA]
  rw[List.getElem?_append_right (by simp;omega)]
  simp only[List.length_map,List.length_range]
  rw[show y.names.length+((ys.take k).map fun x=>x.names.length).sum+i-y.names.length=((ys.take k).map fun x=>x.names.length).sum+i by omega,ih,show j+1+k=j+(k+1) by omega]
theorem slotsA_len:∀ (xs:List Ar) (j:Nat),(slotsA j xs).length=(xs.map fun x=>x.names.length).sum
 |[],_=>rfl
 |x::xs,j=>by simp[slotsA,slotsA_len xs]
theorem slots_own {e:Ex} {i:Nat} (h:i<ownC e):(slotsL e)[i]?=some (none,i,decide (e.k=15)):=by
 unfold slotsL
 rw[List.getElem?_append_left (by simpa using h),List.getElem?_map,List.getElem?_range h];rfl
theorem slots_arm {e:Ex} {j i:Nat} (hj:j<e.arms.length) (hi:i<e.arms[j].names.length):(slotsL e)[offA e j+i]?=some (some j,i,false):=by
 have h:=slotsA_at e.arms 0 j i _ (List.getElem?_eq_getElem hj) hi
 unfold slotsL offA
 rw[List.getElem?_append_right (by simp;omega)]
 simp only[List.length_map,List.length_range]
 rw[show ownC e+((e.arms.take j).map fun x=>x.names.length).sum+i-ownC e=((e.arms.take j).map fun x=>x.names.length).sum+i by omega,h,Nat.zero_add]
theorem offA_succ {e:Ex} {j:Nat} (hj:j<e.arms.length):offA e (j+1)=offA e j+e.arms[j].names.length:=by
 unfold offA
 rw[List.take_succ_eq_append_getElem hj,List.map_append,List.sum_append]
 simp only[List.map_cons,List.map_nil,List.sum_cons,List.sum_nil];omega
theorem offA_end (e:Ex):offA e e.arms.length=(slotsL e).length:=by
 unfold offA slotsL
 rw[List.take_length]
 simp[slotsA_len]
def slotItems (e:Ex):List (List AV):=(slotsL e).map fun g=>[slotV g]
section
variable {G:GT}
theorem slots_c (e:Ex) (H:HM):PureF prog G 110 [e.av] H (.func (.func 140) [] [.ref e.av.cells]):=by
 refine P10 (fn:=f110) func110 rfl (by kernel_rfl) (by kernel_rfl) (Nat.le_of_ble_eq_true (by kernel_rfl)) fun K hk=>?_
 refine A10 [] fun N E hN hE=>?_
 simp +decide only[ZS,↓reduceIte]
 refine hN _ ?_
 clear hN hE N E
 refine A10 [] fun N E hN hE=>?_
 simp +decide only[ZS,↓reduceIte]
 refine hN _ ?_
 clear hN hE N E
 rw[C10] at hk
 exact L10 (K10 2 rfl hk)
theorem slots_it (e:Ex) (hf:fit1 e) (h17:e.k=17->1<=e.names.length):Iter prog G 140 [] [.ref e.av.cells] (slotItems e):=by
 have hfit:=hf
 obtain ⟨_,_,hnl,hll,hla,_,hars⟩:=hf
 have hbb:=bnd_lt
 refine ⟨by kernel_rfl,fun l I S H hI hy=>?_⟩
 have hlen:(slotItems e).length=(slotsL e).length:=List.length_map _
 rw[hlen]
 have hy:∀ i g H',(slotsL e)[i]?=some g->I i H'->CallV prog G (.func (.yield l) [] []) [slotV g] H' fun r H''=>(r=.ret (.bool true)/\I (i+1) H'')\/(r=.ret (.bool false)/\S H''):=fun i g H' hg hi=>
  hy i _ H' (by unfold slotItems;rw[List.getElem?_map,hg];rfl) hi
 show CallF prog G _ [.func (.yield l) [] [],.ref e.av.cells] H _
 rw[C10]
 refine A11 (fn:=f140) func140 rfl (by kernel_rfl) (Nat.le_of_ble_eq_true (by kernel_rfl)) ?_
 refine A10 [] fun N E hN hE=>?_
 simp +decide only[ZS,↓reduceIte,O10]
 refine hN _ ?_
 clear hN hE N E
 refine I10 (A10 [] fun N E hN hE=>?_)
 simp +decide only[ZS,↓reduceIte]
 refine hN _ ?_
 clear hN hE N E
 have hoc:ownC e<=bnd:=by
  unfold ownC;split
  ·rename_i h;have:=h17 h;omega
  ·exact hnl
 refine VW_thenC (fun s'=>s'.tmps 3=.int (ownC e)/\s'.tmps 0=.func (.yield l) [] []/\s'.tmps 1=.ref e.av.cells/\s'.H=H/\s'.defs=[]) ?_ ?_
 ·refine T10 rfl (fun hc=>?_) (fun hc=>?_)
  ·have h:e.k=17:=of_decide_eq_true hc
   refine R10 [] fun N E hN hE=>?_
   simp +decide only[ZS,↓reduceIte]
   refine hN _ ?_
   clear hN hE N E
   exact ⟨by unfold ownC;rw[if_pos h];rfl,rfl,by rw[C10];rfl,rfl,rfl⟩
  ·have h:¬ e.k=17:=of_decide_eq_false hc
   exact G10 ⟨by unfold ownC;rw[if_neg h];rfl,rfl,by rw[C10];rfl,rfl,rfl⟩
 rintro ⟨tm,Hc,ds⟩ ⟨t3,t0,t1,hHc,hds⟩
 obtain rfl:H=Hc:=hHc.symm
 obtain rfl:ds=[]:=hds
 simp only at t3 t0 t1
 rw[C10] at t1
 refine B10 3 _ t3 (B10 0 _ t0 (B10 1 _ t1 ?_))
 clear t3 t0 t1
 refine I10 (A10 [] fun N E hN hE=>?_)
 simp +decide only[ZS,↓reduceIte]
 refine hN _ ?_
 clear hN hE N E
 refine J10 ?_
 refine C11 (fun k s'=>k<=ownC e/\I k s'.H/\s'.tmps 0=.func (.yield l) [] []/\s'.tmps 1=.ref e.av.cells/\s'.tmps 14=.int (ownC e)/\s'.tmps 15=.int k/\s'.defs=[]) (fun k=>ownC e-k) 0 ?_ ?_
 ·exact ⟨Nat.zero_le _,hI,rfl,by rw[C10];rfl,rfl,rfl,rfl⟩
 rintro k ⟨tm,H',ds⟩ ⟨hk1,hIk,h0,h1,h14,h15,hds⟩
 obtain rfl:ds=[]:=hds
 simp only at hIk
 rw[C10] at h1
 refine B10 0 _ h0 (B10 1 _ h1 (B10 14 _ h14 (B10 15 _ h15 ?_)))
 refine A10 [] fun N E hN hE=>?_
 simp +decide only[ZS,↓reduceIte]
 refine hN _ ?_
 clear hN hE N E
 refine I10 (T10 rfl (fun hc=>?_) (fun hc=>?_))
 ·have hlt:k<ownC e:=by have:=of_decide_eq_true hc;omega
  have hst:=hy k _ H' (slots_own hlt) hIk
  refine G10 ?_
  refine I10 (J10 ?_)
  refine A10 [] fun N E hN hE=>?_
  simp +decide only[ZS,↓reduceIte]
  refine hN _ ?_
  clear hN hE N E
  refine A10 [] fun N E hN hE=>?_
  simp +decide only[ZS,↓reduceIte]
  refine CallV.mono hst ?_
  rintro r H'' (⟨rfl,hi⟩|⟨rfl,hs⟩)
  ·rw[M10]
   simp +decide only[ZS,↓reduceIte,Bool.not_true]
   refine hN _ ?_
   clear hN hE N E
   refine T10 rfl (fun hc=>?_) (fun hc=>?_)
   ·cases hc
   refine G10 ?_
   refine R10 [] fun N E hN hE=>?_
   simp +decide only[ZS,↓reduceIte,wrapN (show k<9223372036854775807 by omega)]
   refine hN _ ?_
   clear hN hE N E
   exact ⟨k+1,⟨hlt,hi,rfl,by rw[C10];rfl,rfl,rfl,rfl⟩,by omega⟩
  ·rw[M10]
   simp +decide only[ZS,↓reduceIte,Bool.not_false]
   refine hN _ ?_
   clear hN hE N E
   refine T10 rfl (fun hc=>?_) (fun hc=>?_)
   ·refine L10 ?_
    simp only[AX.then,AX.inBlock]
    exact Fin_ret0 rfl ⟨rfl,.inr hs⟩
   ·cases hc
 refine L11 ?_
 have hk3:k=offA e 0:=by
  have:=of_decide_eq_false hc
  unfold offA;simp;omega
 subst hk3
 refine A10 [] fun N E hN hE=>?_
 simp +decide only[ZS,↓reduceIte,U11]
 refine hN _ ?_
 clear hN hE N E
 refine J10 ?_
 refine C11 (fun k s'=>k<=e.arms.length/\I (offA e k) s'.H/\s'.tmps 0=.func (.yield l) [] []/\s'.tmps 1=.ref e.av.cells/\s'.tmps 28=.list (ars e.arms)/\s'.tmps 29=.int e.arms.length/\s'.tmps 30=.int k/\s'.defs=[]) (fun k=>e.arms.length-k) 0 ?_ ?_
 ·exact ⟨Nat.zero_le _,hIk,rfl,by rw[C10];rfl,rfl,rfl,rfl,rfl⟩
 rintro k ⟨tm2,H2,ds⟩ ⟨hk1,hIk,h0,h1,h28,h29,h30,hds⟩
 obtain rfl:ds=[]:=hds
 simp only at hIk
 rw[C10] at h1
 refine B10 0 _ h0 (B10 1 _ h1 (B10 28 _ h28 (B10 29 _ h29 (B10 30 _ h30 ?_))))
 refine A10 [] fun N E hN hE=>?_
 simp +decide only[ZS,↓reduceIte]
 refine hN _ ?_
 clear hN hE N E
 refine I10 (T10 rfl (fun hc=>?_) (fun hc=>?_))
 ·have hlt:k<e.arms.length:=by have:=of_decide_eq_true hc;omega
  have hat:=ars_at hlt
  have hsl:=fun i (h:i<e.arms[k].names.length)=>slots_arm hlt h
  have hos:=offA_succ hlt
  obtain ⟨_,hxn,_⟩:=hars e.arms[k] (List.getElem_mem hlt)
  generalize e.arms[k]=a at *
  refine G10 ?_
  refine I10 (J10 ?_)
  refine A10 [] fun N E hN hE=>?_
  simp +decide only[ZS,↓reduceIte,hat,nat0,Int.toNat_natCast]
  refine F10 fun b hbn=>?_
  simp +decide only[ZS,↓reduceIte,hat]
  refine hN _ ?_
  clear hN hE N E
  refine V11 (i:=6) hbn rfl ?_
  clear hbn
  refine A10 [] fun N E hN hE=>?_
  simp +decide only[ZS,↓reduceIte,O10]
  refine hN _ ?_
  clear hN hE N E
  refine J10 ?_
  refine C11 (fun i s'=>i<=a.names.length/\I (offA e k+i) s'.H/\s'.tmps 0=.func (.yield l) [] []/\s'.tmps 1=.ref e.av.cells/\s'.tmps 5=.int k/\s'.tmps 28=.list (ars e.arms)/\s'.tmps 29=.int e.arms.length/\s'.tmps 30=.int k/\s'.tmps 37=.int a.names.length/\s'.tmps 38=.int i/\s'.defs=[]) (fun i=>a.names.length-i) 0 ?_ ?_
  ·exact ⟨Nat.zero_le _,hIk,rfl,by rw[C10];rfl,rfl,rfl,rfl,rfl,rfl,rfl,rfl⟩
  rintro i ⟨tm3,H3,ds⟩ ⟨hi1,hIi,h0,h1,h5,h28,h29,h30,h37,h38,hds⟩
  obtain rfl:ds=[]:=hds
  simp only at hIi
  rw[C10] at h1
  refine B10 0 _ h0 (B10 1 _ h1 (B10 5 _ h5 (B10 28 _ h28 (B10 29 _ h29 (B10 30 _ h30 (B10 37 _ h37 (B10 38 _ h38 ?_)))))))
  refine A10 [] fun N E hN hE=>?_
  simp +decide only[ZS,↓reduceIte]
  refine hN _ ?_
  clear hN hE N E
  refine I10 (T10 rfl (fun hc=>?_) (fun hc=>?_))
  ·have hli:i<a.names.length:=by have:=of_decide_eq_true hc;omega
   have hst:=hy (offA e k+i) _ H3 (hsl i hli) hIi
   refine G10 ?_
   refine I10 (J10 ?_)
   refine A10 [] fun N E hN hE=>?_
   simp +decide only[ZS,↓reduceIte]
   refine hN _ ?_
   clear hN hE N E
   refine A10 [] fun N E hN hE=>?_
   simp +decide only[ZS,↓reduceIte]
   refine CallV.mono hst ?_
   rintro r H'' (⟨rfl,hi⟩|⟨rfl,hs⟩)
   ·rw[M10]
    simp +decide only[ZS,↓reduceIte,Bool.not_true]
    refine hN _ ?_
    clear hN hE N E
    refine T10 rfl (fun hc=>?_) (fun hc=>?_)
    ·cases hc
    refine G10 ?_
    refine R10 [] fun N E hN hE=>?_
    simp +decide only[ZS,↓reduceIte,wrapN (show i<9223372036854775807 by omega)]
    refine hN _ ?_
    clear hN hE N E
    exact ⟨i+1,⟨hli,hi,rfl,by rw[C10];rfl,rfl,rfl,rfl,rfl,rfl,rfl,rfl⟩,by omega⟩
   ·rw[M10]
    simp +decide only[ZS,↓reduceIte,Bool.not_false]
    refine hN _ ?_
    clear hN hE N E
    refine T10 rfl (fun hc=>?_) (fun hc=>?_)
    ·refine L10 ?_
     simp only[AX.then,AX.inBlock]
     exact Fin_ret0 rfl ⟨rfl,.inr hs⟩
    ·cases hc
  have hi3:i=a.names.length:=by have:=of_decide_eq_false hc;omega
  subst hi3
  refine L11 ?_
  simp only[AX.then,AX.inBlock,↓reduceIte]
  refine R10 [] fun N E hN hE=>?_
  simp +decide only[ZS,↓reduceIte,wrapN (show k<9223372036854775807 by omega)]
  refine hN _ ?_
  clear hN hE N E
  refine ⟨k+1,⟨hlt,?_,rfl,by rw[C10];rfl,rfl,rfl,rfl,rfl⟩,by omega⟩
  rw[hos];exact hIi
 have hk3:k=e.arms.length:=by have:=of_decide_eq_false hc;omega
 subst hk3
 refine L11 ?_
 simp only[AX.then,AX.inBlock,↓reduceIte]
 rw[offA_end] at hIk
 exact Fin_end (J11 rfl) ⟨rfl,.inl hIk⟩
end
def usesVis (x:ByteArray) (ch:Ch) (e:Ex) (a:Int×Bool):Int×Bool:=if (occ e).2.2&&!(occ e).2.1&&decide ((occ e).1=x)&&!hasN ch x false then (IntKind.i64.wrap (a.1+1),a.2||!decide (e.k=0)) else a
def usesK (x:ByteArray) (e:Ex):Int×Bool:=walkF (usesVis x) e [] (0,false)
theorem vresults_cells2 {P:Program} {fn:Func} {tm:Nat->AV} {H:HM} {a t b et a' t' b' et':Nat} {v v':AV} {ti ti':TI} (h:fn.results = #[.cell a t,.cell a' t']) (ht:tiOf P t=some ti) (hag:ti.agg=false) (ha:tm a=.addr b 0) (hb:H b=some (.cells et [v]))
  (ht':tiOf P t'=some ti') (hag':ti'.agg=false) (ha':tm a'=.addr b' 0) (hb':H b'=some (.cells et' [v'])):vresults P fn H tm=some (.tup [v,v']):=by
 simp[vresults,vresL,vres,h,ht,ha,cellsAt,hb,ldv,hag,ht',ha',hb',hag']
section
variable {G:GT} {H:HM}
theorem usesVis_c (x:ByteArray) (e:Ex) (ch:Ch) (n:Int) (sp:Bool) (hch:ChOk ch) {b c:Nat} (hbc:b≠c) (hb:H b=some (.cells 3 [.int n])) (hcc:H c=some (.cells 4 [.bool sp])) :
  CallF prog G 106 [e.av,chV ch,.ref [.str x],.addr b 0,.addr c 0] H fun r H'=>r=.ret .unit/\H'=(H.upd b (.cells 3 [.int (usesVis x ch e (n,sp)).1])).upd c (.cells 4 [.bool (usesVis x ch e (n,sp)).2]):=by
 refine A11 (fn:=f106) func106 rfl (by kernel_rfl) (Nat.le_of_ble_eq_true (by kernel_rfl)) ?_
 refine A10 [] fun N E hN hE=>?_
 simp +decide only[ZS,↓reduceIte]
 refine hN _ ?_
 clear hN hE N E
 refine A10 [] fun N E hN hE=>?_
 simp +decide only[ZS,↓reduceIte]
 refine D10 (occ_c e) ?_
 simp +decide only[ZS,↓reduceIte]
 refine hN _ ?_
 clear hN hE N E
 have hvis:usesVis x ch e (n,sp)=if (occ e).2.2&&!(occ e).2.1&&decide ((occ e).1=x)&&!hasN ch x false then (IntKind.i64.wrap (n+1),sp||!decide (e.k=0)) else (n,sp):=rfl
 generalize occ e=o at *
 obtain ⟨s,h2,is⟩:=o
 simp only at hvis
 refine O11 [] (fun s'=>s'.tmps 31=.bool (is&&!h2&&decide (s=x)&&!hasN ch x false)/\s'.tmps 3=.addr b 0/\s'.tmps 4=.addr c 0/\s'.tmps 5=.ref e.av.cells/\s'.H=H/\s'.defs=[]) (fun N E hN hE=>?_) ?_
 ·clear hE
  simp +decide only[ZS,↓reduceIte]
  cases is with
  |false=>
   simp +decide only[ZS,↓reduceIte]
   refine hN _ ⟨?_,rfl,rfl,by rw[C10];rfl,rfl,rfl⟩
   simp +decide only[ZS,↓reduceIte]
   rfl
  |true=>
   cases h2 with
   |true=>
    simp +decide only[ZS,↓reduceIte]
    refine hN _ ⟨?_,rfl,rfl,by rw[C10];rfl,rfl,rfl⟩
    simp +decide only[ZS,↓reduceIte]
    rfl
   |false=>
    simp +decide only[ZS,↓reduceIte]
    refine V10 (fun hb1=>?_) (fun hb1=>?_)
    ·simp +decide only[ZS,↓reduceIte,hb1,chV_cells,chV_one]
     refine D10 (hasN_c ch x false hch) ?_
     simp +decide only[ZS,↓reduceIte,hb1]
     refine hN _ ⟨?_,rfl,rfl,by rw[C10];rfl,rfl,rfl⟩
     simp +decide only[ZS,↓reduceIte]
     rw[hb1];rfl
    ·simp +decide only[ZS,↓reduceIte,hb1]
     refine hN _ ⟨?_,rfl,rfl,by rw[C10];rfl,rfl,rfl⟩
     simp +decide only[ZS,↓reduceIte]
     rw[hb1];rfl
 rintro ⟨tm,H',ds⟩ ⟨f31,f3,f4,f5,gH,gds⟩
 obtain rfl:H=H':=gH.symm
 obtain rfl:ds=[]:=gds
 simp only at f3 f4 f5
 rw[C10] at f5
 refine B10 31 _ f31 (B10 3 _ f3 (B10 4 _ f4 (B10 5 _ f5 ?_)))
 refine T10 rfl (fun hc=>?_) (fun hc=>?_)
 ·rw[if_pos hc] at hvis
  rw[hvis]
  refine A10 [] fun N E hN hE=>?_
  simp +decide only[ZS,↓reduceIte,hb]
  refine hN _ ?_
  clear hN hE N E
  have hc1:∀ o,(H.upd b o) c=some (.cells 4 [.bool sp]):=fun o=>by rw[HM.upd_ne _ _ (Ne.symm hbc)];exact hcc
  cases sp with
  |true=>
   refine R10 [] fun N E hN hE=>?_
   simp +decide only[ZS,↓reduceIte,hc1]
   refine hN _ ?_
   clear hN hE N E
   exact Fin_end (J11 rfl) ⟨rfl,rfl⟩
  |false=>
   refine R10 [] fun N E hN hE=>?_
   simp +decide only[ZS,↓reduceIte,hc1]
   refine hN _ ?_
   clear hN hE N E
   exact Fin_end (J11 rfl) ⟨rfl,rfl⟩
 ·rw[if_neg (by rw[hc];decide)] at hvis
  refine G10 ?_
  refine Fin_end (J11 rfl) ⟨rfl,?_⟩
  rw[hvis]
  funext k
  by_cases hkc:k=c
  ·subst hkc;rw[HM.upd_same];exact hcc
  ·rw[HM.upd_ne _ _ hkc]
   by_cases hkb:k=b
   ·subst hkb;rw[HM.upd_same];exact hb
   ·rw[HM.upd_ne _ _ hkb]
theorem uses_c (e:Ex) (ho:Okk e) (x:ByteArray):PureF prog G 61 [e.av,.str x] H (.tup [.int (usesK x e).1,.bool (usesK x e).2]):=by
 refine P10 (fn:=f61) func61 rfl (by kernel_rfl) (by kernel_rfl) (Nat.le_of_ble_eq_true (by kernel_rfl)) fun K hk=>?_
 refine A10 [] fun N E hN hE=>?_
 simp +decide only[ZS,↓reduceIte]
 refine F10 fun b hb=>?_
 simp +decide only[ZS,↓reduceIte]
 refine F10 fun c hc=>?_
 obtain ⟨hcb,hc0⟩:=G11 hc
 simp +decide only[ZS,↓reduceIte]
 refine hN _ ?_
 clear hN hE N E
 refine A10 [] fun N E hN hE=>?_
 simp +decide only[ZS,↓reduceIte]
 refine W10 (by kernel_rfl) (CallF.mono (walk_c (fun (a:Int×Bool) H'=>H'=(H.upd b (.cells 3 [.int a.1])).upd c (.cells 4 [.bool a.2])) (usesVis x) 106 [.ref [.str x],.addr b 0,.addr c 0] ?_ e ho [] (fun _ h=>by cases h) (0,false) _ rfl) ?_)
 ·rintro e' ch ⟨n,sp⟩ H' ho' hch rfl
  refine CallF.callV (by kernel_rfl) ?_
  show CallF prog G _ [e'.av,chV ch,.ref [.str x],.addr b 0,.addr c 0] _ _
  refine CallF.mono (usesVis_c x e' ch n sp hch (Ne.symm hcb) (by rw[HM.upd_ne _ _ (Ne.symm hcb),HM.upd_same]) (HM.upd_same _ _ _)) ?_
  rintro r H' ⟨rfl,rfl⟩
  refine ⟨rfl,?_⟩
  rw[HM.upd_comm _ _ _ (Ne.symm hcb),HM.upd_upd,HM.upd_comm _ _ _ hcb,HM.upd_upd]
 rintro r H' ⟨rfl,rfl⟩
 rw[M10]
 simp +decide only[ZS,↓reduceIte]
 refine hN _ ?_
 clear hN hE N E
 have hu:walkF (usesVis x) e [] (0,false)=usesK x e:=rfl
 rw[hu]
 generalize usesK x e=u at *
 obtain ⟨n,sp⟩:=u
 simp only
 have h1:((H.upd b (.cells 3 [.int n])).upd c (.cells 4 [.bool sp])) b=some (.cells 3 [.int n]):=by rw[HM.upd_ne _ _ (Ne.symm hcb),HM.upd_same]
 have h2:((H.upd b (.cells 3 [.int n])).upd c (.cells 4 [.bool sp])) c=some (.cells 4 [.bool sp]):=HM.upd_same _ _ _
 have hdr:Drop ((H.upd b (.cells 3 [.int n])).upd c (.cells 4 [.bool sp])) H:=fun k=>by
  by_cases hk:H k=none
  ·exact .inl hk
  ·right;rw[HM.upd_ne _ _ (fun q=>hk (by rw[q];exact hc0)),HM.upd_ne _ _ (fun q=>hk (by rw[q];exact hb))]
 have hid:∀ {k:Nat} {o:AObj},((H.upd b (.cells 3 [.int n])).upd c (.cells 4 [.bool sp])) k=some o->((H.upd b (.cells 3 [.int n])).upd c (.cells 4 [.bool sp])).upd k o=((H.upd b (.cells 3 [.int n])).upd c (.cells 4 [.bool sp])):=fun {k o} h=>by
  funext j
  by_cases q:j=k
  ·rw[q,HM.upd_same,h]
  ·rw[HM.upd_ne _ _ q]
 generalize (H.upd b (.cells 3 [.int n])).upd c (.cells 4 [.bool sp])=Hf at *
 refine' VW_mix [] [0,1] (.one 2 true (.one 3 false .fin)) (fun H'=>H' b=some (.cells 3 [.int n])/\H' c=some (.cells 4 [.bool sp])) (by kernel_rfl) (by kernel_rfl) (⟨h1,h2⟩) (fun H' N hp hN=>?_) ?_
 rotate_left 1
 ·simp only[opsAt,List.drop,List.take,List.cons_append,List.nil_append]
  simp +decide only[ZS,QS,↓reduceIte,hp.1,hp.2]
  exact hN
 refine U10 fun N hN=>?_
 simp only[List.drop,List.take]
 simp +decide only[ZS,↓reduceIte,h1]
 rw[hid h1]
 refine hN _ ⟨fun _=>⟨h1,h2⟩,?_⟩
 clear hN N
 refine U10 fun N hN=>?_
 simp only[List.drop,List.take]
 simp +decide only[ZS,↓reduceIte,h2]
 rw[hid h2]
 refine hN _ ⟨fun h=>(by cases h),O12 ?_⟩
 clear hN N
 refine L10 ?_
 exact ⟨fun d hd=>(by cases hd),_,_,H,vresults_cells2 (a:=4) (t:=3) (a':=5) (t':=4) rfl ti3 rfl rfl h1 ti4 rfl rfl h2,hdr,View.of_drop hdr _,hk⟩
end
structure Sub where
 x:ByteArray
 v:Ex
 fv:List ByteArray
 fh:List ByteArray
 nm:List ByteArray
def Sub.cells (S:Sub):List AV:=[.str S.x,.int S.v.k,.int S.v.n,.str S.v.s,.str S.v.t,.list (strs S.v.names),.list (exs S.v.l),.list (ars S.v.arms),.imap (kv S.fv),.imap (kv S.fh),.imap (kv S.nm)]
def Sub.set (S:Sub) (h:Bool):List ByteArray:=if h then S.fh else S.fv
def capP (S:Sub) (e:Ex) (g:Slo) (i:Nat) (p:Ex):Bool:=place e g.1 i&&inside e g.2.2 (nameAt e g) i&&!has (vOf e i) S.x&&decide (0<(usesK S.x p).1)
def capG (S:Sub) (e:Ex) (g:Slo):Nat->List Ex->Bool
 |_,[]=>false
 |i,p::ps=>capP S e g i p||capG S e g (i+1) ps
def capF (S:Sub) (e:Ex) (g:Slo):Bool:=has (S.set g.2.2) (nameAt e g)&&capG S e g 0 e.parts
section
variable {G:GT} {H:HM}
theorem captures_c (S:Sub) (e:Ex) (ho:Okk e) (g:Slo) (hg:slotOk e g):PureF prog G 111 [.ref S.cells,e.av,slotV g] H (.bool (capF S e g)):=by
 have hf:=ho.1.one
 have hn:=ho.node
 obtain ⟨j,q,h⟩:=g
 obtain ⟨_,_,hnl,hll,hal,_,_⟩:=id hf
 have hbb:bnd=16777216:=rfl
 have hlim:50000000<=lim:=by decide
 have hpl:=Z11 e
 have hj:∀ k,j=some k->k<e.arms.length:=hg.2
 have hnm:=fun H0=>name_c (G:=G) (H:=H0) e (j,q,h) hf hg
 refine P10 (fn:=f111) func111 rfl (by kernel_rfl) (by kernel_rfl) (Nat.le_of_ble_eq_true (by kernel_rfl)) fun K hk=>?_
 simp only[slotV] at hnm ⊢
 refine A10 [] fun N E hN hE=>?_
 simp +decide only[ZS,↓reduceIte]
 refine F10 fun r hr=>?_
 simp +decide only[ZS,↓reduceIte]
 refine hN _ ?_
 clear hN hE N E
 have hrs:∀ cs:List AV,(H.upd r (.cells 4 cs)) r=some (.cells 4 cs):=fun cs=>HM.upd_same _ _ _
 have hcap:capF S e (j,q,h)=(has (S.set h) (nameAt e (j,q,h))&&capG S e (j,q,h) 0 e.parts):=rfl
 rw[hcap] at hk
 generalize hHx:H.upd r (.cells 4 [.val (.bool false)])=Hx at *
 obtain ⟨y,hy⟩:∃ y,y=nameAt e (j,q,h):=⟨_,rfl⟩
 rw[<-hy] at hnm hk
 refine VW_seqC (fun s'=>∃ bf,Hx bf=none/\s'.H=Hx.upd bf (.cells 9 [.str y])/\s'.tmps 7=.addr bf 0/\s'.tmps 8=.imap (kv S.fv)/\s'.tmps 3=.ref [.ref S.cells]/\s'.tmps 4=.ref e.av.cells/\s'.tmps 5=.ref [.int (armI j),.int q,.bool h]/\s'.tmps 6=.addr r 0/\s'.defs=[]) ?_ ?_
 ·clear hk
  refine' VW_mixE [] [0,1,3,4,5,6] (.alt (.one 2 true (.one 7 true (.one 8 true (.one 9 false .fin)))) (.one 7 true (.one 2 true (.one 8 true (.one 9 false .fin))))) (fun _=>True) (by kernel_rfl) (by kernel_rfl) (trivial) (fun H' N hp hN=>?_) ?_
  rotate_left 1
  ·simp only[opsAt,List.drop,List.take,List.cons_append,List.nil_append]
   simp +decide only[ZS,QS,↓reduceIte,Sub.cells]
   exact hN
  refine wt_alt ?_ ?_
  ·refine U10 fun N hN=>?_
   simp only[List.drop,List.take]
   simp +decide only[ZS,↓reduceIte]
   refine D10 (hnm _) ?_
   simp +decide only[ZS,↓reduceIte]
   refine hN _ ⟨fun _=>trivial,?_⟩
   clear hN N
   refine U10 fun N hN=>?_
   simp only[List.drop,List.take]
   simp +decide only[ZS,↓reduceIte]
   refine F10 fun bf hbf=>?_
   simp +decide only[ZS,↓reduceIte]
   refine hN _ ⟨fun _=>trivial,?_⟩
   clear hN N
   have hbs:∀ cs:List AV,(Hx.upd bf (.cells 9 cs)) bf=some (.cells 9 cs):=fun cs=>HM.upd_same _ _ _
   refine U10 fun N hN=>?_
   simp only[List.drop,List.take]
   simp +decide only[ZS,↓reduceIte,hbs]
   refine hN _ ⟨fun _=>trivial,?_⟩
   clear hN N
   refine U10 fun N hN=>?_
   simp only[List.drop,List.take]
   simp +decide only[ZS,↓reduceIte]
   refine hN _ ⟨fun h=>(by cases h),O12 ?_⟩
   clear hN N
   exact ⟨bf,hbf,rfl,rfl,rfl,rfl,by rw[C10];rfl,rfl,rfl,rfl⟩
  ·refine U10 fun N hN=>?_
   simp only[List.drop,List.take]
   simp +decide only[ZS,↓reduceIte]
   refine F10 fun bf hbf=>?_
   simp +decide only[ZS,↓reduceIte]
   refine hN _ ⟨fun _=>trivial,?_⟩
   clear hN N
   refine U10 fun N hN=>?_
   simp only[List.drop,List.take]
   simp +decide only[ZS,↓reduceIte]
   refine D10 (hnm _) ?_
   simp +decide only[ZS,↓reduceIte]
   refine hN _ ⟨fun _=>trivial,?_⟩
   clear hN N
   have hbs:∀ cs:List AV,(Hx.upd bf (.cells 9 cs)) bf=some (.cells 9 cs):=fun cs=>HM.upd_same _ _ _
   refine U10 fun N hN=>?_
   simp only[List.drop,List.take]
   simp +decide only[ZS,↓reduceIte,hbs]
   refine hN _ ⟨fun _=>trivial,?_⟩
   clear hN N
   refine U10 fun N hN=>?_
   simp only[List.drop,List.take]
   simp +decide only[ZS,↓reduceIte]
   refine hN _ ⟨fun h=>(by cases h),O12 ?_⟩
   clear hN N
   exact ⟨bf,hbf,rfl,rfl,rfl,rfl,by rw[C10];rfl,rfl,rfl,rfl⟩
 rintro ⟨tm,Hc,ds⟩ ⟨bf,hbf,hHc,t7,t8,t3,t4,t5,t6,hds⟩
 obtain rfl:Hc=_:=hHc
 obtain rfl:ds=[]:=hds
 refine V11 (i:=7) hbf t7 ?_
 simp only at t8 t3 t4 t5 t6
 rw[C10] at t4
 clear hbf t7 hnm
 refine I10 (A10 [] fun N E hN hE=>?_)
 simp +decide only[ZS,↓reduceIte,t5]
 refine hN _ ?_
 clear hN hE N E
 refine VW_thenC (fun s'=>s'.tmps 8=.imap (kv (S.set h))/\s'.tmps 7=.ref [.str y]/\s'.tmps 3=.ref [.ref S.cells]/\s'.tmps 4=.ref e.av.cells/\s'.tmps 5=.ref [.int (armI j),.int q,.bool h]/\s'.tmps 6=.addr r 0/\s'.H=Hx/\s'.defs=[]) ?_ ?_
 ·clear hk
  refine T10 rfl (fun hc=>?_) (fun hc=>?_)
  ·have hc:h=true:=hc
   refine R10 [] fun N E hN hE=>?_
   simp +decide only[ZS,↓reduceIte,t3,Sub.cells]
   refine hN _ ?_
   clear hN hE N E
   refine ⟨by rw[hc];rfl,rfl,t3,by rw[C10];exact t4,t5,t6,rfl,rfl⟩
  ·have hc:h=false:=hc
   refine G10 ⟨by rw[hc];exact t8,rfl,t3,by rw[C10];exact t4,t5,t6,rfl,rfl⟩
 rintro ⟨tn,Hc,ds⟩ ⟨u8,u7,u3,u4,u5,u6,hHc,hds⟩
 obtain rfl:Hc=Hx:=hHc
 obtain rfl:ds=[]:=hds
 simp only at u8 u7 u3 u4 u5 u6
 rw[C10] at u4
 clear t3 t4 t5 t6 t8
 have hrn:∀ o,Hc.upd r o=H.upd r o:=fun o=>by rw[<-hHx,HM.upd_upd]
 have fin:∀ (tm:Nat->AV) (c:Bool) (ds:List ADef),tm 6=.addr r 0->(∀ d∈ds,∃ D,d=.mark D)->K (.ret (.bool c)) H->Fin prog G f111 K .ret ⟨tm,Hc.upd r (.cells 4 [.bool c]),ds⟩:=fun tm c ds h6 hd hv=>
  ⟨hd,_,_,H,vresults_bit (a:=6) (t:=4) rfl ti4 rfl h6 (HM.upd_same _ _ _),by rw[hrn];exact Drop.upd hr,View.of_drop (by rw[hrn];exact Drop.upd hr) _,hv⟩
 have hcr:∃ v,Hc r=some (.cells 4 [v]):=⟨_,by rw[<-hHx];exact HM.upd_same _ _ _⟩
 obtain ⟨v0,hcr⟩:=hcr
 clear hrs hHx
 refine I10 (A10 [] fun N E hN hE=>?_)
 simp +decide only[ZS,↓reduceIte,u8,u7,vlk_kv]
 refine hN _ ?_
 clear hN hE N E
 refine T10 rfl (fun hc=>?_) (fun hc=>?_)
 ·have hq:has (S.set h) y=false:=by simpa using hc
  refine A10 [] fun N E hN hE=>?_
  simp +decide only[ZS,↓reduceIte,u6,hcr]
  refine hN _ ?_
  clear hN hE N E
  rw[hq] at hk
  exact L10 (fin _ _ _ u6 (fun d hd=>by cases hd) hk)
 have hq:has (S.set h) y=true:=by simpa using hc
 rw[hq] at hk
 replace hk:K (.ret (.bool (capG S e (j,q,h) 0 e.parts))) H:=hk
 refine G10 ?_
 refine I10 (A10 [] fun N E hN hE=>?_)
 simp +decide only[ZS,↓reduceIte,u4]
 refine D10 (sParts_c e) ?_
 simp +decide only[ZS,↓reduceIte]
 refine hN _ ?_
 clear hN hE N E
 refine J10 ?_
 rw[<-C10] at u4
 refine V12 fun tr htr=>?_
 have w31:tr 31=.func (.func 136) [] [.ref e.av.cells]:=by rw[htr,C10];rfl
 have w3:tr 3=.ref [.ref S.cells]:=by rw[htr];exact u3
 have w4:tr 4=.ref e.av.cells:=by rw[htr];exact u4
 have w5:tr 5=.ref [.int (armI j),.int q,.bool h]:=by rw[htr];exact u5
 have w6:tr 6=.addr r 0:=by rw[htr];exact u6
 have w7:tr 7=.ref [.str y]:=by rw[htr];exact u7
 clear htr u3 u4 u5 u6 u7 u8
 refine C12 (xs:=items e) (gf:=136) (first:=[]) (cap:=[.ref e.av.cells]) w31 (parts_it e hf hn) ?_
  (fun i H'=>H'=Hc/\capG S e (j,q,h) 0 e.parts=capG S e (j,q,h) i (e.parts.drop i)) (fun X H'=>X=.ret/\H'=Hc.upd r (.cells 4 [.bool true])/\capG S e (j,q,h) 0 e.parts=true) ⟨rfl,rfl⟩ ?_ ?_ ?_
 ·intro x hx
  obtain ⟨p,_,rfl⟩:=List.mem_map.1 hx
  rfl
 ·rintro l i x H' hx ⟨rfl,hcg⟩
  have hi:i<e.parts.length:=by
   have:=(List.getElem?_eq_some_iff.1 hx).1
   rwa [T11] at this
  rw[P13 hi] at hx
  cases hx
  have hxm:=List.getElem_mem hi
  rw[W11 hi] at hcg
  have hus:=fun H0=>uses_c (G:=G) (H:=H0) e.parts[i] (ho.part hxm) S.x
  generalize e.parts[i]=x at *
  have hcp:capP S e (j,q,h) i x=(place e j i&&inside e h y i&&!has (vOf e i) S.x&&decide (0<(usesK S.x x).1)):=by rw[hy];rfl
  have hcg:capG S e (j,q,h) 0 e.parts=(capP S e (j,q,h) i x||capG S e (j,q,h) (i+1) (e.parts.drop (i+1))):=hcg
  rw[hcp] at hcg
  have hof:=fun H0=>of_c (G:=G) (H:=H0) (vOf e i) (hOf e i) h
  have hsel:(if h=true then hOf e i else vOf e i)=selN h (fr e i):=rfl
  simp only[hsel] at hof
  have hins:has (selN h (fr e i)) y=inside e h y i:=rfl
  have hlim2:=vOf_lim hf h i
  have hlim3:(vOf e i).length<=lim:=vOf_len hf i
  simp only[setPs,List.zip,List.zipWith,List.foldl,partAV]
  refine A10 [] fun N E hN hE=>?_
  simp +decide only[ZS,↓reduceIte]
  refine hN _ ?_
  clear hN hE N E
  refine R10 [] fun N E hN hE=>?_
  simp +decide only[ZS,↓reduceIte]
  refine F10 fun c hcn=>?_
  simp +decide only[ZS,↓reduceIte]
  refine hN _ ?_
  clear hN hE N E
  refine ⟨rfl,?_⟩
  refine V11 (i:=10) hcn rfl ?_
  clear hcn
  rw[C10] at w4
  refine J10 ?_
  refine I10 (O11 [] (fun s'=>s'.tmps 58=.bool (!place e j i)/\s'.tmps 10=.ref (pcs e i x)/\s'.tmps 3=.ref [.ref S.cells]/\s'.tmps 4=.ref [.int e.k,.int e.n,.str e.s,.str e.t,.list (strs e.names),.list (exs e.l),.list (ars e.arms)]/\s'.tmps 5=.ref [.int (armI j),.int q,.bool h]/\s'.tmps 6=.addr r 0/\s'.tmps 7=.ref [.str y]/\s'.H=H'/\s'.defs=[]) (fun N E hN hE=>?_) ?_)
  ·clear hE hk
   cases j with
   |none=>
    simp only[armI] at w5
    by_cases hil:i<e.l.length
    ·have hil1:decide ((i:Int)>=(e.l.length:Int))=false:=decide_eq_false (by omega)
     have hpl1:place e none i=true:=decide_eq_true hil
     simp +decide only[ZS,↓reduceIte,w3,w4,w5,Z10,Nat.add_zero,List.drop_zero,len2,take2,dT,dF,Bool.not_true,Bool.not_false,hil1]
     refine hN _ ⟨?_,rfl,w3,w4,w5,w6,w7,rfl,rfl⟩
     rw[hpl1]
     rfl
    ·have hil1:decide ((i:Int)>=(e.l.length:Int))=true:=decide_eq_true (by omega)
     have hpl1:place e none i=false:=decide_eq_false hil
     simp +decide only[ZS,↓reduceIte,w3,w4,w5,Z10,Nat.add_zero,List.drop_zero,len2,take2,dT,dF,Bool.not_true,Bool.not_false,hil1]
     refine hN _ ⟨?_,rfl,w3,w4,w5,w6,w7,rfl,rfl⟩
     rw[hpl1]
     rfl
   |some k=>
    have hkl:=hj k rfl
    have hk0:decide ((k:Int)<0)=false:=decide_eq_false (by omega)
    have hk1:decide ((k:Int)>=0)=true:=decide_eq_true (by omega)
    have hw:IntKind.i64.wrap ((e.l.length:Int)+(k:Int))=((e.l.length+k:Nat):Int):=by rw[wrap64]<;>omega
    simp only[armI] at w5
    by_cases hil:i=e.l.length+k
    ·have hil1:decide ((i:Int)=((e.l.length+k:Nat):Int))=true:=decide_eq_true (by omega)
     have hpl1:place e (some k) i=true:=decide_eq_true hil
     simp +decide only[ZS,↓reduceIte,w3,w4,w5,Z10,Nat.add_zero,List.drop_zero,len2,take2,dT,dF,Bool.not_true,Bool.not_false,hil1,hk0,hk1,hw]
     refine hN _ ⟨?_,rfl,w3,w4,w5,w6,w7,rfl,rfl⟩
     rw[hpl1]
     rfl
    ·have hil1:decide ((i:Int)=((e.l.length+k:Nat):Int))=false:=decide_eq_false (by omega)
     have hpl1:place e (some k) i=false:=decide_eq_false hil
     simp +decide only[ZS,↓reduceIte,w3,w4,w5,Z10,Nat.add_zero,List.drop_zero,len2,take2,dT,dF,Bool.not_true,Bool.not_false,hil1,hk0,hk1,hw]
     refine hN _ ⟨?_,rfl,w3,w4,w5,w6,w7,rfl,rfl⟩
     rw[hpl1]
     rfl
  rintro ⟨tp,Hd,ds⟩ ⟨t58,t10,t3,t4,t5,t6,t7,hHd,hds⟩
  obtain rfl:Hd=H':=hHd
  obtain rfl:ds=[]:=hds
  have t10:tp 10=.ref (pcs e i x):=t10
  have t3:tp 3=.ref [.ref S.cells]:=t3
  have t5:tp 5=.ref [.int (armI j),.int q,.bool h]:=t5
  have t6:tp 6=.addr r 0:=t6
  have t7:tp 7=.ref [.str y]:=t7
  refine B10 58 _ t58 ?_
  refine T10 rfl (fun hc=>?_) (fun hc=>?_)
  ·have hpl1:place e j i=false:=by simpa using hc
   refine L11 ?_
   simp only[AX.then,AX.inBlock,↓reduceIte]
   refine ⟨rfl,_,Drop.refl _,rfl,?_⟩
   rw[hcg,hpl1];rfl
  have hpl1:place e j i=true:=by simpa using hc
  rw[hpl1,Bool.true_and] at hcg
  refine G10 ?_
  refine I10 (VW_regqC [] (fun s'=>s'.tmps 76=.bool (!(inside e h y i&&!has (vOf e i) S.x))/\s'.tmps 10=.ref (pcs e i x)/\s'.tmps 3=.ref [.ref S.cells]/\s'.tmps 6=.addr r 0/\s'.H=Hd/\s'.defs=[]) 18 (by kernel_rfl) (by kernel_rfl) (by kernel_rfl) (fun N E hN hE=>?_) ?_)
  ·clear hE hk
   simp +decide only[ZS,QS,↓reduceIte,t10,t3,t5,t7,pcs,Sub.cells,Nat.add_zero,List.drop_zero,len2,take2,dT,dF]
   refine F11 (hof _) ?_
   simp +decide only[ZS,QS,↓reduceIte,t10,t3,t5,t7,pcs,Sub.cells,Nat.add_zero,List.drop_zero,len2,take2,dT,dF]
   refine F11 (X12 _ y hlim2) ?_
   rw[hins]
   cases hin:inside e h y i with
   |false=>
    simp +decide only[ZS,QS,↓reduceIte,t10,t3,t5,t7,pcs,Sub.cells,Nat.add_zero,List.drop_zero,len2,take2,dT,dF]
    refine hN _ ⟨by rw[hin];rfl,t10,t3,t6,rfl,rfl⟩
   |true=>
    simp +decide only[ZS,QS,↓reduceIte,t10,t3,t5,t7,pcs,Sub.cells,Nat.add_zero,List.drop_zero,len2,take2,dT,dF]
    refine F11 (X12 _ S.x hlim3) ?_
    simp +decide only[ZS,QS,↓reduceIte,t10,t3,t5,t7,pcs,Sub.cells,Nat.add_zero,List.drop_zero,len2,take2,dT,dF]
    refine hN _ ⟨?_,t10,t3,t6,rfl,rfl⟩
    rw[hin]
    cases has (vOf e i) S.x<;>rfl
  rintro ⟨tq,Hd2,ds⟩ ⟨t76,t10,t3,t6,hHd,hds⟩
  obtain rfl:Hd2=Hd:=hHd
  obtain rfl:ds=[]:=hds
  have t10:tq 10=.ref (pcs e i x):=t10
  have t3:tq 3=.ref [.ref S.cells]:=t3
  have t6:tq 6=.addr r 0:=t6
  refine B10 76 _ t76 ?_
  refine T10 rfl (fun hc=>?_) (fun hc=>?_)
  ·have hin:(inside e h y i&&!has (vOf e i) S.x)=false:=by
    have hc:(!(inside e h y i&&!has (vOf e i) S.x))=true:=hc
    cases q:(inside e h y i&&!has (vOf e i) S.x) with
    |false=>rfl
    |true=>rw[q] at hc;cases hc
   refine L11 ?_
   simp only[AX.then,AX.inBlock,↓reduceIte]
   refine ⟨rfl,_,Drop.refl _,rfl,?_⟩
   rw[hcg,hin];rfl
  have hin:(inside e h y i&&!has (vOf e i) S.x)=true:=by
   have hc:(!(inside e h y i&&!has (vOf e i) S.x))=false:=hc
   cases q:(inside e h y i&&!has (vOf e i) S.x) with
   |true=>rfl
   |false=>rw[q] at hc;cases hc
  rw[hin,Bool.true_and] at hcg
  refine G10 ?_
  refine V13 [] 12 (by kernel_rfl) (by kernel_rfl) (by kernel_rfl) fun N E hN hE=>?_
  simp only[List.take,List.drop]
  simp +decide only[ZS,QS,↓reduceIte,t10,t3,pcs,Sub.cells]
  refine F11 (hus _) ?_
  simp +decide only[ZS,QS,↓reduceIte,t10,t3,pcs,Sub.cells]
  refine hN _ ?_
  clear hN hE N E
  refine A10 [] fun N E hN hE=>?_
  simp +decide only[ZS,↓reduceIte]
  refine hN _ ?_
  clear hN hE N E
  refine T10 rfl (fun hc=>?_) (fun hc=>?_)
  ·have hp:decide (0<(usesK S.x x).1)=true:=by simpa using hc
   rw[hp,Bool.true_or] at hcg
   refine A10 [] fun N E hN hE=>?_
   simp +decide only[ZS,↓reduceIte,t6,hcr]
   refine hN _ ?_
   clear hN hE N E
   refine L10 ?_
   simp only[AX.then,AX.inBlock]
   exact ⟨rfl,_,Drop.refl _,rfl,rfl,hcg⟩
  ·have hp:decide (0<(usesK S.x x).1)=false:=by simpa using hc
   rw[hp,Bool.false_or] at hcg
   refine G10 ?_
   simp only[AX.then,AX.inBlock]
   exact ⟨rfl,_,Drop.refl _,rfl,hcg⟩
 ·rintro D H' ⟨rfl,hcg⟩ hD _
  rw[T11,List.drop_of_length_le (Nat.le_refl _)] at hcg
  have hcg:capG S e (j,q,h) 0 e.parts=false:=hcg
  rw[hcg] at hk
  simp only[AX.then,AX.inBlock]
  refine A10 [] fun N E hN hE=>?_
  simp +decide only[ZS,↓reduceIte,w6,hcr]
  refine hN _ ?_
  clear hN hE N E
  exact L10 (fin _ _ _ w6 (fun d hd=>⟨_,by simpa using hd⟩) hk)
 ·rintro D X H' c ⟨rfl,rfl,hcg⟩ _ hD _
  rw[hcg] at hk
  simp only[AX.then,AX.inBlock]
  exact fin _ _ _ w6 (fun d hd=>⟨_,by simpa using hd⟩) hk
end
end Go.V
