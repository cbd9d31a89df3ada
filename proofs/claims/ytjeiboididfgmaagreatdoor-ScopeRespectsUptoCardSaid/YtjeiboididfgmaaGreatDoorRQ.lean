/- Functions whose deferred call takes a panic in hand. No condition. The program's scope: subst.in. No condition. The program's scope: Size, must, Uses, caught. No condition. The program's scope: caught takes a fault in hand. No condition. The program's scope: Subst. No condition. -/
import Derived.Test.YtjeiboididfgmaaGreatDoorRYf
import Derived.Test.YtjeiboididfgmaaGreatDoorRP
import Derived.RecoverIn
import Derived.Test.YtjeiboididfgmaaGreatDoorRE
set_option linter.unusedVariables false
set_option linter.unusedSimpArgs false
namespace Go.V
open Go
def RecV (P:Program) (G:GT) (f:FuncId) (av:AV) (args:List AV) (H:HM) (K:HM->Prop):Prop:=
 Plain P f=true/\∀ (w:World) (vs:List Value) (v:Value),RepL (Imm H w) w args vs->Rep (Imm H w) w av v->St G H w ->
  CallsDIn wide 0 P f vs.toArray (.panicking [{ v,recovered:=false }]) w fun e u' w'=>(∃ r,e=.returned r)/\settle u'=.returning/\∃ H',K H'/\St G H' w'/\Evo H w H' w'
section
variable {P:Program} {G:GT} {H:HM}
theorem leave_rec {fn:Func} {f:Nat->AV} {tmps:Array Value} {H0:HM} {w0:World} {rc:FuncId} {av:AV} {args:List AV} {R:Ending->World->Prop} {v:Value}
  (hc:RecV P G rc av args H fun H2=>∃ r,vresults P fn H2 f=some r/\∀ u w,Rep (Imm H2 w) w r u->St G H2 w->Evo H0 w0 H2 w->R (.returned u) w) {ds:List Deferred} {w:World}
  (hd:RepDs w0.heap.size H w [.call (.func (.func rc) [] []) args] ds) (ht:∀ t,Rep (Imm H w) w (f t) (tmps.getD t undef)) (hv:Rep (Imm H w) w av v) (hst:St G H w) (he:Evo H0 w0 H w) :
  LeavesInM wide 0 P fn tmps R ds (.panicking [{ v,recovered:=false }]) w:=by
 cases hd with
 |cons h0 h hs=>
  cases hs
  obtain ⟨fn',first,cap,vf,vc,va,e1,e2,e3,e4,e5⟩:=h
  cases e1
  cases e2
  cases e3
  subst e5
  refine ⟨by simp,.inr ⟨fun h=>by simp[wide,Fence.wide] at h,.func rc,#[],rc,va.toArray,rfl,?_,fun _ _=>trivial,?_⟩⟩
  ·simp only[invoke,run_callFunc hc.1]
   simp
  ·obtain ⟨hq1,hq2⟩:=hc.2 w va v e4 hv hst
   refine ⟨hq1,fun c cs hcm hroom=>?_⟩
   obtain ⟨e,u',w',fr,⟨⟨x,rfl⟩,hu,H',⟨r,hr,hR⟩,hst',he'⟩,rest⟩:=hq2 c cs hcm hroom
   refine ⟨_,u',w',fr,?_,rest⟩
   show LeavesInM wide 0 P fn tmps R [] (settle u') w'
   rw[hu]
   obtain ⟨u,e6,e7⟩:=vresults_run (fun t=>he'.rep (ht t)) hst' hr
   exact ⟨u,e6,hR u w' e7 hst' (he.trans he')⟩
def FinX (P:Program) (G:GT) (fn:Func) (K:ARes->HM->Prop):AX->AS->Prop
 |.normal,s | .ret,s=>defsOk P s.defs/\∃ v v' H1,vresults P fn s.H s.tmps=some v/\Drop s.H H1/\View G s.H H1 v v'/\K (.ret v') H1
 |.pan av,s=>∃ rc args,s.defs=[.call (.func (.func rc) [] []) args]/\RecV P G rc av args s.H fun H2=>∃ v v' H1,vresults P fn H2 s.tmps=some v/\Drop H2 H1/\View G H2 H1 v v'/\K (.ret v') H1
 |_,_=>False
theorem RecV.mono {f:FuncId} {av:AV} {args:List AV} {K K':HM->Prop} (h:RecV P G f av args H K) (hk:∀ H',K H'->K' H'):RecV P G f av args H K':=by
 refine ⟨h.1,fun w vs v h1 h2 h3=>?_⟩
 obtain ⟨q1,q2⟩:=h.2 w vs v h1 h2 h3
 refine ⟨q1,fun c cs hc hr=>?_⟩
 obtain ⟨e,u',w',fr,⟨a,b,H',k,c'⟩,rest⟩:=q2 c cs hc hr
 exact ⟨e,u',w',fr,⟨a,b,H',hk H' k,c'⟩,rest⟩
theorem CallF_introX {f:FuncId} {fn:Func} {c:Code} {args:List AV} {K:ARes->HM->Prop} (hf:P.funcs[f]?=some fn) (hb:fn.body=some c) (hc:cok fn.ntmps c=true) (hn:args.length<=fn.ntmps)
  (h:VW P G fn.ntmps none c (FinX P G fn K) ⟨fun i=>args.getD i .unit,H,[]⟩):CallF P G f args H K:=by
 intro w vs hr hst
 refine callsIn_of_wp_marks (F:=wide) hf hb trivial ?_ rfl
 have hlen:=hr.length
 have hs:Sim G fn.ntmps w.heap.size ⟨fun i=>args.getD i .unit,H,[]⟩ { tmps:=vs.toArray++Array.replicate (fn.ntmps-vs.toArray.size) undef,defers:=[] } w:=by
  refine ⟨by simp;omega,fun t=>?_,hst,.nil,Nat.le_refl _⟩
  by_cases ht:t<args.length
  ·obtain ⟨v,e1,e2⟩:=hr.get t _ (List.getElem?_eq_getElem ht)
   have:(vs.toArray++Array.replicate (fn.ntmps-vs.toArray.size) undef).getD t undef=v:=by
    rw[Array.getD_eq_getD_getElem?,Array.getElem?_append_left (by simp;omega)]
    simp[e1]
   simp only[this,List.getD_eq_getElem?_getD,List.getElem?_eq_getElem ht,Option.getD_some]
   exact e2
  ·have:(vs.toArray++Array.replicate (fn.ntmps-vs.toArray.size) undef).getD t undef=undef:=by
    rw[Array.getD_eq_getD_getElem?,Array.getElem?_append_right (by simp;omega)]
    rw[Array.getElem?_replicate];split<;>rfl
   simp only[this,List.getD_eq_getElem?_getD,List.getElem?_eq_none (Nat.le_of_not_lt ht),Option.getD_none]
   exact Y12 _ _
 refine wpIn_mono (h hc _ _ w hs) ?_
 rintro e a' w' ⟨x,s',q,hx,hs',he⟩
 have fin:FinX P G fn K .ret s'->LeavesInM wide 0 P fn a'.tmps (fun | .returned v,w''=>Out G H w (fun a=>K (.ret a)) v w'' | .panicked chain,w''=>∃ v,chain=[{ v,recovered:=false }]/\Out G H w (fun a=>K (.pan a)) v w'' | .outgrown,_=>False) a'.defers .returning w':=by
  rintro ⟨hm,v,v',H1,hv,hd,hview,hk⟩
  refine leave_D hv (fun u w'' r1 r2 r3=>?_) s'.defs a'.defers w' hm hs'.defs hs'.tmp hs'.st he
  exact ⟨v',H1,hk,hview w'' u r2 r1,r2.drop hd,r3.drop hd⟩
 cases x with
 |normal=>cases e<;>first|exact fin q|exact hx.elim
 |ret=>cases e<;>first|exact fin q|exact hx.elim
 |pan av=>
  cases e with
  |panic chain=>
   obtain ⟨u,rfl,hu⟩:=hx
   obtain ⟨rc,cargs,hdf,hrec⟩:=q
   have hdefs:=hs'.defs
   rw[hdf] at hdefs
   refine leave_rec (hrec.mono ?_) hdefs hs'.tmp hu hs'.st he
   rintro H2 ⟨v,v',H1,hv,hd,hview,hk⟩
   exact ⟨v,hv,fun u w'' r1 r2 r3=>⟨v',H1,hk,hview w'' u r2 r1,r2.drop hd,r3.drop hd⟩⟩
  |_=>exact hx.elim
 |_=>exact q.elim
end
set_option linter.defProp false
set_option maxRecDepth 100000
open Go.Proofs.Tryz
section
variable {G:GT}
theorem subIn_c (hG:Tabs G) (S:Sub) (hS:SubV S):∀ (n:Nat) (e:Ex) (L:List Nm) (H:HM),e.nodes<=n->Okk e->S.x∉env false L->(S.v.k=0\/spB S.x (db e L)=false)->PureF prog G 71 [.ref S.cells,e.av] H (substN S n e).av
 |0,e,L,H,hn,_,_,_=>by have:=Ex.nodes_eq e;omega
 |n+1,e,L,H,hn,ho,hxL,hsp=>by
  have hstep:=sub_step hS ho hxL hsp
  have hf:=ho.1.one
  have hno:=ho.node
  have hbb:bnd=16777216:=rfl
  have hlim:50000000<=lim:=by decide
  refine P10 (fn:=f71) func71 rfl (by kernel_rfl) (by kernel_rfl) (Nat.le_of_ble_eq_true (by kernel_rfl)) fun K hk=>?_
  refine A10 [3] fun N E hN hE=>?_
  simp +decide only[ZS,↓reduceIte]
  refine F10 fun b3 hb3=>?_
  simp +decide only[ZS,↓reduceIte]
  refine F10 fun r hr0=>?_
  obtain ⟨hr3,hr⟩:=G11 hr0
  simp +decide only[ZS,↓reduceIte]
  refine hN _ ?_
  clear hN hE N E
  have hb3r:(H.upd r (.cells 27 zc)) b3=none:=by rw[HM.upd_ne _ _ (Ne.symm hr3)];exact hb3
  have hcm:(H.upd b3 (.cells 27 e.av.cells)).upd r (.cells 27 zc)=(H.upd r (.cells 27 zc)).upd b3 (.cells 27 e.av.cells):=HM.upd_comm _ _ _ (Ne.symm hr3)
  rw[C10] at hcm
  show VW prog G f71.ntmps none _ _ ⟨_,(H.upd b3 (.cells 27 _)).upd r (.cells 27 zc),_⟩
  rw[hcm]
  generalize hHr:H.upd r (.cells 27 zc)=Hr at *
  have hrr:Hr r=some (.cells 27 zc):=by rw[<-hHr];exact HM.upd_same _ _ _
  have h3:∀ cs,(Hr.upd b3 (.cells 27 cs)) b3=some (.cells 27 cs):=fun cs=>HM.upd_same _ _ _
  clear hcm hr0
  refine I10 (A10 [] fun N E hN hE=>?_)
  simp +decide only[ZS,↓reduceIte,h3]
  refine D10 (occ_c e) ?_
  simp +decide only[ZS,↓reduceIte]
  refine hN _ ?_
  clear hN hE N E
  refine O11 [] (fun s'=>s'.tmps 33=.bool ((occ e).2.2&&!(occ e).2.1&&decide ((occ e).1=S.x))/\s'.tmps 2=.ref [.ref S.cells]/\s'.tmps 3=.addr b3 0/\s'.tmps 4=.addr r 0/\s'.H=(Hr.upd b3 (.cells 27 [.int e.k,.int e.n,.str e.s,.str e.t,.list (strs e.names),.list (exs e.l),.list (ars e.arms)]))/\s'.defs=[]) (fun N E hN hE=>?_) ?_
  ·clear hE
   try clear hk
   simp +decide only[ZS,↓reduceIte,Sub.cells]
   repeat' (refine V10 (fun hb=>?_) (fun hb=>?_)<;>simp +decide only[ZS,↓reduceIte,Sub.cells, *])
   all_goals refine hN _ ?_
   all_goals clear hN
   all_goals refine ⟨?_,?_,?_,?_,?_,?_⟩
   all_goals first|rfl|assumption|(simp only[C10];rfl)|(simp +decide only[ZS,↓reduceIte]<;>simp_all;done)|(simp +decide only[ZS,↓reduceIte]<;>simp_all<;>omega)
  rintro ⟨tb1,Hb1,dsb⟩ ⟨fb33,fb2,fb3,fb4,gHb,gdsb⟩
  obtain rfl:(Hr.upd b3 (.cells 27 [.int e.k,.int e.n,.str e.s,.str e.t,.list (strs e.names),.list (exs e.l),.list (ars e.arms)]))=Hb1:=gHb.symm
  obtain rfl:dsb=[]:=gdsb
  try simp only[C10] at fb2 fb3 fb4
  refine B10 33 _ fb33 (B10 2 _ fb2 (B10 3 _ fb3 (B10 4 _ fb4 ?_)))
  by_cases hcut:(hitS S e&&decide (e.k=0))=true
  ·have hcut':=hcut
   simp only[Bool.and_eq_true,decide_eq_true_eq] at hcut'
   rw[substN,if_pos hcut] at hk
   refine T10 rfl (fun hc=>?_) (fun hc=>?_)
   ·refine I10 (A10 [] fun N E hN hE=>?_)
    simp +decide only[ZS,↓reduceIte,h3,hcut'.2,decide_true]
    refine hN _ ?_
    clear hN hE N E
    refine T10 rfl (fun hc=>?_) (fun hc=>?_)
    ·have hd:=fun H0=>duplicate_c (G:=G) S.v hS.ok H0
     refine V11 (i:=3) hb3r rfl ?_
     refine A10 [] fun N E hN hE=>?_
     simp +decide only[ZS,↓reduceIte,Sub.cells]
     refine D10 (hd _) ?_
     simp +decide only[ZS,↓reduceIte,hrr]
     refine hN _ ?_
     clear hN hE N E
     refine L10 ?_
     rw[<-hHr]
     exact Fin_ex _ rfl rfl hr (fun d hd=>by cases hd) (by rw[C10];rfl) hk
    ·cases hc
   ·have hc':hitS S e=false:=hc
    rw[hc'] at hcut';cases hcut'.1
  have hcf:(hitS S e&&decide (e.k=0))=false:=by simpa using hcut
  rw[substN,if_neg hcut] at hk
  obtain ⟨hk1,hn1,hkid⟩:=hstep hcf
  refine VW_thenC (fun s'=>(s'.tmps 3=.addr b3 0/\s'.H=Hr.upd b3 (.cells 27 (hitE S e).av.cells))/\s'.tmps 2=.ref [.ref S.cells]/\s'.tmps 4=.addr r 0/\s'.defs=[]) ?_ ?_
  ·clear hk
   refine T10 rfl (fun hc=>?_) (fun hc=>?_)
   ·have hh:hitS S e=true:=hc
    have hk0:e.k≠0:=fun q=>by rw[hh,q] at hcf;cases hcf
    have hE:hitE S e=setS e S.v.s:=by unfold hitE;rw[if_pos hh]
    refine I10 (A10 [] fun N E hN hE=>?_)
    simp +decide only[ZS,↓reduceIte,h3,decide_eq_false hk0]
    refine hN _ ?_
    clear hN hE N E
    refine T10 rfl (fun hc=>?_) (fun hc=>?_)
    ·exact absurd (of_decide_eq_true hc) hk0
    refine G10 ?_
    refine R10 [] fun N E hN hE=>?_
    simp +decide only[ZS,↓reduceIte,h3,Sub.cells]
    refine hN _ ?_
    clear hN hE N E
    refine ⟨⟨rfl,?_⟩,rfl,rfl,rfl⟩
    rw[hE,C10]
    rfl
   ·have hh:hitS S e=false:=hc
    have hE:hitE S e=e:=by unfold hitE;rw[hh];rfl
    refine G10 ⟨⟨rfl,?_⟩,rfl,rfl,rfl⟩
    rw[hE,C10]
  rintro ⟨tm,Hc,ds⟩ ⟨⟨t3,hHc⟩,t2,t4,hds⟩
  obtain rfl:Hc=_:=hHc
  obtain rfl:ds=[]:=hds
  simp only at t2 t3 t4
  clear fb33 fb2 fb3 fb4
  generalize hitE S e=e1 at *
  have hb3n:∀ cs,(Hr.upd b3 (.cells 27 cs)) b3=some (.cells 27 cs):=h3
  refine A10 [] fun N E hN hE=>?_
  simp +decide only[ZS,↓reduceIte,t3,t2,t4]
  refine F10 fun bt hbt0=>?_
  simp +decide only[ZS,↓reduceIte,t3,t2,t4]
  refine F10 fun b8 hb80=>?_
  simp +decide only[ZS,↓reduceIte,t3,t2,t4]
  refine F10 fun b9 hb90=>?_
  obtain ⟨htn,ht0⟩:=G11 hbt0
  obtain ⟨h8t,hb81⟩:=G11 hb80
  obtain ⟨h83,h80⟩:=G11 hb81
  obtain ⟨h98,hb91⟩:=G11 hb90
  obtain ⟨h9t,hb92⟩:=G11 hb91
  obtain ⟨h93,h90⟩:=G11 hb92
  have k9:∀ (X:HM) (cs:List AV),(X.upd b9 (.cells 67 cs)) b9=some (.cells 67 cs):=fun X cs=>HM.upd_same _ _ _
  have k8:∀ (X:HM) (cs cs':List AV),((X.upd b8 (.cells 67 cs)).upd b9 (.cells 67 cs')) b8=some (.cells 67 cs):=fun X cs cs'=>by rw[HM.upd_ne _ _ h98.symm,HM.upd_same]
  have k98:∀ (X:HM) (cs cs' cs2:List AV),(((X.upd b8 (.cells 67 cs)).upd b9 (.cells 67 cs')).upd b8 (.cells 67 cs2)) b9=some (.cells 67 cs'):=fun X cs cs' cs2=>by rw[HM.upd_ne _ _ h98,HM.upd_same]
  simp +decide only[ZS,↓reduceIte,t3,t2,t4,k8,k98]
  refine hN _ ?_
  clear hN hE N E
  have hY:((((((Hr.upd b3 (.cells 27 e1.av.cells)).upd bt (.map [])).upd b8 (.cells 67 [.val (.map none)])).upd b9 (.cells 67 [.val (.map none)])).upd b8 (.cells 67 [.map bt])).upd b9 (.cells 67 [.val (.map none)]))=(HI Hr b3 bt b9 (e1,none,[])).upd b8 (.cells 67 [.map bt]):=by
   unfold HI mineV
   funext k
   simp only[HM.upd]
   split
   ·rename_i q;rw[q,if_neg h98]
   ·split<;>rfl
  rw[C10] at hY
  rw[hY]
  have h8n:HI Hr b3 bt b9 (e1,none,[]) b8=none:=by
   unfold HI;rw[HM.upd_ne _ _ h98.symm,HM.upd_ne _ _ h8t,HM.upd_ne _ _ h83];exact h80
  refine V11 (i:=8) h8n rfl ?_
  clear hY h8n k8 k98 k9 hb80 hb81 hb90 hb91 hb92 h8t h83 h98 h80 hbt0
  have n3t:b3≠bt:=htn.symm
  have n39:b3≠b9:=h93.symm
  have nt9:bt≠b9:=h9t.symm
  have j3:∀ a:St3,HI Hr b3 bt b9 a b3=some (.cells 27 [.int a.1.k,.int a.1.n,.str a.1.s,.str a.1.t,.list (strs a.1.names),.list (exs a.1.l),.list (ars a.1.arms)]):=fun a=>by rw[HI_3 n39 n3t,C10]
  have j9:∀ a:St3,HI Hr b3 bt b9 a b9=some (.cells 67 [mineV a.2.1]):=fun a=>HI_9
  have jt:∀ a:St3,HI Hr b3 bt b9 a bt=some (.map (kv a.2.2)):=fun a=>HI_t nt9
  have hfk1:=hk1.1.one
  have hnk1:=hk1.node
  refine I10 (A10 [] fun N E hN hE=>?_)
  simp +decide only[ZS,↓reduceIte,t3,j3]
  refine D10 (slots_c e1 _) ?_
  simp +decide only[ZS,↓reduceIte]
  refine hN _ ?_
  clear hN hE N E
  refine J10 ?_
  refine V12 fun tn htn2=>?_
  have u50:tn 50=.func (.func 140) [] [.ref e1.av.cells]:=by rw[htn2,C10];rfl
  have u2:tn 2=.ref [.ref S.cells]:=by rw[htn2];exact t2
  have u3:tn 3=.addr b3 0:=by rw[htn2];exact t3
  have u4:tn 4=.addr r 0:=by rw[htn2];exact t4
  have u8:tn 8=.ref [.map bt]:=by rw[htn2];rfl
  have u9:tn 9=.addr b9 0:=by rw[htn2];rfl
  clear htn2 t2 t3 t4
  refine C12 (xs:=slotItems e1) (gf:=140) (first:=[]) (cap:=[.ref e1.av.cells]) u50 (slots_it e1 hfk1 fun h17=>one_name hnk1 (.inr (.inr h17))) ?_
   (fun i H'=>H'=HI Hr b3 bt b9 (slotSt S e1 i)) (fun _ _=>False) rfl ?_ ?_ ?_
  ·intro x hx
   obtain ⟨p,_,rfl⟩:=List.mem_map.1 hx
   rfl
  ·rintro l i x H' hx rfl
   have hil:i<(slotsL e1).length:=by
    have:=(List.getElem?_eq_some_iff.1 hx).1
    unfold slotItems at this;rwa [List.length_map] at this
   have hgx:(slotsL e1)[i]?=some (slotsL e1)[i]:=List.getElem?_eq_getElem hil
   unfold slotItems at hx
   rw[List.getElem?_map,hgx] at hx
   cases hx
   have his:=slotSt_is hS.toSubOk hk1 i (by omega)
   have hwl:=slots_len e1 hnk1
   have hto:=his.to hS.toSubOk hk1 (by omega) (List.getElem_mem hil)
   have hsc:=slotSt_succ S hil
   have hak:=his.kept.okk hk1
   have hga:(slotsL e1)[i]∈slotsL (slotSt S e1 i).1:=by rw[<-slots_like his.like];exact List.getElem_mem hil
   have hall:=his.all
   have hlen3:=his.len
   have hvar:=nameAt_var hak.node hga
   have hgok:=slot_ok hak.node hga
   rw[hsc]
   clear hsc hgx his
   generalize (slotsL e1)[i]=g at *
   generalize slotSt S e1 i=a at *
   obtain ⟨e2,m,tk⟩:=a
   simp only at hak hall hlen3 hga hvar hgok hto
   obtain ⟨gj,gi,gh⟩:=g
   simp only[setPs,List.zip,List.zipWith,List.foldl,slotV]
   refine R10 [] fun N E hN hE=>?_
   simp +decide only[ZS,↓reduceIte]
   refine F10 fun c hcn=>?_
   simp +decide only[ZS,↓reduceIte]
   refine hN _ ?_
   clear hN hE N E
   refine ⟨rfl,?_⟩
   refine V11 (i:=10) hcn rfl ?_
   clear hcn
   refine J10 ?_
   refine I10 (A10 [] fun N E hN hE=>?_)
   simp +decide only[ZS,↓reduceIte,u2,u3,j3]
   refine D10 (captures_c S e2 hak (gj,gi,gh) hgok) ?_
   simp +decide only[ZS,↓reduceIte]
   refine hN _ ?_
   clear hN hE N E
   refine T10 rfl (fun hc=>?_) (fun hc=>?_)
   ·have hcap:capF S e2 (gj,gi,gh)=false:=by simpa using hc
    refine L11 ?_
    simp only[AX.then,AX.inBlock,↓reduceIte]
    refine ⟨rfl,_,Drop.refl _,?_⟩
    unfold stepIn
    rw[if_neg (by rw[hcap];decide)]
   have hcap:capF S e2 (gj,gi,gh)=true:=by simpa using hc
   refine G10 ?_
   refine VW_seqC (fun s'=>s'.H=HI Hr b3 bt b9 (e2,some (m.getD (allK e2)),tk)/\s'.tmps 2=.ref [.ref S.cells]/\s'.tmps 3=.addr b3 0/\s'.tmps 8=.ref [.map bt]/\s'.tmps 9=.addr b9 0/\s'.tmps 10=.ref [.int (armI gj),.int gi,.bool gh]/\s'.defs=[]) ?_ ?_
   ·cases m with
    |none=>
     have j9':HI Hr b3 bt b9 (e2,none,tk) b9=some (.cells 67 [.val (.map none)]):=j9 _
     refine A10 [] fun N E hN hE=>?_
     simp +decide only[ZS,↓reduceIte,u9,j9']
     refine hN _ ?_
     clear hN hE N E
     refine T10 rfl (fun hc=>?_) (fun hc=>?_)
     ·refine R10 [] fun N E hN hE=>?_
      simp +decide only[ZS,↓reduceIte,u3,j3]
      refine D10 (all_c e2 hak) ?_
      simp +decide only[ZS,↓reduceIte,u9,j9']
      refine hN _ ?_
      clear hN hE N E
      refine ⟨?_,u2,u3,u8,u9,rfl,rfl⟩
      exact HI_u9 (a:=(e2,none,tk)) (some (allK e2))
     ·cases hc
    |some l2=>
     have j9':HI Hr b3 bt b9 (e2,some l2,tk) b9=some (.cells 67 [.imap (kv l2)]):=j9 _
     refine A10 [] fun N E hN hE=>?_
     simp +decide only[ZS,↓reduceIte,u9,j9']
     refine hN _ ?_
     clear hN hE N E
     refine T10 rfl (fun hc=>?_) (fun hc=>?_)
     ·cases hc
     exact G10 ⟨rfl,u2,u3,u8,u9,rfl,rfl⟩
   rintro ⟨tp,Hc,ds⟩ ⟨hHc,p2,p3,p8,p9,p10,hds⟩
   obtain rfl:Hc=_:=hHc
   obtain rfl:ds=[]:=hds
   simp only at p2 p3 p8 p9 p10
   have hst:stepIn S (e2,m,tk) (gj,gi,gh)=(renamedF e2 (gj,gi,gh) (toB S (e2,m,tk) (gj,gi,gh)),some (m.getD (allK e2)),addK tk (toB S (e2,m,tk) (gj,gi,gh))):=by
    unfold stepIn;rw[if_pos hcap]
   have htb:toB S (e2,m,tk) (gj,gi,gh)=freshB (nameAt e2 (gj,gi,gh)) (m.getD (allK e2)++(S.nm++(S.x::tk))):=rfl
   have hUl:(m.getD (allK e2)++(S.nm++(S.x::tk))).length<=100000000:=by
    have h1:=allK_len e1
    have h2:=hk1.2.2.2
    have h4:=hS.nm
    rw[hall]
    simp only[List.length_append,List.length_cons];omega
   rw[hst]
   clear hst
   have hts:=hto.1
   generalize toB S (e2,m,tk) (gj,gi,gh)=to1 at *
   generalize m.getD (allK e2)=mm at *
   have j9':HI Hr b3 bt b9 (e2,some mm,tk) b9=some (.cells 67 [.imap (kv mm)]):=j9 _
   have jt':HI Hr b3 bt b9 (e2,some mm,tk) bt=some (.map (kv tk)):=jt _
   refine A10 [] fun N E hN hE=>?_
   simp +decide only[ZS,↓reduceIte,p10,p3,j3,p9,p2,p8]
   refine D10 (name_c e2 (gj,gi,gh) hak.1.one hgok) ?_
   simp +decide only[ZS,↓reduceIte,p10,p3,j3,p9,p2,p8]
   refine D10 (fresh_c hG (nameAt e2 (gj,gi,gh)) hvar _ hUl (g:=113) (cap:=[.addr b9 0,.ref [.ref S.cells],.ref [.map bt]]) (fun s' K _ hk=>CallF.callV (by kernel_rfl) ((in1_c S s' mm tk j9' jt').2 K hk))) ?_
   rw[<-htb]
   simp +decide only[ZS,↓reduceIte]
   refine hN _ ?_
   clear hN hE N E
   refine A10 [] fun N E hN hE=>?_
   simp +decide only[ZS,↓reduceIte,p8,jt']
   refine ⟨bs_ok (by kernel_rfl) (U13 ⟨rfl,rfl⟩),?_⟩
   refine W10 (by kernel_rfl) (put_c [to1] (by show 1<=lim;decide) jt' ?_)
   rw[M10]
   simp +decide only[ZS,↓reduceIte]
   refine hN _ ?_
   clear hN hE N E
   have hu1:(HI Hr b3 bt b9 (e2,some mm,tk)).upd bt (.map (kv ([to1].foldl addK tk)))=HI Hr b3 bt b9 (e2,some mm,addK tk to1):=HI_ut nt9 _
   rw[hu1]
   clear hu1
   refine R10 [] fun N E hN hE=>?_
   simp +decide only[ZS,↓reduceIte,p10,p3,j3]
   refine D10 (renamed_c e2 hak (gj,gi,gh) hgok to1 hts _) ?_
   simp +decide only[ZS,↓reduceIte,p3,j3]
   refine hN _ ?_
   clear hN hE N E
   refine ⟨rfl,_,Drop.refl _,?_⟩
   have:=HI_u3 (Hr:=Hr) (a:=(e2,some mm,addK tk to1)) n39 n3t (renamedF e2 (gj,gi,gh) to1)
   rw[C10] at this
   exact this
  ·rintro D H' rfl hD _
   have hlenI:(slotItems e1).length=(slotsL e1).length:=List.length_map _
   rw[hlenI]
   simp only[AX.then,AX.inBlock]
   have his:=slotSt_is hS.toSubOk hk1 _ (Nat.le_refl _)
   have hfe:slotsF S e1=(slotSt S e1 (slotsL e1).length).1:=rfl
   have hkf:Okk (slotsF S e1):=his.kept.okk hk1
   have hnf:(slotsF S e1).nodes=e1.nodes:=his.kept.nodes
   have hdr:Drop (HI Hr b3 bt b9 (slotSt S e1 (slotsL e1).length)) Hr:=HI_drop hb3r ht0 h90
   refine VW_see (s:=⟨tn,HI Hr b3 bt b9 (slotSt S e1 (slotsL e1).length),[.mark D]⟩) (i:=3) (H1:=Hr) (v':=.ref (slotsF S e1).av.cells) hdr (by
    show View G _ Hr (tn 3) _
    rw[u3]
    exact View.cells (off:=0) hdr (HI_3 n39 n3t) hb3r) ?_
   clear hdr his hfe hD hlenI j3 j9 jt u50 u3 u8 u9
   generalize slotsF S e1=f at *
   have hff:=hkf.1.one
   have hnf2:=hkf.node
   obtain ⟨_,_,hnl,hll,hal,_,_⟩:=id hff
   have hpl:=Z11 f
   refine A10 [] fun N E hN hE=>?_
   simp +decide only[ZS,↓reduceIte]
   refine F10 fun b12 hb12=>?_
   obtain ⟨hb12r,hb120⟩:b12≠r/\H b12=none:=by rw[<-hHr] at hb12;exact G11 hb12
   simp +decide only[ZS,↓reduceIte,u2,u4]
   refine hN _ ?_
   clear hN hE N E
   obtain ⟨Hb,hHb⟩:∃ Hb,Hb=Hr.upd b12 (.cells 24 [.nil0]):=⟨_,rfl⟩
   have h33:Hb b12=some (.cells 24 [.nil0]):=by rw[hHb];exact HM.upd_same _ _ _
   show VW prog G f71.ntmps none _ _ ⟨_,Hr.upd b12 (.cells 24 [.nil0]),_⟩
   rw[<-hHb]
   refine I10 (A10 [] fun N E hN hE=>?_)
   simp +decide only[ZS,↓reduceIte]
   refine D10 (sParts_c f) ?_
   simp +decide only[ZS,↓reduceIte]
   refine hN _ ?_
   clear hN hE N E
   refine J10 ?_
   refine V12 fun tq htq=>?_
   have w75:tq 75=.func (.func 136) [] [.ref f.av.cells]:=by rw[htq,C10];rfl
   have w12:tq 12=.addr b12 0:=by rw[htq];rfl
   have w2:tq 2=.ref [.ref S.cells]:=by rw[htq];exact u2
   have w4:tq 4=.addr r 0:=by rw[htq];exact u4
   have w3:tq 3=.ref f.av.cells:=by rw[htq,C10];rfl
   clear htq u2 u4
   obtain ⟨ls,hls⟩:∃ ls,ls=f.parts.mapIdx fun i p=>if has (vOf f i) S.x=true then p else substN S n p:=⟨_,rfl⟩
   have hlsl:ls.length=f.parts.length:=by rw[hls,List.length_mapIdx]
   rw[<-hls] at hk
   refine C12 (xs:=items f) (gf:=136) (first:=[]) (cap:=[.ref f.av.cells]) w75 (parts_it f hff hnf2) ?_
    (fun i H'=>∃ v,DL Hb b12 v (ls.take i) H') (fun _ _=>False) ⟨.nil0,DL.start h33⟩ ?_ ?_ ?_
   ·intro x hx
    obtain ⟨p,_,rfl⟩:=List.mem_map.1 hx
    rfl
   ·rintro l i x H' hx ⟨v,d⟩
    have hi:i<f.parts.length:=by
     have:=(List.getElem?_eq_some_iff.1 hx).1
     rwa [T11] at this
    rw[P13 hi] at hx
    cases hx
    have hxm:=List.getElem_mem hi
    have hpk:=hkf.part hxm
    have hpn:=Ex.part_lt hxm
    have hki:=hkid i _ (List.getElem?_eq_getElem hi)
    have htk:ls.take (i+1)=ls.take i++[if has (vOf f i) S.x=true then f.parts[i] else substN S n f.parts[i]]:=by rw[hls,mapIdx_take _ _ hi]
    have hlk:(ls.take i).length=i:=by rw[List.length_take];omega
    have hins:=fun H0=>X12 (G:=G) (H:=H0) (vOf f i) S.x (vOf_len hff i)
    rw[htk]
    generalize ls.take i=xs at *
    generalize f.parts[i]=x at *
    generalize has (vOf f i) S.x=hb at *
    simp only[setPs,List.zip,List.zipWith,List.foldl,partAV]
    refine R10 [] fun N E hN hE=>?_
    simp +decide only[ZS,↓reduceIte]
    refine F10 fun c hcn=>?_
    simp +decide only[ZS,↓reduceIte]
    refine hN _ ?_
    clear hN hE N E
    refine ⟨rfl,?_⟩
    have hcc:∀ cs,(H'.upd c (.cells 122 cs)) c=some (.cells 122 cs):=fun cs=>HM.upd_same _ _ _
    refine J10 ?_
    refine I10 (V13 [] 7 (by kernel_rfl) (by kernel_rfl) (by kernel_rfl) fun N E hN hE=>?_)
    simp only[List.take,List.drop]
    simp +decide only[ZS,QS,↓reduceIte,hcc,w2,Sub.cells,Nat.add_zero,List.drop_zero,len2,take2]
    refine D10 (hins _) ?_
    simp +decide only[ZS,↓reduceIte]
    refine hN _ ?_
    clear hN hE N E
    obtain ⟨y,hy⟩:∃ y,y=if hb=true then x else substN S n x:=⟨_,rfl⟩
    rw[<-hy] at htk ⊢
    refine VW_thenC (fun s'=>(s'.tmps 14=.addr c 0/\s'.H=H'.upd c (.cells 122 (pcs f i y)))/\s'.tmps 12=.addr b12 0/\s'.defs=[]) ?_ ?_
    ·refine T10 rfl (fun hc=>?_) (fun hc=>?_)
     ·have hfi:hb=false:=by simpa using hc
      obtain ⟨hk1',hk2'⟩:=hki hfi
      refine R10 [] fun N E hN hE=>?_
      simp +decide only[ZS,↓reduceIte,hcc,w2]
      refine D10 (subIn_c hG S hS n x (fr f i::L) _ (by omega) hpk hk1' hk2') ?_
      simp +decide only[ZS,↓reduceIte,hcc]
      refine hN _ ?_
      clear hN hE N E
      rw[hfi,if_neg (by decide)] at hy
      refine ⟨⟨rfl,?_⟩,w12,rfl⟩
      rw[hy];rfl
     ·have hfi:hb=true:=by simpa using hc
      rw[hfi,if_pos rfl] at hy
      refine G10 ⟨⟨rfl,?_⟩,w12,rfl⟩
      rw[hy];rfl
    rintro ⟨tz,Hc,ds⟩ ⟨⟨t14,hHc⟩,t12,hds⟩
    obtain rfl:Hc=_:=hHc
    obtain rfl:ds=[]:=hds
    refine V11 (i:=14) hcn t14 ?_
    clear hcc hcn t14 hy hins hki
    have d3:=d.h3
    have dl:=d.lenA
    have t12:tz 12=.addr b12 0:=t12
    refine' VW_mixE [] [0,1,2,3,4] (.one 5 false (.alt (.one 6 false (.alt (.one 7 false (.one 8 false .fin)) (.one 8 false (.one 7 false .fin)))) (.one 8 false (.one 6 false (.one 7 false .fin))))) (fun Hq=>Hq b12=some (.cells 24 [v])) (by kernel_rfl) (by kernel_rfl) (d3) (fun H' N hp hN=>?_) ?_
    rotate_left 1
    ·simp only[opsAt,List.drop,List.take,List.cons_append,List.nil_append]
     simp +decide only[ZS,QS,↓reduceIte,t12,hp,dl,pcs]
     exact ⟨bs_ok (by kernel_rfl) (U13 ⟨rfl,rfl⟩),hN⟩
    refine U10 fun N hN=>?_
    simp only[List.drop,List.take]
    simp +decide only[ZS,↓reduceIte]
    refine vappend_sl (z:=zV) d.sl rfl (by omega) d.nn fun b9' cap hb9 hnc=>?_
    rw[M10]
    simp +decide only[ZS,↓reduceIte]
    refine hN _ ⟨fun h=>(by cases h),?_⟩
    clear hN N
    obtain ⟨hnb,dS⟩:=d.snoc (cap:=cap) hb9 y (.row 27 7 cap (exs xs++[zV]))
    generalize hH1:H'.upd b9' (.row 27 7 cap (exs xs++[zV]))=H1 at *
    have hA:H1 b9'=some (.row 27 7 cap (exs xs++[zV])):=by rw[<-hH1];exact HM.upd_same _ _ _
    have h3A:H1 b12=some (.cells 24 [v]):=by rw[<-hH1,HM.upd_ne _ _ (Ne.symm hnb)];exact d3
    have hA3:(H1.upd b12 (.cells 24 [.mlist b9' (xs.length+1) cap])) b9'=some (.row 27 7 cap (exs xs++[zV])):=by rw[HM.upd_ne _ _ hnb];exact hA
    have h3B:(H1.upd b9' (.row 27 7 cap (exs (xs++[y])))) b12=some (.cells 24 [v]):=by rw[HM.upd_ne _ _ (Ne.symm hnb)];exact h3A
    have hSS:((H1.upd b9' (.row 27 7 cap (exs (xs++[y])))).upd b12 (.cells 24 [.mlist b9' (xs.length+1) cap]))=((H1.upd b12 (.cells 24 [.mlist b9' (xs.length+1) cap])).upd b9' (.row 27 7 cap (exs (xs++[y])))):=HM.upd_comm _ _ _ hnb
    have hin:((0:Int)<=(xs.length:Int)/\(xs.length:Int)<((xs.length+1:Nat):Int))=True:=eq_true ⟨by omega,by omega⟩
    have hx1:(exs xs++[zV])[xs.length]?=some zV:=exs_last xs zV
    refine wt_alt ?_ ?_
    ·refine U10 fun N hN=>?_
     simp only[List.drop,List.take]
     simp +decide only[ZS,↓reduceIte,hin,Int.toNat_natCast]
     refine hN _ ⟨fun h=>(by cases h),?_⟩
     clear hN N
     refine wt_alt ?_ ?_
     ·refine U10 fun N hN=>?_
      simp only[List.drop,List.take]
      simp +decide only[ZS,↓reduceIte,Y11 (hb:=hA) (hx:=hx1),put0]
      rw[exs_put]
      refine hN _ ⟨fun h=>(by cases h),?_⟩
      clear hN N
      refine U10 fun N hN=>?_
      simp only[List.drop,List.take]
      simp +decide only[ZS,↓reduceIte,t12,h3B]
      refine hN _ ⟨fun h=>(by cases h),O12 ?_⟩
      clear hN N
      simp only[AX.then,AX.inBlock]
      exact ⟨rfl,_,Drop.refl _,_,dS⟩
     ·refine U10 fun N hN=>?_
      simp only[List.drop,List.take]
      simp +decide only[ZS,↓reduceIte,t12,h3A]
      refine hN _ ⟨fun h=>(by cases h),?_⟩
      clear hN N
      refine U10 fun N hN=>?_
      simp only[List.drop,List.take]
      simp +decide only[ZS,↓reduceIte,Y11 (hb:=hA3) (hx:=hx1),put0]
      rw[exs_put,<-hSS]
      refine hN _ ⟨fun h=>(by cases h),O12 ?_⟩
      clear hN N
      simp only[AX.then,AX.inBlock]
      exact ⟨rfl,_,Drop.refl _,_,dS⟩
    ·refine U10 fun N hN=>?_
     simp only[List.drop,List.take]
     simp +decide only[ZS,↓reduceIte,t12,h3A]
     refine hN _ ⟨fun h=>(by cases h),?_⟩
     clear hN N
     refine U10 fun N hN=>?_
     simp only[List.drop,List.take]
     simp +decide only[ZS,↓reduceIte,hin,Int.toNat_natCast]
     refine hN _ ⟨fun h=>(by cases h),?_⟩
     clear hN N
     refine U10 fun N hN=>?_
     simp only[List.drop,List.take]
     simp +decide only[ZS,↓reduceIte,Y11 (hb:=hA3) (hx:=hx1),put0]
     rw[exs_put,<-hSS]
     refine hN _ ⟨fun h=>(by cases h),O12 ?_⟩
     clear hN N
     simp only[AX.then,AX.inBlock]
     exact ⟨rfl,_,Drop.refl _,_,dS⟩
   ·rintro D2 H' ⟨v,d⟩ hD2 _
    rw[T11,<-hlsl,List.take_length] at d
    simp only[AX.then,AX.inBlock]
    rw[hHb] at d
    obtain ⟨hdr,hvw⟩:=d.see (G:=G) hb12 (by omega)
    refine VW_see (s:=⟨tq,H',[.mark D2,.mark D]⟩) (i:=12) (H1:=Hr) (v':=.ref [.list (exs ls)]) hdr (by show View G H' Hr (tq 12) _;rw[w12];exact hvw) ?_
    clear hvw hdr d hD2 hHb h33 w12
    rw[C10] at w3
    refine A10 [] fun N E hN hE=>?_
    simp +decide only[ZS,↓reduceIte,w3]
    refine D10 (withP_c f hff ls hlsl) ?_
    simp +decide only[ZS,↓reduceIte,w4,hrr]
    refine hN _ ?_
    clear hN hE N E
    refine L10 ?_
    rw[<-hHr]
    exact Fin_ex _ rfl w4 hr (fun d hd=>by
     rcases List.mem_cons.1 hd with q|q
     ·exact ⟨_,q⟩
     ·exact ⟨_,by simpa using q⟩) (by rw[C10];rfl) hk
   ·rintro _ _ _ _ hJ
    exact hJ.elim
  ·rintro _ _ _ _ hJ
   exact hJ.elim
end
section
variable {P:Program} {G:GT} {n:Nat} {Q:AX->AS->Prop}
theorem VOpsD_two {ops:Array Oper} {o1 o2:Oper} {s:AS} (h1:∀ c,o1.op≠.defer c) (h:wops P G [] ops (fun s'=>VOpD P G ops Q o2 (fun s''=>Q .normal s'') s') (fun v s'=>Q (.pan v) s') [o1] s.tmps s.H s.defs):VOpsD P G ops Q [o1,o2] s:=by
 have:=vops_sound [o1] s h
 show VOpD P G ops Q o1 (VOpsD P G ops Q [o2]) s
 unfold VOpD
 split
 ·rename_i c hc;exact absurd hc (h1 c)
 ·exact this
theorem CallF_bodyX {f:FuncId} {fn:Func} {c:Code} {args:List AV} {H:HM} {K:ARes->HM->Prop} (hf:P.funcs[f]?=some fn) (hb:fn.body=some c) (hc:cok fn.ntmps c=true) (hn:args.length<=fn.ntmps)
  (h:VW P G fn.ntmps none c (FinX P G fn K) ⟨start 0 args,H,[]⟩):CallF P G f args H K:=by
 refine CallF_introX hf hb hc hn ?_
 have:(fun i=>args.getD i .unit)=start 0 args:=by
  funext i;have:=start_eq args 0 i;rw[Nat.zero_add] at this;exact this.symm
 rw[this];exact h
theorem vresults_aggC {fn:Func} {tm:Nat->AV} {H:HM} {a t b et a' t' b' et':Nat} {cs:List AV} {v':AV} {ti ti':TI} (h:fn.results = #[.cell a t,.cell a' t']) (ht:tiOf P t=some ti) (hag:ti.agg=true) (hl:ti.size=cs.length) (ha:tm a=.addr b 0) (hb:H b=some (.cells et cs))
  (ht':tiOf P t'=some ti') (hag':ti'.agg=false) (ha':tm a'=.addr b' 0) (hb':H b'=some (.cells et' [v'])):vresults P fn H tm=some (.tup [.agg cs,v']):=by
 simp[vresults,vresL,vres,h,ht,ha,cellsAt,hb,ldv,hag,hl,ht',ha',hb',hag']
end
section
variable {H:HM}
theorem pSize_c {G:GT} (hG:Tabs2 G) (e:Ex) (hf:Fit e):PureF prog G 70 [e.av] H (.int (size e)):=by
 have hle:=left_le e 3000 200 (by decide)
 have hw:IntKind.i64.wrap (3000-left e 3000 200)=3000-left e 3000 200:=wrap64 (by omega) (by omega)
 have htl:=take_left e 3000 0 1 (by decide) (by decide) (by decide)
 rw[show (201:Int)-1=200 by decide] at htl
 refine P10 (fn:=f70) func70 rfl (by kernel_rfl) (by kernel_rfl) (Nat.le_of_ble_eq_true (by kernel_rfl)) fun K hk=>?_
 refine A10 [] fun N E hN hE=>?_
 simp +decide only[ZS,↓reduceIte]
 refine hN _ ?_
 clear hN hE N E
 refine A10 [] fun N E hN hE=>?_
 simp +decide only[ZS,↓reduceIte]
 refine D10 (measured_c hG e hf) ?_
 simp +decide only[ZS,↓reduceIte]
 refine F10 fun b hb=>?_
 have hbs:∀ cs,(H.upd b (.cells 103 cs)) b=some (.cells 103 cs):=fun cs=>HM.upd_same _ _ _
 simp +decide only[ZS,↓reduceIte,hbs]
 refine hN _ ?_
 clear hN hE N E
 try simp only[HM.upd_upd]
 refine V11 (i:=3) hb rfl ?_
 refine I10 (A10 [] fun N E hN hE=>?_)
 simp +decide only[ZS,↓reduceIte]
 refine hN _ ?_
 clear hN hE N E
 refine T10 rfl (fun hc=>?_) (fun hc=>?_)
 ·have hne:check e≠0:=by simpa using hc
  refine A10 [] fun N E hN hE=>?_
  simp +decide only[ZS,↓reduceIte]
  refine hN _ ?_
  clear hN hE N E
  have hs:size e=0:=by unfold size;rw[if_neg hne]
  rw[hs] at hk
  exact L10 (K10 2 rfl hk)
 ·have hz:check e=0:=by simpa using hc
  refine G10 ?_
  have h0:0<=left e 3000 200:=by
   unfold check at hz
   split at hz
   ·cases hz
   ·omega
  have hl:(take e 3000 0 1).2.1=left e 3000 200:=htl.2 h0
  rw[hl]
  refine A10 [] fun N E hN hE=>?_
  simp +decide only[ZS,↓reduceIte,hw]
  refine hN _ ?_
  clear hN hE N E
  have hs:size e=3000-left e 3000 200:=by unfold size;rw[if_pos hz]
  rw[hs] at hk
  refine L10 (K10 2 rfl ?_)
  simp +decide only[ZS,↓reduceIte]
  exact hk
theorem must_c {G:GT} (c:Int) {K:ARes->HM->Prop} (h1:c=0->K (.ret .unit) H) (h2:c≠0->K (.pan (.iface 127 (.agg [.int c]))) H):CallF prog G 69 [.int c] H K:=by
 refine A11 (fn:=f69) func69 rfl (by kernel_rfl) (Nat.le_of_ble_eq_true (by kernel_rfl)) ?_
 refine A10 [] fun N E hN hE=>?_
 simp +decide only[ZS,↓reduceIte]
 refine hN _ ?_
 clear hN hE N E
 refine T10 rfl (fun hc=>?_) (fun hc=>?_)
 ·have hc':c≠0:=by simpa using hc
  refine R10 [] fun N E hN hE=>?_
  simp +decide only[ZS,↓reduceIte]
  refine hE _ _ ⟨fun d hd=>(by cases hd),_,H,Drop.refl _,View.refl _,h2 hc'⟩
 ·have hc':c=0:=by simpa using hc
  exact G10 (Fin_end (J11 rfl) (h1 hc'))
theorem subst1_c {G:GT} {r:Nat} {cs:List AV} {K:ARes->HM->Prop} (hr:H r=some (.cells 27 cs)) (hl:cs.length=7) (hk:K (.ret .unit) (H.upd r (.cells 27 zc))):CallF prog G 68 [.addr r 0] H K:=by
 match cs,hl with
 |[c0,c1,c2,c3,c4,c5,c6],_=>
 refine A11 (fn:=f68) func68 rfl (by kernel_rfl) (Nat.le_of_ble_eq_true (by kernel_rfl)) ?_
 refine R10 [] fun N E hN hE=>?_
 simp +decide only[ZS,↓reduceIte,hr]
 refine hN _ (Fin_end (J11 rfl) ?_)
 exact hk
end
theorem Sim.entry {G:GT} {n:Nat} {args:List AV} {vs:List Value} {H:HM} {w:World} (hn:args.length<=n) (hr:RepL (Imm H w) w args vs) (hst:St G H w) :
  Sim G n w.heap.size ⟨fun i=>args.getD i .unit,H,[]⟩ { tmps:=vs.toArray++Array.replicate (n-vs.toArray.size) undef,defers:=[] } w:=by
 have hlen:=hr.length
 refine ⟨by simp;omega,fun t=>?_,hst,.nil,Nat.le_refl _⟩
 by_cases ht:t<args.length
 ·obtain ⟨v,e1,e2⟩:=hr.get t _ (List.getElem?_eq_getElem ht)
  have:(vs.toArray++Array.replicate (n-vs.toArray.size) undef).getD t undef=v:=by
   rw[Array.getD_eq_getD_getElem?,Array.getElem?_append_left (by simp;omega)]
   simp[e1]
  simp only[this,List.getD_eq_getElem?_getD,List.getElem?_eq_getElem ht,Option.getD_some]
  exact e2
 ·have:(vs.toArray++Array.replicate (n-vs.toArray.size) undef).getD t undef=undef:=by
   rw[Array.getD_eq_getD_getElem?,Array.getElem?_append_right (by simp;omega)]
   rw[Array.getElem?_replicate];split<;>rfl
  simp only[this,List.getD_eq_getElem?_getD,List.getElem?_eq_none (Nat.le_of_not_lt ht),Option.getD_none]
  exact Y12 _ _
theorem Sim.putS {G:GT} {n B:Nat} {s:AS} {a:Act} {w:World} {av:AV} {v:Value} {i:Nat} (h:Sim G n B s a w) (hv:Rep (Imm s.H w) w av v) (hi:i<n):Sim G n B (s.put (some i) av s.H) (a.put (some i) v) w:=
 h.put (Evo.refl _ _) h.st hv fun j hj=>by cases hj;exact hi
theorem Sim.at {G:GT} {n B:Nat} {s:AS} {a:Act} {w:World} (h:Sim G n B s a w) {i:Nat} (hi:i<n) {v:Value}:(a.put (some i) v).eval (.tmp i)=v:=by
 have:i<a.tmps.size:=by rw[h.size];exact hi
 simp only[Act.eval,Act.put,Array.getD_eq_getD_getElem?,Array.getElem?_setIfInBounds_self_of_lt this,Option.getD_some]
theorem eval_put_ne (a:Act) (v:Value) {i j:Nat} (h:i≠j):(a.put (some i) v).eval (.tmp j)=a.eval (.tmp j):=by
 simp only[Act.eval,Act.put,Array.getD_eq_getD_getElem?,Array.getElem?_setIfInBounds_ne h]
theorem caught_rec {G:GT} {H:HM} {b6 b7:Nat} {c:Int} {x:AV} {cs6:List AV} {K:HM->Prop} (h7:H b7=some (.cells 28 [x])) (h6:H b6=some (.cells 27 cs6)) (hl:cs6.length=7) (hne:b6≠b7) (hk:K ((H.upd b7 (.cells 28 [.int c])).upd b6 (.cells 27 zc))) :
  RecV prog G 67 (.iface 127 (.agg [.int c])) [.addr b7 0,.func (.func 68) [] [.addr b6 0]] H K:=by
 refine ⟨by kernel_rfl,fun w vs v hargs hv hst=>?_⟩
 cases hv with
 |iface hu=>
 rename_i u
 have hs0:=Sim.entry (n:=f67.ntmps) (args:=[.addr b7 0,.func (.func 68) [] [.addr b6 0]]) (show 2<=f67.ntmps by decide) hargs hst
 refine callsDIn_of_wpSIn (fn:=f67) (by kernel_rfl) rfl trivial fun c₀ cs hc=>?_
 have hrec:recoverD (c₀::cs)=some (.iface 127 u,{ c₀ with mode:=.panicking [{ v:=.iface 127 u,recovered:=true }] }::cs):=by simp[recoverD,hc]
 refine wpSIn_seq ?_
 refine wpSIn_region ?_
 show wpOpsSIn wide 0 prog _ _ [0] _ _ _
 refine ⟨fun _ _=>trivial,?_⟩
 rw[if_pos (by rfl)]
 show (match recoverD (c₀::cs) with
  |some (v,cs')=>wpOpsSIn wide 0 prog _ _ [] _ cs' w
  |none=>wpOpsSIn wide 0 prog _ _ [] _ (c₀::cs) w)
 rw[hrec]
 show Exit.thenS _ _ .normal _ _ _
 show Code.wpSIn wide 0 prog _ _ _ _ _
 refine wpSIn_of_wpIn rfl ?_
 show Code.wpIn wide 0 prog _ _ (({ tmps:=vs.toArray++Array.replicate (f67.ntmps-vs.toArray.size) undef,defers:=[] }:Act).put (some 7) (.iface 127 u)) w
 have hs1:=hs0.putS (i:=7) (av:=.iface 127 (.agg [.int c])) (v:=.iface 127 u) (.iface hu) (by decide)
 have h7v:=hs0.at (i:=7) (by decide) (v:=.iface 127 u)
 generalize ({ tmps:=vs.toArray++Array.replicate (f67.ntmps-vs.toArray.size) undef,defers:=[] }:Act).put (some 7) (.iface 127 u)=a1 at *
 refine wpIn_block (wpIn_seq (wpIn_region ?_))
 show wpOpsIn wide 0 prog _ _ [0] _ _
 rw[wpOpsIn_cons]
 refine ⟨fun _ _=>trivial,?_⟩
 have hrun:(execOp a1.eval ⟨some 9,.binOp .eql 20 (.tmp 7) (.const .nilIface) 20,4, "scope.go:27",#[],none⟩).run prog w=.ok (.value (.bool false)) w:=by
  have hc2:a1.eval (.const .nilIface)=.nilIface:=rfl
  simp only[execOp,h7v,hc2]
  rfl
 show Oper.uponIn wide 0 prog _ a1 _ _ ((execOp a1.eval ⟨some 9,.binOp .eql 20 (.tmp 7) (.const .nilIface) 20,4, "scope.go:27",#[],none⟩).run prog w)
 rw[hrun,Oper.uponIn_value]
 show wpOpsIn wide 0 prog _ _ [] (a1.put (some 9) (.bool false)) w
 have hs2:=hs1.putS (i:=9) (av:=.bool false) (v:=.bool false) (.val _ trivial) (by decide)
 have h9v:=hs1.at (i:=9) (by decide) (v:=.bool false)
 have h7v2:(a1.put (some 9) (.bool false)).eval (.tmp 7)=.iface 127 u:=by
  rw[eval_put_ne _ _ (by decide)];exact h7v
 generalize a1.put (some 9) (.bool false)=a2 at *
 show Code.wpIn wide 0 prog (Code.cond _ _ _) _ a2 w
 refine wpIn_cond (t:=false) h9v ?_
 rw[if_neg (by decide)]
 refine wpIn_seq (wpIn_region ?_)
 show wpOpsIn wide 0 prog _ _ [0,1,2] _ _
 rw[wpOpsIn_cons]
 refine ⟨fun _ _=>trivial,?_⟩
 have hrun2:(execOp a2.eval ⟨some 10,.typeAssert (.tmp 7) 20 127 true,0, "scope.go:27",#[],none⟩).run prog w=.ok (.value (.tuple #[u,.bool true])) w:=by
  simp only[execOp,h7v2]
  rfl
 show Oper.uponIn wide 0 prog _ a2 _ _ ((execOp a2.eval ⟨some 10,.typeAssert (.tmp 7) 20 127 true,0, "scope.go:27",#[],none⟩).run prog w)
 rw[hrun2,Oper.uponIn_value]
 show wpOpsIn wide 0 prog _ _ [1,2] (a2.put (some 10) (.tuple #[u,.bool true])) w
 have hs3:=hs2.putS (i:=10) (av:=.tup [.agg [.int c],.bool true]) (v:=.tuple #[u,.bool true]) (.tup (vs:=[u,.bool true]) (.cons hu (.cons (.val _ trivial) .nil))) (by decide)
 have h10:=hs2.at (i:=10) (by decide) (v:=.tuple #[u,.bool true])
 generalize a2.put (some 10) (.tuple #[u,.bool true])=a3 at *
 rw[wpOpsIn_cons]
 refine ⟨fun _ _=>trivial,?_⟩
 have hrun3:(execOp a3.eval ⟨some 11,.extract (.tmp 10) 1,4, "scope.go:27",#[⟨0,.data⟩],none⟩).run prog w=.ok (.value (.bool true)) w:=by
  simp only[execOp,h10]
  rfl
 show Oper.uponIn wide 0 prog _ a3 _ _ ((execOp a3.eval ⟨some 11,.extract (.tmp 10) 1,4, "scope.go:27",#[⟨0,.data⟩],none⟩).run prog w)
 rw[hrun3,Oper.uponIn_value]
 show wpOpsIn wide 0 prog _ _ [2] (a3.put (some 11) (.bool true)) w
 have hs4:=hs3.putS (i:=11) (av:=.bool true) (v:=.bool true) (.val _ trivial) (by decide)
 have h11:=hs3.at (i:=11) (by decide) (v:=.bool true)
 have h10':(a3.put (some 11) (.bool true)).eval (.tmp 10)=.tuple #[u,.bool true]:=by rw[eval_put_ne _ _ (by decide)];exact h10
 generalize a3.put (some 11) (.bool true)=a4 at *
 rw[wpOpsIn_cons]
 refine ⟨fun _ _=>trivial,?_⟩
 have hrun4:(execOp a4.eval ⟨some 12,.extract (.tmp 10) 0,127, "scope.go:27",#[⟨0,.data⟩],none⟩).run prog w=.ok (.value u) w:=by
  simp only[execOp,h10']
  rfl
 show Oper.uponIn wide 0 prog _ a4 _ _ ((execOp a4.eval ⟨some 12,.extract (.tmp 10) 0,127, "scope.go:27",#[⟨0,.data⟩],none⟩).run prog w)
 rw[hrun4,Oper.uponIn_value]
 show wpOpsIn wide 0 prog _ _ [] (a4.put (some 12) u) w
 have hs5:=hs4.putS (i:=12) (av:=.agg [.int c]) (v:=u) hu (by decide)
 have h11':(a4.put (some 12) u).eval (.tmp 11)=.bool true:=by rw[eval_put_ne _ _ (by decide)];exact h11
 generalize a4.put (some 12) u=a5 at *
 show Code.wpIn wide 0 prog (Code.cond _ _ _) _ a5 w
 refine wpIn_cond (t:=true) h11' ?_
 rw[if_pos rfl]
 refine wpIn_mono ((show VW prog G f67.ntmps none _ (fun X s=>X=.normal/\s.defs=[]/\K s.H) ⟨_,H,[]⟩ from ?_) (by kernel_rfl) _ _ _ hs5) ?_
 ·refine V12 fun tm htm=>?_
  have t0:tm 0=.addr b7 0:=by rw[htm];rfl
  have t1:tm 1=.func (.func 68) [] [.addr b6 0]:=by rw[htm];rfl
  have t12:tm 12=.agg [.int c]:=by rw[htm];rfl
  clear htm
  refine A10 [] fun N E hN hE=>?_
  simp +decide only[ZS,↓reduceIte]
  refine F10 fun b hb=>?_
  have hbs:∀ cs,(H.upd b (.cells 127 cs)) b=some (.cells 127 cs):=fun cs=>HM.upd_same _ _ _
  simp +decide only[ZS,↓reduceIte,hbs,t12]
  refine hN _ ?_
  clear hN hE N E
  try simp only[HM.upd_upd]
  refine V11 (i:=5) hb rfl ?_
  refine A10 [] fun N E hN hE=>?_
  simp +decide only[ZS,↓reduceIte,t0,h7]
  refine hN _ ?_
  clear hN hE N E
  refine R10 [] fun N E hN hE=>?_
  simp +decide only[ZS,↓reduceIte,t1]
  refine CallF.callV (by kernel_rfl) (subst1_c (cs:=cs6) (by rw[HM.upd_ne _ _ hne];exact h6) hl ?_)
  rw[M10]
  simp +decide only[ZS,↓reduceIte]
  exact hN _ ⟨rfl,rfl,hk⟩
 ·rintro e a' w' ⟨x,s',⟨rfl,hd,hK⟩,hx,hs',he⟩
  cases e<;>first|exact hx.elim|skip
  have hdf:a'.defers=[]:=by
   have:=hs'.defs
   rw[hd] at this
   generalize a'.defers=dd at this
   cases this;rfl
  have hres:(results f67 a'.tmps).run prog w'=.ok (.tuple #[]) w':=by
   rw[results_eq,show f67.results = #[] from rfl]
   simp[Sem.run_bind,Sem.run_pure,Result.andThen]
  refine ⟨hdf,_,rfl,_,hres,⟨_,rfl⟩,?_,s'.H,hK,hs'.st,he⟩
  simp[settle]
section
variable {H:HM}
theorem zero_view {H1:HM} {b6 b7:Nat} (hd:Drop H1 H) (c:Int):View G0 H1 H (.tup [.agg zc,.int c]) (.tup [zeroEx.av,.int c]):=by
 have n0:View G0 H1 H .nil0 (.list []):=View.nil0 hd
 have v0:∀ x,View G0 H1 H x x:=fun x=>View.of_drop hd x
 refine View.tup (.cons ?_ (.cons (v0 _) .nil))
 have hres:zeroEx.av=.agg [.int 0,.int 0,.str emp,.str emp,.list [],.list [],.list []]:=(ex_fold 0 0 emp emp [] [] []).symm
 rw[hres]
 exact View.agg (.cons (v0 _) (.cons (v0 _) (.cons (v0 _) (.cons (v0 _) (.cons n0 (.cons n0 (.cons n0 .nil)))))))
theorem sSubst_c (e:Ex) (hie:Inp e) (x:ByteArray) (hx:x.size<=bnd) (v:Ex) (hiv:Inp v):PureF prog G0 28 [e.av,.str x,v.av] H (.tup [(sSub e x v).1.av,.int (sSub e x v).2]):=by
 have hlim:bnd<=lim:=by decide
 refine ⟨by kernel_rfl,fun K hk=>CallF_bodyX (fn:=f28) func28 rfl (by kernel_rfl) (Nat.le_of_ble_eq_true (by kernel_rfl)) ?_⟩
 refine A10 [] fun N E hN hE=>?_
 simp +decide only[ZS,↓reduceIte]
 refine F10 fun b6 hb6=>?_
 simp +decide only[ZS,↓reduceIte]
 refine F10 fun b7 hb70=>?_
 obtain ⟨h76,hb7⟩:=G11 hb70
 simp +decide only[ZS,↓reduceIte]
 refine hN _ ?_
 clear hN hE N E
 have h67:b6≠b7:=h76.symm
 have k7:∀ cs cs',((H.upd b6 (.cells 27 cs)).upd b7 (.cells 28 cs')) b7=some (.cells 28 cs'):=fun cs cs'=>HM.upd_same _ _ _
 have k6:∀ cs cs',((H.upd b6 (.cells 27 cs)).upd b7 (.cells 28 cs')) b6=some (.cells 27 cs):=fun cs cs'=>by rw[HM.upd_ne _ _ h67,HM.upd_same]
 refine I10 (VW_regionD ?_)
 refine VOpsD_two (fun c=>by simp) ?_
 simp +decide only[ZS,↓reduceIte]
 refine ⟨rfl,rfl,⟨67,[],[],rfl⟩,?_⟩
 simp only[AX.then]
 have fin:∀ (tm:Nat->AV) (cs:List AV) (c:Int),cs.length=7->tm 6=.addr b6 0->tm 7=.addr b7 0->K (.ret (.tup [zeroEx.av,.int c])) H ->
   FinX prog G0 f28 K (.pan (.iface 127 (.agg [.int c]))) ⟨tm,(H.upd b6 (.cells 27 cs)).upd b7 (.cells 28 [.int 0]),[.call (.func (.func 67) [] []) [.addr b7 0,.func (.func 68) [] [.addr b6 0]]]⟩:=fun tm cs c hl h6 h7 hv=>by
  refine ⟨_,_,rfl,caught_rec (k7 _ _) (k6 _ _) hl h67 ?_⟩
  have hdr:Drop ((((H.upd b6 (.cells 27 cs)).upd b7 (.cells 28 [.int 0])).upd b7 (.cells 28 [.int c])).upd b6 (.cells 27 zc)) H:=fun k=>by
   by_cases q6:k=b6
   ·rw[q6];exact .inl hb6
   by_cases q7:k=b7
   ·rw[q7];exact .inl hb7
   rw[HM.upd_ne _ _ q6,HM.upd_ne _ _ q7,HM.upd_ne _ _ q7,HM.upd_ne _ _ q6];exact .inr rfl
  exact ⟨_,.tup [zeroEx.av,.int c],H,vresults_aggC (a:=6) (t:=27) (a':=7) (t':=28) (cs:=zc) rfl ti27 rfl rfl h6 (HM.upd_same _ _ _) ti28 rfl h7 (by rw[HM.upd_ne _ _ h76,HM.upd_same]),hdr,zero_view (b6:=b6) (b7:=b7) hdr c,hv⟩
 refine V12 fun tm htm=>?_
 have t1:tm 1=.str x:=by rw[htm];rfl
 have t3:tm 3=.ref e.av.cells:=by rw[htm,C10];rfl
 have t5:tm 5=.ref v.av.cells:=by rw[htm,C10];rfl
 have t6:tm 6=.addr b6 0:=by rw[htm];rfl
 have t7:tm 7=.addr b7 0:=by rw[htm];rfl
 clear htm
 rw[C10] at t3 t5
 show VW prog G0 f28.ntmps none _ _ ⟨_,(H.upd b6 (.cells 27 zc)).upd b7 (.cells 28 [.int 0]),[.call (.func (.func 67) [] []) [.addr b7 0,.func (.func 68) [] [.addr b6 0]]]⟩
 unfold sSub at hk
 refine A10 [] fun N E hN hE=>?_
 simp +decide only[ZS,↓reduceIte,t3]
 refine D10 (pCheck_c tabs2_0 e hie.1) ?_
 simp +decide only[ZS,↓reduceIte]
 refine W10 (by kernel_rfl) (must_c (check e) (fun c1=>?_) (fun c1=>hE _ _ ?_))
 rotate_left 1
 ·try simp only[AX.then]
  rw[if_pos c1] at hk
  exact fin _ zc _ rfl t6 t7 hk
 rw[M10,if_neg (fun q=>q c1)] at *
 simp +decide only[ZS,↓reduceIte]
 refine hN _ ?_
 clear hN hE N E
 have hoe:=hie.okk c1
 refine I10 (A10 [] fun N E hN hE=>?_)
 simp +decide only[ZS,↓reduceIte,t1]
 refine D10 (pIsVar_c tabs0 x (Nat.le_trans hx hlim)) ?_
 simp +decide only[ZS,↓reduceIte]
 refine hN _ ?_
 clear hN hE N E
 refine T10 rfl (fun hc=>?_) (fun hc=>?_)
 ·have c2:isVar x=false:=by simpa using hc
  rw[if_pos c2] at hk
  refine R10 [] fun N E hN hE=>?_
  simp +decide only[ZS,↓reduceIte]
  refine W10 (by kernel_rfl) (must_c 4 (fun q=>absurd q (by decide)) (fun _=>hE _ _ ?_))
  try simp only[AX.then]
  exact fin _ zc _ rfl t6 t7 hk
 have c2:isVar x=true:=by simpa using hc
 rw[if_neg (by rw[c2];decide)] at hk
 refine G10 ?_
 refine A10 [] fun N E hN hE=>?_
 simp +decide only[ZS,↓reduceIte,t5]
 refine D10 (pCheck_c tabs2_0 v hiv.1) ?_
 simp +decide only[ZS,↓reduceIte]
 refine W10 (by kernel_rfl) (must_c (check v) (fun c3=>?_) (fun c3=>hE _ _ ?_))
 rotate_left 1
 ·try simp only[AX.then]
  rw[if_pos c3] at hk
  exact fin _ zc _ rfl t6 t7 hk
 rw[M10,if_neg (fun q=>q c3)] at *
 simp +decide only[ZS,↓reduceIte]
 refine hN _ ?_
 clear hN hE N E
 have hov:=hiv.okk c3
 refine A10 [] fun N E hN hE=>?_
 simp +decide only[ZS,↓reduceIte,t3,t1]
 refine D10 (uses_c e hoe x) ?_
 simp +decide only[ZS,↓reduceIte]
 refine hN _ ?_
 clear hN hE N E
 refine V12 fun tn htn=>?_
 have u1:tn 1=.str x:=by rw[htn];exact t1
 have u3:tn 3=.ref [.int e.k,.int e.n,.str e.s,.str e.t,.list (strs e.names),.list (exs e.l),.list (ars e.arms)]:=by rw[htn];exact t3
 have u5:tn 5=.ref [.int v.k,.int v.n,.str v.s,.str v.t,.list (strs v.names),.list (exs v.l),.list (ars v.arms)]:=by rw[htn];exact t5
 have u6:tn 6=.addr b6 0:=by rw[htn];exact t6
 have u7:tn 7=.addr b7 0:=by rw[htn];exact t7
 have u8:tn 8=.int (usesK x e).1:=by rw[htn];rfl
 have u9:tn 9=.bool (usesK x e).2:=by rw[htn];rfl
 clear htn t1 t3 t5 t6 t7
 have huk:=uses_k c1 x
 have hse:=sizeS_eq (x:=x) c1 c3
 have hcn:cntD x (db e [])<=3000:=by
  have h1:=cnt_nodes x (db e [])
  rw[nodes_db] at h1
  have:=(A13 c1).1
  omega
 have hne:=A13 c1
 have hnv:=A13 c3
 refine VW_seqC (fun s'=>¬ ((usesK x e).2=true/\v.k≠0)/\s'.tmps 1=.str x/\s'.tmps 3=tn 3/\s'.tmps 5=tn 5/\s'.tmps 6=.addr b6 0/\s'.tmps 7=.addr b7 0/\s'.tmps 8=.int (usesK x e).1/\s'.H=(H.upd b6 (.cells 27 zc)).upd b7 (.cells 28 [.int 0])/\s'.defs=[.call (.func (.func 67) [] []) [.addr b7 0,.func (.func 68) [] [.addr b6 0]]]) ?_ ?_
 ·generalize hu2:(usesK x e).2=q2 at *
  cases q2
  ·refine A10 [] fun N E hN hE=>?_
   simp +decide only[ZS,↓reduceIte,u9,u5]
   refine hN _ ?_
   clear hN hE N E
   refine T10 rfl (fun hc=>?_) (fun hc=>?_)
   ·cases hc
   exact G10 ⟨fun q=>(by cases q.1),u1,rfl,rfl,u6,u7,u8,rfl,rfl⟩
  ·refine A10 [] fun N E hN hE=>?_
   simp +decide only[ZS,↓reduceIte,u9,u5]
   refine hN _ ?_
   clear hN hE N E
   refine T10 rfl (fun hc=>?_) (fun hc=>?_)
   ·have hv0:v.k≠0:=by simpa using hc
    refine R10 [] fun N E hN hE=>?_
    simp +decide only[ZS,↓reduceIte]
    refine W10 (by kernel_rfl) (must_c 1 (fun q=>absurd q (by decide)) (fun _=>hE _ _ ?_))
    rw[if_pos ⟨rfl,hv0⟩] at hk
    try simp only[AX.then]
    exact fin _ zc _ rfl u6 u7 hk
   ·have hv0:v.k=0:=by simpa using hc
    exact G10 ⟨fun q=>q.2 hv0,u1,rfl,rfl,u6,u7,u8,rfl,rfl⟩
 rintro ⟨tp,Hc,ds⟩ ⟨c4,p1,p3,p5,p6,p7,p8,hHc,hds⟩
 obtain rfl:Hc=_:=hHc
 obtain rfl:ds=_:=hds
 simp only at p1 p3 p5 p6 p7 p8
 rw[u3] at p3
 rw[u5] at p5
 clear u1 u3 u5 u6 u7 u8 u9
 rw[if_neg c4] at hk
 have hsp:v.k=0\/spB x (db e [])=false:=by
  rw[huk] at c4
  by_cases q:v.k=0
  ·exact .inl q
  ·right
   cases w:spB x (db e []) with
   |false=>rfl
   |true=>exact absurd ⟨w,q⟩ c4
 rw[huk] at p8
 have hw1:IntKind.i64.wrap (size v-1)=size v-1:=wrap64 (by omega) (by omega)
 have hbd : -9000000<=((cntD x (db e []):Nat):Int)*(size v-1)/\((cntD x (db e []):Nat):Int)*(size v-1)<=9000000:=by
  have h1:0<=((cntD x (db e []):Nat):Int):=by omega
  have h2:((cntD x (db e []):Nat):Int)<=3000:=by omega
  have h3 : -1<=size v-1:=by omega
  have h4:size v-1<=3000:=by omega
  have h5:((cntD x (db e []):Nat):Int)*(size v-1)<=((cntD x (db e []):Nat):Int)*3000:=Int.mul_le_mul_of_nonneg_left h4 h1
  have h6:((cntD x (db e []):Nat):Int)*(-1)<=((cntD x (db e []):Nat):Int)*(size v-1):=Int.mul_le_mul_of_nonneg_left h3 h1
  omega
 have hss:sizeS x v e=size e+((cntD x (db e []):Nat):Int)*(size v-1):=by unfold sizeS;rw[huk]
 have hw2:IntKind.i64.wrap (((cntD x (db e []):Nat):Int)*(size v-1))=((cntD x (db e []):Nat):Int)*(size v-1):=wrap64 (by omega) (by omega)
 have hw3:IntKind.i64.wrap (size e+((cntD x (db e []):Nat):Int)*(size v-1))=sizeS x v e:=by rw[hss];exact wrap64 (by omega) (by omega)
 refine I10 (V13 [] 9 (by kernel_rfl) (by kernel_rfl) (by kernel_rfl) fun N E hN hE=>?_)
 simp only[List.take,List.drop]
 simp +decide only[ZS,QS,↓reduceIte,p3,p5,p8,hw1,hw2,hw3]
 refine F11 (pSize_c tabs2_0 e hie.1) ?_
 simp +decide only[ZS,QS,↓reduceIte,p3,p5,p8,hw1,hw2,hw3]
 refine F11 (pSize_c tabs2_0 v hiv.1) ?_
 simp +decide only[ZS,QS,↓reduceIte,p3,p5,p8,hw1,hw2,hw3]
 refine hN _ ?_
 clear hN hE N E
 refine T10 rfl (fun hc=>?_) (fun hc=>?_)
 ·have c5:3000<sizeS x v e:=of_decide_eq_true hc
  rw[if_pos c5] at hk
  refine R10 [] fun N E hN hE=>?_
  simp +decide only[ZS,↓reduceIte]
  refine W10 (by kernel_rfl) (must_c 3 (fun q=>absurd q (by decide)) (fun _=>hE _ _ ?_))
  try simp only[AX.then]
  exact fin _ zc _ rfl p6 p7 hk
 have c5:¬ 3000<sizeS x v e:=of_decide_eq_false hc
 rw[if_neg c5] at hk
 refine G10 ?_
 refine V13 [] 10 (by kernel_rfl) (by kernel_rfl) (by kernel_rfl) fun N E hN hE=>?_
 simp only[List.take,List.drop]
 simp +decide only[ZS,QS,↓reduceIte,p1,p5]
 refine F11 (free_c v hov false) ?_
 simp +decide only[ZS,QS,↓reduceIte,p1,p5]
 refine F11 (free_c v hov true) ?_
 simp +decide only[ZS,QS,↓reduceIte,p1,p5]
 refine F11 (all_c v hov) ?_
 simp +decide only[ZS,QS,↓reduceIte,p1,p5]
 refine hN _ ?_
 clear hN hE N E
 have hgood:=subOut_good hoe hov c2 hsp
 refine A10 [] fun N E hN hE=>?_
 simp +decide only[ZS,↓reduceIte,p3]
 refine D10 (duplicate_c e hoe _) ?_
 simp +decide only[ZS,↓reduceIte,p3]
 refine D10 (subIn_c tabs0 (mkS x v) (mkS_ok c2 hov) e.nodes e [] _ (Nat.le_refl _) hoe (by simp[env]) hsp) ?_
 have hso:substN (mkS x v) e.nodes e=subOut x v e:=rfl
 rw[hso]
 obtain ⟨o,hoo⟩:∃ o,o=subOut x v e:=⟨_,rfl⟩
 rw[<-hoo] at hgood hk ⊢
 simp +decide only[ZS,↓reduceIte,p6,k6]
 refine hN _ ?_
 clear hN hE N E
 have hcm:(((H.upd b6 (.cells 27 zc)).upd b7 (.cells 28 [.int 0])).upd b6 (.cells 27 o.av.cells))=(H.upd b6 (.cells 27 o.av.cells)).upd b7 (.cells 28 [.int 0]):=by
  rw[HM.upd_comm _ _ _ h67.symm,HM.upd_upd]
 rw[C10] at hcm
 show VW prog G0 f28.ntmps none _ _ ⟨_,(((H.upd b6 (.cells 27 zc)).upd b7 (.cells 28 [.int 0])).upd b6 (.cells 27 [.int o.k,.int o.n,.str o.s,.str o.t,.list (strs o.names),.list (exs o.l),.list (ars o.arms)])),_⟩
 rw[hcm]
 clear hcm
 refine I10 (A10 [] fun N E hN hE=>?_)
 simp +decide only[ZS,↓reduceIte,p6,k6]
 refine D10 (pCheck_c tabs2_0 o hgood.2.2.1) ?_
 simp +decide only[ZS,↓reduceIte]
 refine hN _ ?_
 clear hN hE N E
 refine T10 rfl (fun hc=>?_) (fun hc=>?_)
 ·have c6:check o=3:=of_decide_eq_true hc
  rw[if_pos c6] at hk
  refine R10 [] fun N E hN hE=>?_
  simp +decide only[ZS,↓reduceIte]
  refine W10 (by kernel_rfl) (must_c 3 (fun q=>absurd q (by decide)) (fun _=>hE _ _ ?_))
  try simp only[AX.then]
  exact fin _ _ _ rfl p6 p7 hk
 have c6:¬ check o=3:=of_decide_eq_false hc
 rw[if_neg c6] at hk
 refine G10 ?_
 have k66:∀ (X:HM) cs,(X.upd b6 (.cells 27 cs)) b6=some (.cells 27 cs):=fun X cs=>HM.upd_same _ _ _
 have k77:∀ (X:HM) cs cs',((X.upd b7 (.cells 28 cs)).upd b6 cs') b7=some (.cells 28 cs):=fun X cs cs'=>by rw[HM.upd_ne _ _ h76,HM.upd_same]
 refine A10 [] fun N E hN hE=>?_
 simp +decide only[ZS,↓reduceIte,p6,p7,k6,k66,k77]
 refine hN _ ?_
 clear hN hE N E
 have hav:o.av=.agg [.int o.k,.int o.n,.str o.s,.str o.t,.list (strs o.names),.list (exs o.l),.list (ars o.arms)]:=by
  have:=ex_fold o.k o.n o.s o.t o.names o.l o.arms
  rw[ex_eta] at this;exact this.symm
 rw[hav] at hk
 refine L10 ⟨fun d hd=>?_,_,_,H,vresults_aggC (a:=6) (t:=27) (a':=7) (t':=28) (et:=27) (cs:=[.int o.k,.int o.n,.str o.s,.str o.t,.list (strs o.names),.list (exs o.l),.list (ars o.arms)]) rfl ti27 rfl rfl p6 ((HM.upd_ne _ _ h67).trans (HM.upd_same _ _ _)) ti28 rfl p7 (HM.upd_same _ _ _),?_,View.of_drop ?_ _,hk⟩
 ·simp only[List.mem_singleton] at hd
  subst hd
  exact ⟨_,_,_,rfl,dq_caught⟩
 all_goals
  intro k
  by_cases q6:k=b6
  ·rw[q6];exact .inl hb6
  by_cases q7:k=b7
  ·rw[q7];exact .inl hb7
  right
  simp only[HM.upd,q6,q7,if_false]
end
end Go.V
