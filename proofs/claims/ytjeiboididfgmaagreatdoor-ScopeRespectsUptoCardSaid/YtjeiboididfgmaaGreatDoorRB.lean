/- Functions over abstract states: a call's contract out of its body; views of values; ranges over functions. No condition. Walking by rewriting: operations as equations over first-order states. No condition. Walking by rewriting: regions that draw their order; control. No condition. Values by rewriting. No condition. Ranges over functions. No condition. -/
import Derived.Test.YtjeiboididfgmaaGreatDoorRA
import Derived.RangeFuncIn
set_option linter.unusedVariables false
set_option linter.unusedSimpArgs false
namespace Go.V
open Go
def View (G:GT) (H H1:HM) (v v':AV):Prop:=∀ w u,St G H w->Rep (Imm H w) w v u->Rep (Imm H1 w) w v' u
def Drop (H H1:HM):Prop:=∀ b,H1 b=none\/H1 b=H b
theorem Drop.refl (H:HM):Drop H H:=fun _=>.inr rfl
theorem Drop.imm {H H1:HM} (h:Drop H H1) {w:World}:∀ b,Imm H w b->Imm H1 w b:=fun b hb=>⟨hb.1,by rcases h b with e|e<;>simp[e,hb.2]⟩
section
variable {P:Program} {G:GT} {n:Nat} {r:Option Nat} {Q Q':AX->AS->Prop} {s:AS} {H H1:HM}
theorem View.of_drop (h:Drop H H1) (v:AV):View G H H1 v v:=fun w u _ hr=>hr.keep h.imm fun _ _=>rfl
theorem View.refl (v:AV):View G H H v v:=View.of_drop (Drop.refl H) v
theorem View.nil0 (h:Drop H H1):View G H H1 .nil0 (.list []):=fun w u _ hr=>by cases hr;exact .nil _ _
theorem View.row {b n cap t sz:Nat} {xs:List AV} (h:Drop H H1) (hb:H b=some (.row t sz cap xs)) (hb1:H1 b=none) (hn:n=xs.length) (hl:xs.length<=lim) :
  View G H H1 (.mlist b n cap) (.list xs):=fun w u hst hr=>by
 cases hr
 subst hn
 obtain ⟨vs,rest,e1,e2,e3,e4,e5,e6⟩:=hst.obj _ _ hb
 have hlt:=(Array.getElem?_eq_some_iff.1 e1).1
 refine .list (ad:=⟨b,0,none⟩) (fun _=>⟨hlt,hb1⟩) rfl e3 (fun i v hi=>?_) e4 e6 hl (e2.keep h.imm fun _ _=>rfl)
 rw[D11,G12 e1]
 have hi':=(List.getElem?_eq_some_iff.1 hi).1
 rw[List.getElem?_toArray,List.getElem?_append_left (by omega)]
 simpa using hi
theorem View.cells {b off t:Nat} {cs:List AV} (h:Drop H H1) (hb:H b=some (.cells t cs)) (hb1:H1 b=none):View G H H1 (.addr b off) (.ref (cs.drop off)):=fun w u hst hr=>by
 cases hr
 obtain ⟨vs,e1,e2,e3⟩:=hst.obj _ _ hb
 have hlt:=(Array.getElem?_eq_some_iff.1 e1).1
 refine .ref (ad:=⟨b,off,none⟩) (vs:=vs.drop off) (fun _=>⟨hlt,hb1⟩) rfl (fun i v hi=>?_) (fun v hv=>e3 v (List.mem_of_mem_drop hv)) ((e2.drop off).keep h.imm fun _ _=>rfl)
 rw[D11,G12 e1]
 rw[List.getElem?_drop] at hi
 simpa using hi
theorem View.map {b:Nat} {es:List (AV×AV)} (h:Drop H H1) (hb:H b=some (.map es)) (hb1:H1 b=none):View G H H1 (.map b) (.imap es):=fun w u hst hr=>by
 cases hr
 obtain ⟨ents,c,e1,e2,e3,e4⟩:=hst.obj _ _ hb
 have hlt:=(Array.getElem?_eq_some_iff.1 e1).1
 exact .imap ⟨hlt,hb1⟩ e1 e4 (e2.keep h.imm fun _ _=>rfl) (e3.keep h.imm fun _ _=>rfl)
inductive ViewL (G:GT) (H H1:HM):List AV->List AV->Prop
 |nil:ViewL G H H1 [] []
 |cons {a b as bs} (h:View G H H1 a b) (hs:ViewL G H H1 as bs):ViewL G H H1 (a::as) (b::bs)
theorem ViewL.rep {w:World} (hst:St G H w):∀ {as bs:List AV} {vs:List Value},ViewL G H H1 as bs->RepL (Imm H w) w as vs->RepL (Imm H1 w) w bs vs
 |_,_,_,.nil,.nil=>.nil
 |_,_,_,.cons h hs,.cons r rs=>.cons (h _ _ hst r) (hs.rep hst rs)
theorem ViewL.of_drop (h:Drop H H1):∀ (as:List AV),ViewL G H H1 as as
 |[]=>.nil
 |a::as=>.cons (View.of_drop h a) (ViewL.of_drop h as)
theorem View.agg {as bs:List AV} (h:ViewL G H H1 as bs):View G H H1 (.agg as) (.agg bs):=fun w u hst hr=>by
 cases hr with|agg h1 h2=>exact .agg h1 (h.rep hst h2)
theorem View.tup {as bs:List AV} (h:ViewL G H H1 as bs):View G H H1 (.tup as) (.tup bs):=fun w u hst hr=>by
 cases hr with|tup h2=>exact .tup (h.rep hst h2)
theorem View.ref {as bs:List AV} (hd:Drop H H1) (h:ViewL G H H1 as bs):View G H H1 (.ref as) (.ref bs):=fun w u hst hr=>by
 cases hr with|ref h1 h2 h3 h4 h5=>exact .ref (fun hn=>hd.imm _ (h1 hn)) h2 h3 h4 (h.rep hst h5)
theorem ViewL.append:∀ {as bs cs ds:List AV},ViewL G H H1 as bs->ViewL G H H1 cs ds->ViewL G H H1 (as++cs) (bs++ds)
 |_,_,_,_,.nil,h=>h
 |_,_,_,_,.cons h hs,h2=>.cons h (hs.append h2)
theorem View.list {xs ys:List AV} (hd:Drop H H1) (hl:xs.length=ys.length) (hz:∀ sz,(∀ x∈xs,x.cells.length=sz)->∀ y∈ys,y.cells.length=sz) (h:ViewL G H H1 (flat xs) (flat ys)):View G H H1 (.list xs) (.list ys):=fun w u hst hr=>by
 generalize hq:AV.list xs=q at hr
 cases hr with
 |nil a cap=>
  injection hq with hq;subst hq
  have:ys=[]:=List.eq_nil_of_length_eq_zero (by simpa using hl.symm)
  subst this;exact .nil _ _
 |list h1 h2 h3 h4 h5 h6 h7 h8=>
  injection hq with hq;subst hq
  rw[hl]
  exact .list (fun hn=>hd.imm _ (h1 hn)) h2 (hz _ h3) h4 h5 (by omega) (by omega) (h.rep hst h8)
 |_=>cases hq
theorem View.trans {H2:HM} {a b c:AV} (hd:Drop H H1) (h:View G H H1 a b) (h':View G H1 H2 b c):View G H H2 a c:=fun w u hst hr=>h' w u (hst.drop hd) (h w u hst hr)
theorem VW_conv {c:Code} {s':AS} (hH:Drop s.H s'.H) (ht:∀ t,View G s.H s'.H (s.tmps t) (s'.tmps t)) (hd:s'.defs=s.defs) (h:VW P G n r c Q s'):VW P G n r c Q s:=by
 refine VW_view (fun B a w hs=>?_) h
 have he:Evo s.H w s'.H w:=(Evo.refl s.H w).drop hH
 exact ⟨⟨hs.size,fun t=>ht t w _ hs.st (hs.tmp t),hs.st.drop hH,by rw[hd];exact hs.defs.evo he,hs.big⟩,he⟩
theorem VW_see {c:Code} {i:Nat} {v':AV} (hH:Drop s.H H1) (ht:View G s.H H1 (s.tmps i) v') (h:VW P G n r c Q ⟨upd s.tmps i v',H1,s.defs⟩):VW P G n r c Q s:=by
 refine VW_conv (s':=⟨upd s.tmps i v',H1,s.defs⟩) hH (fun t=>?_) rfl h
 show View G s.H H1 (s.tmps t) (upd s.tmps i v' t)
 unfold upd
 split
 ·rename_i e;subst e;exact ht
 ·exact View.of_drop hH _
def vres (P:Program) (H:HM) (f:Nat->AV):ResultVar->Option AV
 |.tmp t=>some (f t)
 |.cell a t=>match tiOf P t,cellsAt H (f a) with
  |some ti,some cs=>ldv ti cs
  |_,_=>none
def vresL (P:Program) (H:HM) (f:Nat->AV):List ResultVar->Option (List AV)
 |[]=>some []
 |x::xs=>match vres P H f x,vresL P H f xs with
  |some v,some vs=>some (v::vs)
  |_,_=>none
def vresults (P:Program) (fn:Func) (H:HM) (f:Nat->AV):Option AV:=
 match vresL P H f fn.results.toList with
 |some []=>some .unit
 |some [v]=>some v
 |some vs=>some (.tup vs)
 |none=>none
theorem asAddr_some (a:Addr):asAddr (.pointer (some a))=pure a:=rfl
def resStep (tmps:Array Value):ResultVar->Sem Value
 |.tmp t=>pure (tmps.getD t undef)
 |.cell a t=>do loadVar t (<- asAddr (tmps.getD a undef))
theorem results_eq (fn:Func) (tmps:Array Value):results fn tmps=(do let vs <- fn.results.mapM (resStep tmps);pure (if h:vs.size=1 then vs[0] else .tuple vs)):=rfl
theorem vresL_run {f:Nat->AV} {tmps:Array Value} {w:World} (hs:∀ t,Rep (Imm H w) w (f t) (tmps.getD t undef)) (hst:St G H w):∀ (l:List ResultVar) (vs:List AV),vresL P H f l=some vs ->
  ∃ us,(l.mapM (resStep tmps)).run P w=.ok us w/\RepL (Imm H w) w vs us
 |[],vs,h=>by cases h;exact ⟨[],rfl,.nil⟩
 |x::l,vs,h=>by
  unfold vresL at h
  split at h
  ·rename_i v vs' h1 h2
   cases h
   obtain ⟨us,e1,e2⟩:=vresL_run hs hst l vs' h2
   rw[List.mapM_cons]
   cases x with
   |tmp t=>
    cases h1
    exact ⟨tmps.getD t undef::us,by simp only[resStep,Sem.run_bind,Sem.run_pure,Result.andThen,e1],.cons (hs t) e2⟩
   |cell b t=>
    simp only[vres] at h1
    split at h1
    ·rename_i ti cs ht hc
     obtain ⟨ad,ws,f1,f2,f3,f4,f5⟩:=cellsAt_reads hc (hs b) hst
     obtain ⟨u,f6,f7⟩:=run_loadVar_ldv (w:=w) ht h1 f3 f4 f5
     exact ⟨u::us,by simp only[resStep,Sem.run_bind,Sem.run_pure,Result.andThen,f1,asAddr_some,f6,e1],.cons f7 e2⟩
    ·cases h1
  ·cases h
theorem vresults_run {f:Nat->AV} {tmps:Array Value} {w:World} {fn:Func} {v:AV} (hs:∀ t,Rep (Imm H w) w (f t) (tmps.getD t undef)) (hst:St G H w) (h:vresults P fn H f=some v):∃ u,(results fn tmps).run P w=.ok u w/\Rep (Imm H w) w v u:=by
 unfold vresults at h
 have key:∀ vs,vresL P H f fn.results.toList=some vs->∃ us:List Value,(results fn tmps).run P w=.ok (if h:us.toArray.size=1 then us.toArray[0] else .tuple us.toArray) w/\RepL (Imm H w) w vs us:=by
  intro vs hv
  obtain ⟨us,e1,e2⟩:=vresL_run hs hst _ _ hv
  refine ⟨us,?_,e2⟩
  obtain ⟨l,hl⟩:∃ l:List ResultVar,fn.results=l.toArray:=⟨fn.results.toList,by simp⟩
  simp only[results_eq,hl,List.mapM_toArray,Sem.run_bind,Sem.run_map]
  rw[hl] at e1
  simp only[List.toList_toArray] at e1
  rw[e1]
  simp only[Result.andThen,Sem.run_pure]
 split at h
 ·rename_i hv
  cases h
  obtain ⟨us,e1,e2⟩:=key _ hv
  cases e2
  exact ⟨_,e1,Y12 _ _⟩
 ·rename_i v' hv
  cases h
  obtain ⟨us,e1,e2⟩:=key _ hv
  cases e2 with
  |cons h1 h2=>
   cases h2
   exact ⟨_,e1,h1⟩
 ·rename_i vs h1 h2 hv
  cases h
  obtain ⟨us,e1,e2⟩:=key _ hv
  have hlen:=e2.length
  have:us.toArray.size≠1:=by
   intro e
   simp only[List.size_toArray] at e
   match vs,hlen with
   |[v],_=>exact h2 v rfl
   |[],h=>simp at h;omega
   |_::_::_,h=>simp at h;omega
  rw[dif_neg this] at e1
  exact ⟨_,e1,.tup e2⟩
 ·cases h
def marksOnly (ds:List ADef):Prop:=∀ d∈ds,∃ b,d=.mark b
theorem shut_rep {w:World} {b:Nat} {x:Option (List Deferred)} (hb:w.heap[b]?=some (.deferred x)) {a:AV} {v:Value} (h:Rep (Imm H w) w a v):Rep (Imm H (w.putObj b (.deferred none))) (w.putObj b (.deferred none)) a v:=by
 refine h.keep2 (fun k hk _=>⟨by simpa using hk.1,hk.2⟩) (fun a v _ hc=>?_) (fun k es c _ hm=>?_)
 ·have:a.block≠b:=by
   intro e
   simp only[World.cell?,e,hb] at hc
   cases hc
  unfold World.cell? at *
  rw[World.putObj_heap_other this];exact hc
 ·have:k≠b:=by rintro rfl;rw[hb] at hm;cases hm
  rw[World.putObj_heap_other this];exact hm
theorem shut_st {w:World} {b:Nat} {x:Option (List Deferred)} (hb:w.heap[b]?=some (.deferred x)) (h:St G H w):St G H (w.putObj b (.deferred none)):=by
 have keepL:∀ {as:List AV} {vs:List Value},RepL (Imm H w) w as vs->RepL (Imm H (w.putObj b (.deferred none))) (w.putObj b (.deferred none)) as vs:=by
  intro as vs hr
  refine hr.keep2 (fun k hk _=>⟨by simpa using hk.1,hk.2⟩) (fun a v _ hc=>?_) (fun k es c _ hm=>?_)
  ·have:a.block≠b:=by
    intro e
    simp only[World.cell?,e,hb] at hc
    cases hc
   unfold World.cell? at *
   rw[World.putObj_heap_other this];exact hc
  ·have:k≠b:=by rintro rfl;rw[hb] at hm;cases hm
   rw[World.putObj_heap_other this];exact hm
 refine ⟨fun k o e=>?_,fun g cs e=>(h.glob g cs e).map (fun hi _=>⟨by simpa using hi.1,hi.2⟩) (fun _ hd=>World.putObj_heap_other (by rintro rfl;simp[isData,hb] at hd)) keepL⟩
 have ho:=h.obj k o e
 have hne:k≠b:=by
  rintro rfl
  cases o<;>simp only[RepO] at ho
  ·obtain ⟨_,h1,_⟩:=ho;rw[hb] at h1;cases h1
  ·obtain ⟨_,_,h1,_⟩:=ho;rw[hb] at h1;cases h1
  ·obtain ⟨_,_,h1,_⟩:=ho;rw[hb] at h1;cases h1
  ·rw[hb] at ho;cases ho.1
  ·rw[hb] at ho;cases ho
  ·obtain ⟨_,_,_,_,h1,_⟩:=ho;rw[hb] at h1;cases h1
 have hk:=World.putObj_heap_other (w:=w) (o:=.deferred none) hne
 cases o<;>simp only[RepO] at ho ⊢ <;> rw[hk]
 ·obtain ⟨vs,h1,h2,h3⟩:=ho;exact ⟨vs,h1,keepL h2,h3⟩
 ·obtain ⟨vs,rest,h1,h2,h3⟩:=ho;exact ⟨vs,rest,h1,keepL h2,h3⟩
 ·obtain ⟨es,c,h1,h2,h3,h4⟩:=ho;exact ⟨es,c,h1,keepL h2,keepL h3,h4⟩
 ·exact ⟨ho.1,fun t=>shut_rep hb (ho.2 t)⟩
 ·exact ho
 ·obtain ⟨m,si,sb,la,h1,h2⟩:=ho
  refine ⟨m,si,sb,la,h1,h2.imp id ?_⟩
  rintro ⟨r,ents,e1,e2,e3,e4,e5,e6,e7,e8⟩
  have hrb:r≠b:=by rintro rfl;rw[hb] at e3;cases e3
  exact ⟨r,ents,e1,⟨by simpa using e2.1,e2.2⟩,(World.putObj_heap_other hrb).trans e3,e4,e5,keepL e6,keepL e7,e8⟩
theorem shut_evo {H0:HM} {w0 w:World} {b:Nat} (hB:w0.heap.size<=b) (he:Evo H0 w0 H w):Evo H0 w0 H (w.putObj b (.deferred none)):=
 ⟨he.os,he.tape,he.output,by simpa using he.size,fun k hk=>⟨(he.block k hk).1,by
  have:k≠b:=by have:=hk.1;omega
  rw[World.putObj_heap_other this];exact (he.block k hk).2⟩⟩
theorem RepDs.shut {B b:Nat} {w:World} (hb:w.heap[b]?=some (.deferred (some []))):∀ {as:List ADef} {ds:List Deferred},marksOnly as->.mark b∉as->RepDs B H w as ds->RepDs B H (w.putObj b (.deferred none)) as ds
 |_,_,_,_,.nil=>.nil
 |a::as,_,hm,hn,.cons h0 h hs=>by
  obtain ⟨b',rfl⟩:=hm a (by simp)
  obtain ⟨e1,e2,e3⟩:=h
  have hne:b'≠b:=by rintro rfl;exact hn (by simp)
  exact .cons h0 ⟨e1,by rw[World.putObj_heap_other hne];exact e2,e3⟩ (hs.shut hb (fun d hd=>hm d (by simp[hd])) fun h=>hn (by simp[h]))
theorem leave_marks {fn:Func} {f:Nat->AV} {tmps:Array Value} {H0:HM} {w0:World} {v:AV} {R:Ending->World->Prop} (hv:vresults P fn H f=some v)
  (hR:∀ u w,Rep (Imm H w) w v u->St G H w->Evo H0 w0 H w->R (.returned u) w):∀ (as:List ADef) (ds:List Deferred) (w:World),marksOnly as->RepDs w0.heap.size H w as ds ->
   (∀ t,Rep (Imm H w) w (f t) (tmps.getD t undef))->St G H w->Evo H0 w0 H w->LeavesInM wide 0 P fn tmps R ds .returning w
 |[],_,w,_,.nil,h1,h2,h3=>by
  obtain ⟨u,e1,e2⟩:=vresults_run h1 h2 hv
  exact ⟨u,e1,hR u w e2 h2 h3⟩
 |a::as,d::ds,w,hm,.cons h0 h hs,h1,h2,h3=>by
  obtain ⟨b,rfl⟩:=hm a (by simp)
  obtain ⟨e1,e2,e3,e4⟩:=h
  refine ⟨by simp,.inl ⟨b,_,by rw[e1],run_takeDeferred e2,?_⟩⟩
  exact leave_marks hv hR as ds _ (fun d hd=>hm d (by simp[hd])) (hs.shut e2 (fun d hd=>hm d (by simp[hd])) (h0 b rfl)) (fun t=>shut_rep e2 (h1 t)) (shut_st e2 h2) (shut_evo e4 h3)
theorem leave_marks_pan {fn:Func} {tmps:Array Value} {H0:HM} {w0:World} {v:AV} {u:Value} {R:Ending->World->Prop}
  (hR:∀ w,Rep (Imm H w) w v u->St G H w->Evo H0 w0 H w->R (.panicked [{ v:=u,recovered:=false }]) w):∀ (as:List ADef) (ds:List Deferred) (w:World),marksOnly as->RepDs w0.heap.size H w as ds ->
   Rep (Imm H w) w v u->St G H w->Evo H0 w0 H w->LeavesInM wide 0 P fn tmps R ds (.panicking [{ v:=u,recovered:=false }]) w
 |[],_,w,_,.nil,h1,h2,h3=>hR w h1 h2 h3
 |a::as,d::ds,w,hm,.cons h0 h hs,h1,h2,h3=>by
  obtain ⟨b,rfl⟩:=hm a (by simp)
  obtain ⟨e1,e2,e3,e4⟩:=h
  refine ⟨by simp,.inl ⟨b,_,by rw[e1],run_takeDeferred e2,?_⟩⟩
  exact leave_marks_pan hR as ds _ (fun d hd=>hm d (by simp[hd])) (hs.shut e2 (fun d hd=>hm d (by simp[hd])) (h0 b rfl)) (shut_rep e2 h1) (shut_st e2 h2) (shut_evo e4 h3)
def FinR (P:Program) (G:GT) (fn:Func) (K:ARes->HM->Prop) (s:AS):Prop:=
 marksOnly s.defs/\∃ v v' H1,vresults P fn s.H s.tmps=some v/\Drop s.H H1/\View G s.H H1 v v'/\K (.ret v') H1
def FinP (G:GT) (K:ARes->HM->Prop) (v:AV) (s:AS):Prop:=
 marksOnly s.defs/\∃ v' H1,Drop s.H H1/\View G s.H H1 v v'/\K (.pan v') H1
def Fin (P:Program) (G:GT) (fn:Func) (K:ARes->HM->Prop):AX->AS->Prop
 |.normal,s | .ret,s=>FinR P G fn K s
 |.pan v,s=>FinP G K v s
 |_,_=>False
theorem CallF_intro {f:FuncId} {fn:Func} {c:Code} {args:List AV} {K:ARes->HM->Prop} (hf:P.funcs[f]?=some fn) (hb:fn.body=some c) (hc:cok fn.ntmps c=true) (hn:args.length<=fn.ntmps)
  (h:VW P G fn.ntmps none c (Fin P G fn K) ⟨fun i=>args.getD i .unit,H,[]⟩):CallF P G f args H K:=by
 intro w vs hr hst
 refine callsIn_of_wp_marks (F:=wide) hf hb trivial ?_ rfl
 have hlen:=hr.length
 have hs:Sim G fn.ntmps w.heap.size ⟨fun i=>args.getD i .unit,H,[]⟩ { tmps:=vs.toArray++Array.replicate (fn.ntmps-vs.toArray.size) undef,defers:=[] } w:=by
  refine ⟨by simp;omega,fun t=>?_,hst,.nil,Nat.le_refl _⟩
  by_cases ht:t<args.length
  ·obtain ⟨v,e1,e2⟩:=hr.get t _ (List.getElem?_eq_getElem ht)
   have:(vs.toArray++Array.replicate (fn.ntmps-vs.toArray.size) undef).getD t undef=v:=by
    rw[Array.getD_eq_getD_getElem?,Array.getElem?_append_left (by simp;omega)]
    simp[e1]
   simp only[this,List.getD_eq_getElem?_getD,List.getElem?_eq_getElem ht,Option.getD_some]
   exact e2
  ·have:(vs.toArray++Array.replicate (fn.ntmps-vs.toArray.size) undef).getD t undef=undef:=by
    rw[Array.getD_eq_getD_getElem?,Array.getElem?_append_right (by simp;omega)]
    rw[Array.getElem?_replicate];split<;>rfl
   simp only[this,List.getD_eq_getElem?_getD,List.getElem?_eq_none (Nat.le_of_not_lt ht),Option.getD_none]
   exact Y12 _ _
 refine wpIn_mono (h hc _ _ w hs) ?_
 rintro e a' w' ⟨x,s',q,hx,hs',he⟩
 have fin:FinR P G fn K s'->LeavesInM wide 0 P fn a'.tmps (fun | .returned v,w''=>Out G H w (fun a=>K (.ret a)) v w'' | .panicked chain,w''=>∃ v,chain=[{ v,recovered:=false }]/\Out G H w (fun a=>K (.pan a)) v w'' | .outgrown,_=>False) a'.defers .returning w':=by
  rintro ⟨hm,v,v',H1,hv,hd,hview,hk⟩
  refine leave_marks hv (fun u w'' r1 r2 r3=>?_) s'.defs a'.defers w' hm hs'.defs hs'.tmp hs'.st he
  exact ⟨v',H1,hk,hview w'' u r2 r1,r2.drop hd,r3.drop hd⟩
 cases x with
 |normal=>cases e<;>first|exact fin q|exact hx.elim
 |ret=>cases e<;>first|exact fin q|exact hx.elim
 |pan v=>
  cases e with
  |panic chain=>
   obtain ⟨u,rfl,hu⟩:=hx
   obtain ⟨hm,v',H1,hd,hview,hk⟩:=q
   refine leave_marks_pan (v:=v) (fun w'' r1 r2 r3=>?_) s'.defs a'.defers w' hm hs'.defs hu hs'.st he
   exact ⟨u,rfl,v',H1,hk,hview w'' u r2 r1,r2.drop hd,r3.drop hd⟩
  |_=>exact hx.elim
 |_=>exact q.elim
end
def ev (G:GT) (tm:Nat->AV):Operand->AV
 |.tmp t=>tm t
 |.const v=>cst v
 |.global g=>match G g with|some cs=>.ref cs|none=>.val (.pointer (some ⟨g,0,none⟩))
 |.func f=>.fn f
def putT (d:Option Nat) (v:AV) (tm:Nat->AV):Nat->AV:=match d with|some i=>upd tm i v|none=>tm
def onN (N:AS->Prop) (E:AV->AS->Prop):AX->AS->Prop
 |.normal,s=>N s
 |.pan v,s=>E v s
 |_,_=>False
def vpick:AV->AV->AV->Option AV
 |.val (.bool t),a,b=>some (if t then a else b)
 |_,_,_=>none
def vload:Option TI->Option (List AV)->Option AV
 |some ti,some cs=>ldv ti cs
 |_,_=>none
def vnilc:AV->Option AV
 |.ref cs=>some (.ref cs)
 |.addr b off=>some (.addr b off)
 |.elem b i sz off=>some (.elem b i sz off)
 |_=>none
def vun:UnOp->AV->Option AV
 |.not,.val (.bool b)=>some (.val (.bool (!b)))
 |.neg,.val (.int k n)=>some (.val (.int k (k.wrap (0-n))))
 |_,_=>none
def vconv:Option TD->Option TD->AV->Option AV
 |some _,some (.int k),.val (.int _ n)=>some (.val (.int k (k.wrap n)))
 |some _,some .str,.val (.string s)=>some (.val (.string s))
 |some _,some .str,.val (.int _ n)=>if (Utf8.encode n).size<=lim then some (.val (.string (Utf8.encode n))) else none
 |_,_,_=>none
def vfad:Option (Nat×Nat×Bool)->AV->Option AV
 |some (off,fz,_),.ref cs=>if fz=0 then none else some (.ref (cs.drop off))
 |some (off,fz,_),.addr b o=>if fz=0 then none else some (.addr b (o+off))
 |some (off,fz,_),.elem b i sz o=>if fz=0 then none else some (.elem b i sz (o+off))
 |_,_=>none
def vfld:Option (Nat×Nat×Bool)->AV->Option AV
 |some (off,sz,true),.agg cs=>if off+sz<=cs.length then some (.agg ((cs.drop off).take sz)) else none
 |some (off,_,false),.agg cs=>(cs[off]?)
 |_,_=>none
def vixa:Option TD->AV->AV->Option AV
 |some (.slice _ sz),.list xs,.val (.int _ i)=>if 0<=i then (xs[i.toNat]?).bind fun x=>if x.cells.length=sz then some (.ref x.cells) else none else none
 |some (.slice _ sz),.mlist b n _,.val (.int _ i)=>if 0<=i/\i<n then some (.elem b i.toNat sz 0) else none
 |some (.arr len _ sz),.ref cs,.val (.int _ i)=>if 0<=i/\i<len then some (.ref (cs.drop (i.toNat*sz))) else none
 |_,_,_=>none
def vix:Option TD->AV->AV->Option AV
 |some .str,.val (.string s),.val (.int _ i)=>if 0<=i then (s[i.toNat]?).map fun c=>.val (.int .u8 c.toNat) else none
 |_,_,_=>none
def vslc:Option TD->AV->Option AV->Option AV->Option AV->Option AV
 |some .str,.val (.string s),lo,hi,mx=>vslice lo hi mx (.val (.string s))
 |some (.slice _ sz),.list xs,lo,hi,mx=>if ∀ x∈xs,x.cells.length=sz then vslice lo hi mx (.list xs) else none
 |some (.slice _ _),.nil0,lo,hi,mx=>vslice lo hi mx .nil0
 |_,_,_,_,_=>none
def vlook (P:Program):Option TD->Option (List (AV×AV))->Option Value->Bool->Option AV
 |some (.map kt et),some es,some key,ok=>match tdAt P kt,tiOf P et with
  |some kd,some ei=>if keyFits kd key&&keysOk kd es then
    (match assoc key es with
     |some v=>some (if ok then .tup [v,.bool true] else v)
     |none=>some (if ok then .tup [ei.zero,.bool false] else ei.zero))
   else none
  |_,_=>none
 |_,_,_,_=>none
def vext:AV->Nat->Option AV
 |.tup vs,i=>vs[i]?
 |_,_=>none
def vbld:Option TI->List (Nat×AV)->Option AV
 |some ti,ps=>match ti.d,ti.zero with
  |.struct fs,.agg z=>vval.vbuild fs z ps
  |_,_=>none
 |none,_=>none
def vmif:Option TD->Nat->AV->Option AV
 |some .iface,_,_|some .other,_,_|none,_,_=>none
 |some _,t,x=>some (.iface t x)
def vlenb (H:HM):Option TD->AV->Option AV
 |some .str,.val (.string s)=>some (.int s.size)
 |some (.slice _ _),.list xs=>some (.int xs.length)
 |some (.slice _ _),.nil0=>some (.int 0)
 |some (.slice _ _),.mlist _ n _=>some (.int n)
 |some (.map _ _),.val (.map none)=>some (.int 0)
 |some (.map _ _),.imap es=>some (.int es.length)
 |some (.map _ _),.map b=>match H b with
  |some (.map es)=>some (.int es.length)
  |_=>none
 |_,_=>none
def vmin:AV->AV->Option AV
 |.val (.int k x),.val (.int k' y)=>if k=k' then some (.val (.int k (if y<x then y else x))) else none
 |_,_=>none
def vmax:AV->AV->Option AV
 |.val (.int k x),.val (.int k' y)=>if k=k' then some (.val (.int k (if x<y then y else x))) else none
 |_,_=>none
section
variable {P:Program} {G:GT} {M:List Nat} {ops:Array Oper} {N:AS->Prop} {E:AV->AS->Prop} {n:Nat} {r:Option Nat} {Q:AX->AS->Prop} {s:AS}
theorem eval_ev (tm:Nat->AV) (H:HM) (ds:List ADef):AS.eval G ⟨tm,H,ds⟩=ev G tm:=by funext x;cases x<;>rfl
def wops (P:Program) (G:GT) (M:List Nat) (ops:Array Oper) (N:AS->Prop) (E:AV->AS->Prop) (l:List Oper) (tm:Nat->AV) (H:HM) (ds:List ADef):Prop:=
 vops P G M ops (onN N E) l ⟨tm,H,ds⟩
def kont (P:Program) (G:GT) (M:List Nat) (ops:Array Oper) (N:AS->Prop) (E:AV->AS->Prop) (d:Option Nat) (rest:List Oper) (tm:Nat->AV) (ds:List ADef):ARes->HM->Prop
 |.ret v,H'=>wops P G M ops N E rest (putT d v tm) H' ds
 |.pan v,H'=>E v ⟨tm,H',ds⟩
def stV (P:Program) (G:GT) (M:List Nat) (ops:Array Oper) (N:AS->Prop) (E:AV->AS->Prop) (x:Option AV) (d:Option Nat) (rest:List Oper) (tm:Nat->AV) (H:HM) (ds:List ADef):Prop:=
 match x with
 |some v=>wops P G M ops N E rest (putT d v tm) H ds
 |none=>False
def wgd (P:Program) (G:GT) (M:List Nat) (ops:Array Oper) (N:AS->Prop) (E:AV->AS->Prop) (b:Option Bool) (want:Bool) (o:Oper) (rest:List Oper) (tm:Nat->AV) (H:HM) (ds:List ADef):Prop:=
 if b==some want then wops P G M ops N E (o::rest) tm H ds else wops P G M ops N E rest (putT o.dst .unit tm) H ds
def wcall (P:Program) (G:GT) (M:List Nat) (ops:Array Oper) (N:AS->Prop) (E:AV->AS->Prop) (f:AV) (as:List AV) (d:Option Nat) (rest:List Oper) (tm:Nat->AV) (H:HM) (ds:List ADef):Prop:=
 CallV P G f as H (kont P G M ops N E d rest tm ds)
def gval (tm:Nat->AV):Option Oper->Option Bool
 |some o=>match o.dst with
  |some d=>match tm d with
   |.val (.bool b)=>some b
   |_=>none
  |none=>none
 |none=>none
theorem I12 (o:Oper) (rest:List Oper) (tm:Nat->AV) (H:HM) (ds:List ADef) (h:o.guard=none) :
  wops P G M ops N E (o::rest) tm H ds=vx P G M (ev G tm) H o (kont P G M ops N E o.dst rest tm ds):=by
 have:wantA ops o tm=true:=by simp[wantA,h]
 simp only[wops,vops,vop,this,if_true,eval_ev]
 refine congrArg _ ?_
 funext x H'
 cases x with
 |ret v=>obtain ⟨d,_,_,_,_,_⟩:=o;cases d<;>rfl
 |pan v=>rfl
theorem w_nil (tm:Nat->AV) (H:HM) (ds:List ADef):wops P G M ops N E [] tm H ds=N ⟨tm,H,ds⟩:=rfl
theorem w_guard (d:Option Nat) (op:Op) (ty:Nat) (pos:String) (af:Array Edge) (j:Nat) (want:Bool) (rest:List Oper) (tm:Nat->AV) (H:HM) (ds:List ADef) :
  wops P G M ops N E (⟨d,op,ty,pos,af,some (j,want)⟩::rest) tm H ds=wgd P G M ops N E (gval tm ops[j]?) want ⟨d,op,ty,pos,af,none⟩ rest tm H ds:=by
 have hy:yieldA ops tm j=gval tm ops[j]?:=by
  unfold yieldA gval
  cases ops[j]? with
  |none=>rfl
  |some o=>simp only[Option.bind_some];cases o.dst<;>rfl
 unfold wgd
 rw[<-hy,I12 ⟨d,op,ty,pos,af,none⟩ rest tm H ds rfl]
 simp only[wops,vops,vop,wantA]
 by_cases hc:(yieldA ops tm j==some want)=true
 ·simp only[hc,if_true]
  rw[eval_ev]
  have e:∀ K,vx P G M (ev G tm) H ⟨d,op,ty,pos,af,some (j,want)⟩ K=vx P G M (ev G tm) H ⟨d,op,ty,pos,af,none⟩ K:=fun K=>rfl
  rw[e]
  refine congrArg _ ?_
  funext x H'
  cases x with
  |ret v=>cases d<;>rfl
  |pan v=>rfl
 ·simp only[hc]
  cases d<;>rfl
theorem wgd_yes (b:Bool) (o:Oper) (rest:List Oper) (tm:Nat->AV) (H:HM) (ds:List ADef):wgd P G M ops N E (some b) b o rest tm H ds=wops P G M ops N E (o::rest) tm H ds:=by
 simp[wgd]
theorem wgd_tf (o:Oper) (rest:List Oper) (tm:Nat->AV) (H:HM) (ds:List ADef):wgd P G M ops N E (some true) false o rest tm H ds=wops P G M ops N E rest (putT o.dst .unit tm) H ds:=by
 simp[wgd]
theorem wgd_ft (o:Oper) (rest:List Oper) (tm:Nat->AV) (H:HM) (ds:List ADef):wgd P G M ops N E (some false) true o rest tm H ds=wops P G M ops N E rest (putT o.dst .unit tm) H ds:=by
 simp[wgd]
theorem wgd_none (want:Bool) (o:Oper) (rest:List Oper) (tm:Nat->AV) (H:HM) (ds:List ADef):wgd P G M ops N E none want o rest tm H ds=wops P G M ops N E rest (putT o.dst .unit tm) H ds:=by
 simp[wgd]
theorem w_move (d:Option Nat) (x:Operand) (ty:Nat) (pos:String) (af:Array Edge) (rest:List Oper) (tm:Nat->AV) (H:HM) (ds:List ADef) :
  wops P G M ops N E (⟨d,.move x,ty,pos,af,none⟩::rest) tm H ds=wops P G M ops N E rest (putT d (ev G tm x) tm) H ds:=by
 rw[I12 _ _ _ _ _ rfl];rfl
theorem w_assign (d:Option Nat) (x:Operand) (ty:Nat) (pos:String) (af:Array Edge) (rest:List Oper) (tm:Nat->AV) (H:HM) (ds:List ADef) :
  wops P G M ops N E (⟨d,.assign x,ty,pos,af,none⟩::rest) tm H ds=wops P G M ops N E rest (putT d (ev G tm x) tm) H ds:=by
 rw[I12 _ _ _ _ _ rfl];rfl
theorem stV_some (v:AV) (d:Option Nat) (rest:List Oper) (tm:Nat->AV) (H:HM) (ds:List ADef):stV P G M ops N E (some v) d rest tm H ds=wops P G M ops N E rest (putT d v tm) H ds:=rfl
def byVal:Op->Bool
 |.pick .. | .load .. | .nilCheck .. | .binOp .. | .unOp .. | .convert .. | .fieldAddr .. | .field .. | .indexAddr .. | .index .. | .slice .. | .lookup .. | .extract .. | .build .. | .makeFunc .. | .makeInterface .. => true
 |.call c=>match c.callee with
  |.builtin .len | .builtin .min | .builtin .max=>true
  |_=>false
 |_=>false
theorem w_val (o:Oper) (h:o.guard=none) (hv:byVal o.op=true) (rest:List Oper) (tm:Nat->AV) (H:HM) (ds:List ADef) :
  wops P G M ops N E (o::rest) tm H ds=stV P G M ops N E (vval P (ev G tm) H o) o.dst rest tm H ds:=by
 rw[I12 _ _ _ _ _ h]
 obtain ⟨d,op,ty,pos,af,g⟩:=o
 cases op with
 |call c=>
  obtain ⟨ce,as,ats⟩:=c
  cases ce with
  |builtin b=>cases b<;>first|(cases hv;done)|(unfold stV vx;simp only[];split<;>(rename_i hx;rw[hx];try rfl))
  |_=>cases hv
 |_=>first|(cases hv;done)|(unfold stV vx;simp only[];split<;>(rename_i hx;rw[hx];try rfl))
theorem w_pick (d:Option Nat) (c a b:Operand) (ty:Nat) (pos:String) (af:Array Edge) (rest:List Oper) (tm:Nat->AV) (H:HM) (ds:List ADef) :
  wops P G M ops N E (⟨d,.pick c a b,ty,pos,af,none⟩::rest) tm H ds=stV P G M ops N E (vpick (ev G tm c) (ev G tm a) (ev G tm b)) d rest tm H ds:=by
 rw[w_val _ rfl rfl]
 refine congrArg (fun v=>stV P G M ops N E v d rest tm H ds) ?_
 unfold vval vpick
 simp only[Array.toList,List.map_cons,List.map_nil]
 generalize ev G tm c=x
 cases x with
 |val v=>cases v<;>rfl
 |_=>rfl
theorem w_load (d:Option Nat) (t:Nat) (x:Operand) (ty:Nat) (pos:String) (af:Array Edge) (rest:List Oper) (tm:Nat->AV) (H:HM) (ds:List ADef) :
  wops P G M ops N E (⟨d,.load t x,ty,pos,af,none⟩::rest) tm H ds=stV P G M ops N E (vload (tiOf P t) (cellsAt H (ev G tm x))) d rest tm H ds:=w_val _ rfl rfl _ _ _ _
theorem w_nilCheck (d:Option Nat) (x:Operand) (ty:Nat) (pos:String) (af:Array Edge) (rest:List Oper) (tm:Nat->AV) (H:HM) (ds:List ADef) :
  wops P G M ops N E (⟨d,.nilCheck x,ty,pos,af,none⟩::rest) tm H ds=stV P G M ops N E (vnilc (ev G tm x)) d rest tm H ds:=w_val _ rfl rfl _ _ _ _
theorem w_binOp (d:Option Nat) (op:BinOp) (t:Nat) (x y:Operand) (yt:Nat) (ty:Nat) (pos:String) (af:Array Edge) (rest:List Oper) (tm:Nat->AV) (H:HM) (ds:List ADef) :
  wops P G M ops N E (⟨d,.binOp op t x y yt,ty,pos,af,none⟩::rest) tm H ds=stV P G M ops N E (vbin P op t (ev G tm x) (ev G tm y)) d rest tm H ds:=w_val _ rfl rfl _ _ _ _
theorem w_unOp (d:Option Nat) (op:UnOp) (t:Nat) (x:Operand) (ty:Nat) (pos:String) (af:Array Edge) (rest:List Oper) (tm:Nat->AV) (H:HM) (ds:List ADef) :
  wops P G M ops N E (⟨d,.unOp op t x,ty,pos,af,none⟩::rest) tm H ds=stV P G M ops N E (vun op (ev G tm x)) d rest tm H ds:=w_val _ rfl rfl _ _ _ _
theorem w_convert (d:Option Nat) (a b:Nat) (x:Operand) (ty:Nat) (pos:String) (af:Array Edge) (rest:List Oper) (tm:Nat->AV) (H:HM) (ds:List ADef) :
  wops P G M ops N E (⟨d,.convert a b x,ty,pos,af,none⟩::rest) tm H ds=stV P G M ops N E (vconv (tdAt P a) (tdAt P b) (ev G tm x)) d rest tm H ds:=w_val _ rfl rfl _ _ _ _
theorem w_fieldAddr (d:Option Nat) (t:Nat) (x:Operand) (i:Nat) (ty:Nat) (pos:String) (af:Array Edge) (rest:List Oper) (tm:Nat->AV) (H:HM) (ds:List ADef) :
  wops P G M ops N E (⟨d,.fieldAddr t x i,ty,pos,af,none⟩::rest) tm H ds=stV P G M ops N E (vfad ((tiOf P t).bind (fieldOf · i)) (ev G tm x)) d rest tm H ds:=w_val _ rfl rfl _ _ _ _
theorem w_indexAddr (d:Option Nat) (t:Nat) (x i:Operand) (ty:Nat) (pos:String) (af:Array Edge) (rest:List Oper) (tm:Nat->AV) (H:HM) (ds:List ADef) :
  wops P G M ops N E (⟨d,.indexAddr t x i,ty,pos,af,none⟩::rest) tm H ds=stV P G M ops N E (vixa (tdAt P t) (ev G tm x) (ev G tm i)) d rest tm H ds:=w_val _ rfl rfl _ _ _ _
theorem w_index (d:Option Nat) (t:Nat) (x i:Operand) (ty:Nat) (pos:String) (af:Array Edge) (rest:List Oper) (tm:Nat->AV) (H:HM) (ds:List ADef) :
  wops P G M ops N E (⟨d,.index t x i,ty,pos,af,none⟩::rest) tm H ds=stV P G M ops N E (vix (tdAt P t) (ev G tm x) (ev G tm i)) d rest tm H ds:=w_val _ rfl rfl _ _ _ _
theorem w_slice (d:Option Nat) (t:Nat) (x:Operand) (lo hi mx:Option Operand) (ty:Nat) (pos:String) (af:Array Edge) (rest:List Oper) (tm:Nat->AV) (H:HM) (ds:List ADef) :
  wops P G M ops N E (⟨d,.slice t x lo hi mx,ty,pos,af,none⟩::rest) tm H ds=stV P G M ops N E (vslc (tdAt P t) (ev G tm x) (lo.map (ev G tm)) (hi.map (ev G tm)) (mx.map (ev G tm))) d rest tm H ds:=by
 rw[w_val _ rfl rfl]
 refine congrArg (fun v=>stV P G M ops N E v d rest tm H ds) ?_
 unfold vval vslc
 simp only[Array.toList,List.map_cons,List.map_nil]
 generalize tdAt P t=q
 generalize ev G tm x=x
 cases q with
 |none=>rfl
 |some q=>
  cases q<;>first|rfl|(cases x with
   |val v=>cases v<;>rfl
   |_=>rfl)
theorem w_lookup (d:Option Nat) (t:Nat) (x k:Operand) (ok:Bool) (ty:Nat) (pos:String) (af:Array Edge) (rest:List Oper) (tm:Nat->AV) (H:HM) (ds:List ADef) :
  wops P G M ops N E (⟨d,.lookup t x k ok,ty,pos,af,none⟩::rest) tm H ds=stV P G M ops N E (vlook P (tdAt P t) (entriesOf H (ev G tm x)) (keyOf (ev G tm k)) ok) d rest tm H ds:=by
 rw[w_val _ rfl rfl]
 refine congrArg (fun v=>stV P G M ops N E v d rest tm H ds) ?_
 unfold vval vlook
 simp only[Array.toList,List.map_cons,List.map_nil]
 generalize tdAt P t=q
 generalize entriesOf H (ev G tm x)=e
 generalize keyOf (ev G tm k)=k
 cases q with
 |none=>rfl
 |some q=>
  cases q<;>first|rfl|(cases e<;>cases k<;>rfl)
theorem w_extract (d:Option Nat) (x:Operand) (i:Nat) (ty:Nat) (pos:String) (af:Array Edge) (rest:List Oper) (tm:Nat->AV) (H:HM) (ds:List ADef) :
  wops P G M ops N E (⟨d,.extract x i,ty,pos,af,none⟩::rest) tm H ds=stV P G M ops N E (vext (ev G tm x) i) d rest tm H ds:=by
 rw[w_val _ rfl rfl]
 refine congrArg (fun v=>stV P G M ops N E v d rest tm H ds) ?_
 unfold vval vext
 simp only[Array.toList,List.map_cons,List.map_nil]
 generalize ev G tm x=x
 cases x<;>rfl
theorem w_build (d:Option Nat) (t:Nat) (parts:Array (Nat×Operand)) (ty:Nat) (pos:String) (af:Array Edge) (rest:List Oper) (tm:Nat->AV) (H:HM) (ds:List ADef) :
  wops P G M ops N E (⟨d,.build t parts,ty,pos,af,none⟩::rest) tm H ds=stV P G M ops N E (vbld (tiOf P t) (parts.toList.map fun p=>(p.1,ev G tm p.2))) d rest tm H ds:=by
 rw[w_val _ rfl rfl]
 refine congrArg (fun v=>stV P G M ops N E v d rest tm H ds) ?_
 unfold vval vbld
 simp only[Array.toList,List.map_cons,List.map_nil]
 generalize tiOf P t=q
 cases q<;>rfl
theorem w_makeFunc (d:Option Nat) (fn:Fn) (first cap:Array Operand) (ty:Nat) (pos:String) (af:Array Edge) (rest:List Oper) (tm:Nat->AV) (H:HM) (ds:List ADef) :
  wops P G M ops N E (⟨d,.makeFunc fn first cap,ty,pos,af,none⟩::rest) tm H ds=stV P G M ops N E (some (.func fn (first.toList.map (ev G tm)) (cap.toList.map (ev G tm)))) d rest tm H ds:=w_val _ rfl rfl _ _ _ _
theorem w_makeInterface (d:Option Nat) (t:Nat) (x:Operand) (ty:Nat) (pos:String) (af:Array Edge) (rest:List Oper) (tm:Nat->AV) (H:HM) (ds:List ADef) :
  wops P G M ops N E (⟨d,.makeInterface t x,ty,pos,af,none⟩::rest) tm H ds=stV P G M ops N E (vmif (tdAt P t) t (ev G tm x)) d rest tm H ds:=by
 rw[w_val _ rfl rfl]
 refine congrArg (fun v=>stV P G M ops N E v d rest tm H ds) ?_
 unfold vval vmif
 simp only[Array.toList,List.map_cons,List.map_nil]
 generalize tdAt P t=q
 cases q with
 |none=>rfl
 |some q=>cases q<;>rfl
theorem w_len (d:Option Nat) (x:Operand) (t:Nat) (ty:Nat) (pos:String) (af:Array Edge) (rest:List Oper) (tm:Nat->AV) (H:HM) (ds:List ADef) :
  wops P G M ops N E (⟨d,.call ⟨.builtin .len,#[x],#[t]⟩,ty,pos,af,none⟩::rest) tm H ds=stV P G M ops N E (vlenb H (tdAt P t) (ev G tm x)) d rest tm H ds:=w_val _ rfl rfl _ _ _ _
theorem w_min (d:Option Nat) (x y:Operand) (ts:Array Nat) (ty:Nat) (pos:String) (af:Array Edge) (rest:List Oper) (tm:Nat->AV) (H:HM) (ds:List ADef) :
  wops P G M ops N E (⟨d,.call ⟨.builtin .min,#[x,y],ts⟩,ty,pos,af,none⟩::rest) tm H ds=stV P G M ops N E (vmin (ev G tm x) (ev G tm y)) d rest tm H ds:=by
 rw[w_val _ rfl rfl]
 refine congrArg (fun v=>stV P G M ops N E v d rest tm H ds) ?_
 unfold vval vmin
 simp only[Array.toList,List.map_cons,List.map_nil]
 generalize ev G tm x=x
 generalize ev G tm y=y
 cases x with
 |val v=>cases v with
  |int k a=>cases y with
   |val u=>cases u<;>rfl
   |_=>rfl
  |_=>rfl
 |_=>rfl
theorem w_call (d:Option Nat) (f:Operand) (as:Array Operand) (ats:Array Nat) (ty:Nat) (pos:String) (af:Array Edge) (rest:List Oper) (tm:Nat->AV) (H:HM) (ds:List ADef) :
  wops P G M ops N E (⟨d,.call ⟨.value f,as,ats⟩,ty,pos,af,none⟩::rest) tm H ds=wcall P G M ops N E (ev G tm f) (as.toList.map (ev G tm)) d rest tm H ds:=by
 rw[I12 _ _ _ _ _ rfl];rfl
def wapp (P:Program) (G:GT) (M:List Nat) (ops:Array Oper) (N:AS->Prop) (E:AV->AS->Prop) (m:Bool) (ts tx:Nat) (s x:AV) (d:Option Nat) (rest:List Oper) (tm:Nat->AV) (H:HM) (ds:List ADef):Prop:=
 if m then vappendI P H ts tx s x (kont P G M ops N E d rest tm ds) else vappend P H ts tx s x (kont P G M ops N E d rest tm ds)
theorem wapp_f (ts tx:Nat) (s x:AV) (d:Option Nat) (rest:List Oper) (tm:Nat->AV) (H:HM) (ds:List ADef):wapp P G M ops N E false ts tx s x d rest tm H ds=vappend P H ts tx s x (kont P G M ops N E d rest tm ds):=rfl
theorem w_append (d:Option Nat) (s x:Operand) (ts tx:Nat) (ty:Nat) (pos:String) (af:Array Edge) (rest:List Oper) (tm:Nat->AV) (H:HM) (ds:List ADef) :
  wops P G M ops N E (⟨d,.call ⟨.builtin .append,#[s,x],#[ts,tx]⟩,ty,pos,af,none⟩::rest) tm H ds=wapp P G M ops N E (isImm M d) ts tx (ev G tm s) (ev G tm x) d rest tm H ds:=by
 rw[I12 _ _ _ _ _ rfl];rfl
def wnew (P:Program) (G:GT) (M:List Nat) (ops:Array Oper) (N:AS->Prop) (E:AV->AS->Prop) (o:AObj) (isMap:Bool) (d:Option Nat) (rest:List Oper) (tm:Nat->AV) (H:HM) (ds:List ADef):Prop:=
 ∀ b,H b=none->wops P G M ops N E rest (putT d (if isMap then .map b else .addr b 0) tm) (H.upd b o) ds
def wbox (P:Program) (G:GT) (M:List Nat) (ops:Array Oper) (N:AS->Prop) (E:AV->AS->Prop) (m:Bool) (t:Nat) (x:AV) (d:Option Nat) (rest:List Oper) (tm:Nat->AV) (H:HM) (ds:List ADef):Prop:=
 x.one=true/\(if m then wnew P G M ops N E (.cells t x.cells) false d rest tm H ds else wops P G M ops N E rest (putT d (.ref x.cells) tm) H ds)
theorem w_box (d:Option Nat) (t:Nat) (x:Operand) (ty:Nat) (pos:String) (af:Array Edge) (rest:List Oper) (tm:Nat->AV) (H:HM) (ds:List ADef) :
  wops P G M ops N E (⟨d,.box t x,ty,pos,af,none⟩::rest) tm H ds=wbox P G M ops N E (isMut M d) t (ev G tm x) d rest tm H ds:=by
 rw[I12 _ _ _ _ _ rfl];unfold wbox vx wnew;simp only[];cases isMut M d<;>rfl
theorem wbox_t (t:Nat) (x:AV) (d:Option Nat) (rest:List Oper) (tm:Nat->AV) (H:HM) (ds:List ADef):wbox P G M ops N E true t x d rest tm H ds=(x.one=true/\wnew P G M ops N E (.cells t x.cells) false d rest tm H ds):=rfl
theorem wbox_f (t:Nat) (x:AV) (d:Option Nat) (rest:List Oper) (tm:Nat->AV) (H:HM) (ds:List ADef):wbox P G M ops N E false t x d rest tm H ds=(x.one=true/\wops P G M ops N E rest (putT d (.ref x.cells) tm) H ds):=rfl
def walloc (P:Program) (G:GT) (M:List Nat) (ops:Array Oper) (N:AS->Prop) (E:AV->AS->Prop) (t:Nat) (ti:Option TI) (d:Option Nat) (rest:List Oper) (tm:Nat->AV) (H:HM) (ds:List ADef):Prop:=
 match ti with
 |some ti=>ti.zero.one=true/\wnew P G M ops N E (.cells t ti.zero.cells) false d rest tm H ds
 |none=>False
theorem w_alloc (d:Option Nat) (t:Nat) (ty:Nat) (pos:String) (af:Array Edge) (rest:List Oper) (tm:Nat->AV) (H:HM) (ds:List ADef) :
  wops P G M ops N E (⟨d,.alloc t,ty,pos,af,none⟩::rest) tm H ds=walloc P G M ops N E t (tiOf P t) d rest tm H ds:=by
 rw[I12 _ _ _ _ _ rfl];unfold walloc vx wnew;simp only[];cases tiOf P t<;>rfl
theorem walloc_some (t:Nat) (ti:TI) (d:Option Nat) (rest:List Oper) (tm:Nat->AV) (H:HM) (ds:List ADef):walloc P G M ops N E t (some ti) d rest tm H ds=(ti.zero.one=true/\wnew P G M ops N E (.cells t ti.zero.cells) false d rest tm H ds):=rfl
theorem w_makeMap (d:Option Nat) (t:Nat) (ty:Nat) (pos:String) (af:Array Edge) (rest:List Oper) (tm:Nat->AV) (H:HM) (ds:List ADef) :
  wops P G M ops N E (⟨d,.makeMap t none,ty,pos,af,none⟩::rest) tm H ds=wnew P G M ops N E (.map []) true d rest tm H ds:=by
 rw[I12 _ _ _ _ _ rfl];rfl
def wst (P:Program) (G:GT) (M:List Nat) (ops:Array Oper) (N:AS->Prop) (E:AV->AS->Prop) (ti:Option TI) (a x:AV) (d:Option Nat) (rest:List Oper) (tm:Nat->AV) (H:HM) (ds:List ADef):Prop:=
 match ti,a with
 |some ti,.addr b off=>match H b with
  |some (.cells et cs)=>(x.cells.length=ti.size/\off+ti.size<=cs.length/\x.one=true)/\wops P G M ops N E rest (putT d .unit tm) (H.upd b (.cells et (splice cs off x.cells))) ds
  |_=>False
 |some ti,.elem b i sz off=>match H b with
  |some (.row et sz' cap xs)=>sz=sz'/\x.cells.length=ti.size/\x.one=true /\
   match xs[i]? with
   |some x0=>match elemPut x0 off x sz with
    |some v'=>wops P G M ops N E rest (putT d .unit tm) (H.upd b (.row et sz cap (xs.set i v'))) ds
    |none=>False
   |none=>False
  |_=>False
 |_,_=>False
def wstA (P:Program) (G:GT) (M:List Nat) (ops:Array Oper) (N:AS->Prop) (E:AV->AS->Prop) (o:Option AObj) (b off sz:Nat) (x:AV) (d:Option Nat) (rest:List Oper) (tm:Nat->AV) (H:HM) (ds:List ADef):Prop:=
 match o with
 |some (.cells et cs)=>(x.cells.length=sz/\off+sz<=cs.length/\x.one=true)/\wops P G M ops N E rest (putT d .unit tm) (H.upd b (.cells et (splice cs off x.cells))) ds
 |_=>False
def wstE (P:Program) (G:GT) (M:List Nat) (ops:Array Oper) (N:AS->Prop) (E:AV->AS->Prop) (b et sz cap i:Nat) (xs:List AV) (v:Option AV) (d:Option Nat) (rest:List Oper) (tm:Nat->AV) (H:HM) (ds:List ADef):Prop:=
 match v with
 |some v'=>wops P G M ops N E rest (putT d .unit tm) (H.upd b (.row et sz cap (xs.set i v'))) ds
 |none=>False
theorem w_store (d:Option Nat) (t:Nat) (a x:Operand) (ty:Nat) (pos:String) (af:Array Edge) (rest:List Oper) (tm:Nat->AV) (H:HM) (ds:List ADef) :
  wops P G M ops N E (⟨d,.store t a x,ty,pos,af,none⟩::rest) tm H ds=wst P G M ops N E (tiOf P t) (ev G tm a) (ev G tm x) d rest tm H ds:=by
 rw[I12 _ _ _ _ _ rfl];rfl
theorem wst_addr (ti:TI) (b off:Nat) (x:AV) (d:Option Nat) (rest:List Oper) (tm:Nat->AV) (H:HM) (ds:List ADef) :
  wst P G M ops N E (some ti) (.addr b off) x d rest tm H ds=wstA P G M ops N E (H b) b off ti.size x d rest tm H ds:=by
 unfold wst wstA;rfl
theorem wstA_cells (et:Nat) (cs:List AV) (b off sz:Nat) (x:AV) (d:Option Nat) (rest:List Oper) (tm:Nat->AV) (H:HM) (ds:List ADef) :
  wstA P G M ops N E (some (.cells et cs)) b off sz x d rest tm H ds=((x.cells.length=sz/\off+sz<=cs.length/\x.one=true)/\wops P G M ops N E rest (putT d .unit tm) (H.upd b (.cells et (splice cs off x.cells))) ds):=rfl
theorem Y11 (ti:TI) (b i sz off:Nat) (x:AV) {et cap:Nat} {xs:List AV} {x0:AV} (d:Option Nat) (rest:List Oper) (tm:Nat->AV) (H:HM) (ds:List ADef) (hb:H b=some (.row et sz cap xs)) (hx:xs[i]?=some x0) :
  wst P G M ops N E (some ti) (.elem b i sz off) x d rest tm H ds=(x.cells.length=ti.size/\x.one=true/\wstE P G M ops N E b et sz cap i xs (elemPut x0 off x sz) d rest tm H ds):=by
 simp only[wst,wstE,hb,hx,true_and]
theorem wstE_some (b et sz cap i:Nat) (xs:List AV) (v:AV) (d:Option Nat) (rest:List Oper) (tm:Nat->AV) (H:HM) (ds:List ADef) :
  wstE P G M ops N E b et sz cap i xs (some v) d rest tm H ds=wops P G M ops N E rest (putT d .unit tm) (H.upd b (.row et sz cap (xs.set i v))) ds:=rfl
def wput (P:Program) (G:GT) (M:List Nat) (ops:Array Oper) (N:AS->Prop) (E:AV->AS->Prop) (td:Option TD) (m:AV) (k:Option Value) (x:AV) (d:Option Nat) (rest:List Oper) (tm:Nat->AV) (H:HM) (ds:List ADef):Prop:=
 match td,m,k with
 |some (.map kt et),.map b,some key=>match tdAt P kt,H b with
  |some kd,some (.map es)=>keyFits kd key=true/\keysOk kd es=true/\wops P G M ops N E rest (putT d .unit tm) (H.upd b (.map (assocSet key x es))) ds
  |_,_=>False
 |_,_,_=>False
def wput1 (P:Program) (G:GT) (M:List Nat) (ops:Array Oper) (N:AS->Prop) (E:AV->AS->Prop) (kd:Option TD) (o:Option AObj) (b:Nat) (key:Value) (x:AV) (d:Option Nat) (rest:List Oper) (tm:Nat->AV) (H:HM) (ds:List ADef):Prop:=
 match kd,o with
 |some kd,some (.map es)=>keyFits kd key=true/\keysOk kd es=true/\wops P G M ops N E rest (putT d .unit tm) (H.upd b (.map (assocSet key x es))) ds
 |_,_=>False
theorem w_mapUpdate (d:Option Nat) (t:Nat) (m k x:Operand) (ty:Nat) (pos:String) (af:Array Edge) (rest:List Oper) (tm:Nat->AV) (H:HM) (ds:List ADef) :
  wops P G M ops N E (⟨d,.mapUpdate t m k x,ty,pos,af,none⟩::rest) tm H ds=wput P G M ops N E (tdAt P t) (ev G tm m) (keyOf (ev G tm k)) (ev G tm x) d rest tm H ds:=by
 rw[I12 _ _ _ _ _ rfl];rfl
theorem w_insert (d:Option Nat) (t:Nat) (m k x:Operand) (ty:Nat) (pos:String) (af:Array Edge) (rest:List Oper) (tm:Nat->AV) (H:HM) (ds:List ADef) :
  wops P G M ops N E (⟨d,.insert t m k x,ty,pos,af,none⟩::rest) tm H ds=wput P G M ops N E (tdAt P t) (ev G tm m) (keyOf (ev G tm k)) (ev G tm x) d rest tm H ds:=by
 rw[I12 _ _ _ _ _ rfl];rfl
theorem wput_map (kt et b:Nat) (key:Value) (x:AV) (d:Option Nat) (rest:List Oper) (tm:Nat->AV) (H:HM) (ds:List ADef) :
  wput P G M ops N E (some (.map kt et)) (.map b) (some key) x d rest tm H ds=wput1 P G M ops N E (tdAt P kt) (H b) b key x d rest tm H ds:=rfl
theorem wput1_map (kd:TD) (es:List (AV×AV)) (b:Nat) (key:Value) (x:AV) (d:Option Nat) (rest:List Oper) (tm:Nat->AV) (H:HM) (ds:List ADef) :
  wput1 P G M ops N E (some kd) (some (.map es)) b key x d rest tm H ds=(keyFits kd key=true/\keysOk kd es=true/\wops P G M ops N E rest (putT d .unit tm) (H.upd b (.map (assocSet key x es))) ds):=rfl
def bsOk (P:Program) (e sz len:Nat) (is:List Nat) (xs:List AV):Prop:=
 is=List.range len/\(∀ x∈xs,x.cells.length=sz/\x.one=true)/\sz≠0/\len*sz<=16777216/\(tiOf P e).isSome=true
theorem bs_ok {e sz len:Nat} {is:List Nat} {xs:List AV} (h:(is==List.range len&&Nat.ble 1 sz&&Nat.ble (len*sz) 16777216&&(tiOf P e).isSome)=true) (h2:∀ x∈xs,x.cells.length=sz/\x.one=true):bsOk P e sz len is xs:=by
 simp only[Bool.and_eq_true,beq_iff_eq] at h
 exact ⟨h.1.1.1,h2,by have:=Nat.le_of_ble_eq_true h.1.1.2;omega,Nat.le_of_ble_eq_true h.1.2,h.2⟩
def wbs (P:Program) (G:GT) (M:List Nat) (ops:Array Oper) (N:AS->Prop) (E:AV->AS->Prop) (td:Option TD) (len:Nat) (is:List Nat) (xs:List AV) (d:Option Nat) (rest:List Oper) (tm:Nat->AV) (H:HM) (ds:List ADef):Prop:=
 match td with
 |some (.slice e sz)=>if len=0 then is=[]/\wops P G M ops N E rest (putT d .nil0 tm) H ds else
   bsOk P e sz len is xs/\wops P G M ops N E rest (putT d (.list xs) tm) H ds
 |_=>False
theorem w_buildSlice (d:Option Nat) (t len:Nat) (parts:Array (Nat×Operand)) (ty:Nat) (pos:String) (af:Array Edge) (rest:List Oper) (tm:Nat->AV) (H:HM) (ds:List ADef) :
  wops P G M ops N E (⟨d,.buildSlice t len parts,ty,pos,af,none⟩::rest) tm H ds=wbs P G M ops N E (tdAt P t) len (parts.toList.map (·.1)) (parts.toList.map fun p=>ev G tm p.2) d rest tm H ds:=by
 rw[I12 _ _ _ _ _ rfl]
 unfold wbs vx bsOk
 simp only[]
 cases tdAt P t with
 |none=>rfl
 |some td=>
  cases td with
  |slice e sz=>
   simp only[]
   split
   ·simp only[List.map_eq_nil_iff];rfl
   ·simp only[List.mem_map,forall_exists_index,and_imp,forall_apply_eq_imp_iff₂,and_assoc];rfl
  |_=>rfl
theorem wbs_some (e sz len:Nat) (is:List Nat) (xs:List AV) (d:Option Nat) (rest:List Oper) (tm:Nat->AV) (H:HM) (ds:List ADef) :
  wbs P G M ops N E (some (.slice e sz)) len is xs d rest tm H ds=if len=0 then (is=[]/\wops P G M ops N E rest (putT d .nil0 tm) H ds) else (bsOk P e sz len is xs/\wops P G M ops N E rest (putT d (.list xs) tm) H ds):=rfl
def wrg (P:Program) (G:GT) (M:List Nat) (ops:Array Oper) (N:AS->Prop) (E:AV->AS->Prop) (td:Option TD) (x:AV) (d:Option Nat) (rest:List Oper) (tm:Nat->AV) (H:HM) (ds:List ADef):Prop:=
 match td,x with
 |some .str,.val (.string s)=>wnew P G M ops N E (.siter s 0) false d rest tm H ds
 |some (.map _ _),.imap es=>wnew P G M ops N E (.miter es []) false d rest tm H ds
 |_,_=>False
theorem w_range (d:Option Nat) (t:Nat) (x:Operand) (ty:Nat) (pos:String) (af:Array Edge) (rest:List Oper) (tm:Nat->AV) (H:HM) (ds:List ADef) :
  wops P G M ops N E (⟨d,.range t x,ty,pos,af,none⟩::rest) tm H ds=wrg P G M ops N E (tdAt P t) (ev G tm x) d rest tm H ds:=by
 rw[I12 _ _ _ _ _ rfl];rfl
theorem wrg_str (s:ByteArray) (d:Option Nat) (rest:List Oper) (tm:Nat->AV) (H:HM) (ds:List ADef):wrg P G M ops N E (some .str) (.val (.string s)) d rest tm H ds=wnew P G M ops N E (.siter s 0) false d rest tm H ds:=rfl
theorem wrg_map (k e:Nat) (es:List (AV×AV)) (d:Option Nat) (rest:List Oper) (tm:Nat->AV) (H:HM) (ds:List ADef):wrg P G M ops N E (some (.map k e)) (.imap es) d rest tm H ds=wnew P G M ops N E (.miter es []) false d rest tm H ds:=rfl
def wnx (P:Program) (G:GT) (M:List Nat) (ops:Array Oper) (N:AS->Prop) (E:AV->AS->Prop) (o:Option AObj) (isS:Bool) (b:Nat) (d:Option Nat) (rest:List Oper) (tm:Nat->AV) (H:HM) (ds:List ADef):Prop:=
 match o,isS with
 |some (.siter s pos),true=>(pos<s.size->wops P G M ops N E rest (putT d (.tup [.bool true,.int pos,.val (.int .i32 (Utf8.decode s pos).1)]) tm) (H.upd b (.siter s (pos+(Utf8.decode s pos).2))) ds) /\
   (¬ pos<s.size->wops P G M ops N E rest (putT d (.tup [.bool false]) tm) H ds)
 |some (.miter es seen),false=>((∀ j,j<es.length->j∈seen)->wops P G M ops N E rest (putT d (.tup [.bool false]) tm) H ds) /\
   ∀ j e,es[j]?=some e->j∉seen->wops P G M ops N E rest (putT d (.tup [.bool true,e.1,e.2]) tm) (H.upd b (.miter es (seen++[j]))) ds
 |_,_=>False
def wnxt (P:Program) (G:GT) (M:List Nat) (ops:Array Oper) (N:AS->Prop) (E:AV->AS->Prop) (x:AV) (isS:Bool) (d:Option Nat) (rest:List Oper) (tm:Nat->AV) (H:HM) (ds:List ADef):Prop:=
 match x with
 |.addr b 0=>wnx P G M ops N E (H b) isS b d rest tm H ds
 |_=>False
theorem w_next (d:Option Nat) (x:Operand) (isS:Bool) (ty:Nat) (pos:String) (af:Array Edge) (rest:List Oper) (tm:Nat->AV) (H:HM) (ds:List ADef) :
  wops P G M ops N E (⟨d,.next x isS,ty,pos,af,none⟩::rest) tm H ds=wnxt P G M ops N E (ev G tm x) isS d rest tm H ds:=by
 rw[I12 _ _ _ _ _ rfl];rfl
theorem wnxt_addr (b:Nat) (isS:Bool) (d:Option Nat) (rest:List Oper) (tm:Nat->AV) (H:HM) (ds:List ADef):wnxt P G M ops N E (.addr b 0) isS d rest tm H ds=wnx P G M ops N E (H b) isS b d rest tm H ds:=rfl
def wnxS (P:Program) (G:GT) (M:List Nat) (ops:Array Oper) (N:AS->Prop) (E:AV->AS->Prop) (s:ByteArray) (pos b:Nat) (d:Option Nat) (rest:List Oper) (tm:Nat->AV) (H:HM) (ds:List ADef):Prop:=
 (pos<s.size->wops P G M ops N E rest (putT d (.tup [.bool true,.int pos,.val (.int .i32 (Utf8.decode s pos).1)]) tm) (H.upd b (.siter s (pos+(Utf8.decode s pos).2))) ds) /\
   (¬ pos<s.size->wops P G M ops N E rest (putT d (.tup [.bool false]) tm) H ds)
def wnxM (P:Program) (G:GT) (M:List Nat) (ops:Array Oper) (N:AS->Prop) (E:AV->AS->Prop) (es:List (AV×AV)) (seen:List Nat) (b:Nat) (d:Option Nat) (rest:List Oper) (tm:Nat->AV) (H:HM) (ds:List ADef):Prop:=
 ((∀ j,j<es.length->j∈seen)->wops P G M ops N E rest (putT d (.tup [.bool false]) tm) H ds) /\
   ∀ j e,es[j]?=some e->j∉seen->wops P G M ops N E rest (putT d (.tup [.bool true,e.1,e.2]) tm) (H.upd b (.miter es (seen++[j]))) ds
theorem wnx_str (s:ByteArray) (pos b:Nat) (d:Option Nat) (rest:List Oper) (tm:Nat->AV) (H:HM) (ds:List ADef):wnx P G M ops N E (some (.siter s pos)) true b d rest tm H ds=wnxS P G M ops N E s pos b d rest tm H ds:=rfl
theorem wnx_map (es:List (AV×AV)) (seen:List Nat) (b:Nat) (d:Option Nat) (rest:List Oper) (tm:Nat->AV) (H:HM) (ds:List ADef):wnx P G M ops N E (some (.miter es seen)) false b d rest tm H ds=wnxM P G M ops N E es seen b d rest tm H ds:=rfl
theorem wnxS_yes {s:ByteArray} {pos b:Nat} {d:Option Nat} {rest:List Oper} {tm:Nat->AV} {H:HM} {ds:List ADef} (h:pos<s.size) (hk:wops P G M ops N E rest (putT d (.tup [.bool true,.int pos,.val (.int .i32 (Utf8.decode s pos).1)]) tm) (H.upd b (.siter s (pos+(Utf8.decode s pos).2))) ds) :
  wnxS P G M ops N E s pos b d rest tm H ds:=⟨fun _=>hk,fun q=>absurd h q⟩
theorem wnxS_no {s:ByteArray} {pos b:Nat} {d:Option Nat} {rest:List Oper} {tm:Nat->AV} {H:HM} {ds:List ADef} (h:¬ pos<s.size) (hk:wops P G M ops N E rest (putT d (.tup [.bool false]) tm) H ds) :
  wnxS P G M ops N E s pos b d rest tm H ds:=⟨fun q=>absurd q h,fun _=>hk⟩
def wen (P:Program) (G:GT) (M:List Nat) (ops:Array Oper) (N:AS->Prop) (E:AV->AS->Prop) (x:AV) (d:Option Nat) (rest:List Oper) (tm:Nat->AV) (H:HM) (ds:List ADef):Prop:=
 match x with
 |.addr b 0=>match H b with
  |some (.miter es seen)=>∃ j e,seen.getLast?=some j/\es[j]?=some e/\wops P G M ops N E rest (putT d (.tup [e.1,e.2]) tm) H ds
  |_=>False
 |_=>False
theorem w_entry (d:Option Nat) (x:Operand) (ty:Nat) (pos:String) (af:Array Edge) (rest:List Oper) (tm:Nat->AV) (H:HM) (ds:List ADef) :
  wops P G M ops N E (⟨d,.entry x,ty,pos,af,none⟩::rest) tm H ds=wen P G M ops N E (ev G tm x) d rest tm H ds:=by
 rw[I12 _ _ _ _ _ rfl];rfl
theorem wen_ok {b:Nat} {es:List (AV×AV)} {seen:List Nat} {j:Nat} {e:AV×AV} {d:Option Nat} {rest:List Oper} {tm:Nat->AV} {H:HM} {ds:List ADef} (hb:H b=some (.miter es (seen++[j]))) (he:es[j]?=some e)
  (hk:wops P G M ops N E rest (putT d (.tup [e.1,e.2]) tm) H ds):wen P G M ops N E (.addr b 0) d rest tm H ds:=by
 unfold wen;simp only[hb];exact ⟨j,e,by simp,he,hk⟩
def wcpy (P:Program) (G:GT) (M:List Nat) (ops:Array Oper) (N:AS->Prop) (E:AV->AS->Prop) (td:Nat) (a x:AV) (d:Option Nat) (rest:List Oper) (tm:Nat->AV) (H:HM) (ds:List ADef):Prop:=
 vcopy P H td a x (kont P G M ops N E d rest tm ds)
theorem w_copy (d:Option Nat) (a x:Operand) (td tx:Nat) (ty:Nat) (pos:String) (af:Array Edge) (rest:List Oper) (tm:Nat->AV) (H:HM) (ds:List ADef) :
  wops P G M ops N E (⟨d,.call ⟨.builtin .copy,#[a,x],#[td,tx]⟩,ty,pos,af,none⟩::rest) tm H ds=wcpy P G M ops N E td (ev G tm a) (ev G tm x) d rest tm H ds:=by
 rw[I12 _ _ _ _ _ rfl];rfl
end
set_option linter.defProp false
section
variable {P:Program} {G:GT} {M:List Nat} {ops:Array Oper} {N:AS->Prop} {E:AV->AS->Prop} {n:Nat} {r:Option Nat} {Q:AX->AS->Prop} {s:AS} {tl:List Oper}
def wqs (P:Program) (G:GT) (M:List Nat) (ops:Array Oper) (N:AS->Prop) (E:AV->AS->Prop) (tl l:List Oper) (tm:Nat->AV) (H:HM) (ds:List ADef):Prop:=
 vqs P G ops l ⟨tm,H,ds⟩ fun s1=>vops P G M ops (onN N E) tl s1
def stQ (P:Program) (G:GT) (M:List Nat) (ops:Array Oper) (N:AS->Prop) (E:AV->AS->Prop) (tl:List Oper) (x:Option AV) (d:Option Nat) (rest:List Oper) (tm:Nat->AV) (H:HM) (ds:List ADef):Prop:=
 match x with
 |some v=>wqs P G M ops N E tl rest (putT d v tm) H ds
 |none=>False
def qgd (P:Program) (G:GT) (M:List Nat) (ops:Array Oper) (N:AS->Prop) (E:AV->AS->Prop) (tl:List Oper) (b:Option Bool) (want:Bool) (o:Oper) (rest:List Oper) (tm:Nat->AV) (H:HM) (ds:List ADef):Prop:=
 if b==some want then wqs P G M ops N E tl (o::rest) tm H ds else wqs P G M ops N E tl rest (putT o.dst .unit tm) H ds
def qcall (P:Program) (G:GT) (M:List Nat) (ops:Array Oper) (N:AS->Prop) (E:AV->AS->Prop) (tl:List Oper) (f:AV) (as:List AV) (d:Option Nat) (rest:List Oper) (tm:Nat->AV) (H:HM) (ds:List ADef):Prop:=
 ∃ v,PureV P G f as H v/\wqs P G M ops N E tl rest (putT d v tm) H ds
theorem vqs_kont (o:Oper) (rest:List Oper) (tm:Nat->AV) (H:HM) (ds:List ADef) (h:o.guard=none) :
  wqs P G M ops N E tl (o::rest) tm H ds=vqx P G (ev G tm) H o fun v=>wqs P G M ops N E tl rest (putT o.dst v tm) H ds:=by
 have:wantA ops o tm=true:=by simp[wantA,h]
 simp only[wqs,vqs,this,if_true,eval_ev]
 refine congrArg _ ?_
 funext v
 obtain ⟨d,_,_,_,_,_⟩:=o;cases d<;>rfl
theorem q_nil (tm:Nat->AV) (H:HM) (ds:List ADef):wqs P G M ops N E tl [] tm H ds=wops P G M ops N E tl tm H ds:=rfl
theorem q_guard (d:Option Nat) (op:Op) (ty:Nat) (pos:String) (af:Array Edge) (j:Nat) (want:Bool) (rest:List Oper) (tm:Nat->AV) (H:HM) (ds:List ADef) :
  wqs P G M ops N E tl (⟨d,op,ty,pos,af,some (j,want)⟩::rest) tm H ds=qgd P G M ops N E tl (gval tm ops[j]?) want ⟨d,op,ty,pos,af,none⟩ rest tm H ds:=by
 have hy:yieldA ops tm j=gval tm ops[j]?:=by
  unfold yieldA gval
  cases ops[j]? with
  |none=>rfl
  |some o=>simp only[Option.bind_some];cases o.dst<;>rfl
 unfold qgd
 rw[<-hy,vqs_kont ⟨d,op,ty,pos,af,none⟩ rest tm H ds rfl]
 simp only[wqs,vqs,wantA]
 by_cases hc:(yieldA ops tm j==some want)=true
 ·simp only[hc,if_true]
  rw[eval_ev]
  have e:∀ K,vqx P G (ev G tm) H ⟨d,op,ty,pos,af,some (j,want)⟩ K=vqx P G (ev G tm) H ⟨d,op,ty,pos,af,none⟩ K:=fun K=>rfl
  rw[e]
  refine congrArg _ ?_
  funext v
  cases d<;>rfl
 ·simp only[hc]
  cases d<;>rfl
theorem qgd_yes (b:Bool) (o:Oper) (rest:List Oper) (tm:Nat->AV) (H:HM) (ds:List ADef):qgd P G M ops N E tl (some b) b o rest tm H ds=wqs P G M ops N E tl (o::rest) tm H ds:=by
 simp[qgd]
theorem qgd_tf (o:Oper) (rest:List Oper) (tm:Nat->AV) (H:HM) (ds:List ADef):qgd P G M ops N E tl (some true) false o rest tm H ds=wqs P G M ops N E tl rest (putT o.dst .unit tm) H ds:=by
 simp[qgd]
theorem qgd_ft (o:Oper) (rest:List Oper) (tm:Nat->AV) (H:HM) (ds:List ADef):qgd P G M ops N E tl (some false) true o rest tm H ds=wqs P G M ops N E tl rest (putT o.dst .unit tm) H ds:=by
 simp[qgd]
theorem qgd_none (want:Bool) (o:Oper) (rest:List Oper) (tm:Nat->AV) (H:HM) (ds:List ADef):qgd P G M ops N E tl none want o rest tm H ds=wqs P G M ops N E tl rest (putT o.dst .unit tm) H ds:=by
 simp[qgd]
theorem q_move (d:Option Nat) (x:Operand) (ty:Nat) (pos:String) (af:Array Edge) (rest:List Oper) (tm:Nat->AV) (H:HM) (ds:List ADef) :
  wqs P G M ops N E tl (⟨d,.move x,ty,pos,af,none⟩::rest) tm H ds=wqs P G M ops N E tl rest (putT d (ev G tm x) tm) H ds:=by
 rw[vqs_kont _ _ _ _ _ rfl];rfl
theorem q_assign (d:Option Nat) (x:Operand) (ty:Nat) (pos:String) (af:Array Edge) (rest:List Oper) (tm:Nat->AV) (H:HM) (ds:List ADef) :
  wqs P G M ops N E tl (⟨d,.assign x,ty,pos,af,none⟩::rest) tm H ds=wqs P G M ops N E tl rest (putT d (ev G tm x) tm) H ds:=by
 rw[vqs_kont _ _ _ _ _ rfl];rfl
theorem stQ_some (v:AV) (d:Option Nat) (rest:List Oper) (tm:Nat->AV) (H:HM) (ds:List ADef):stQ P G M ops N E tl (some v) d rest tm H ds=wqs P G M ops N E tl rest (putT d v tm) H ds:=rfl
theorem q_val (o:Oper) (h:o.guard=none) (hv:byVal o.op=true) (rest:List Oper) (tm:Nat->AV) (H:HM) (ds:List ADef) :
  wqs P G M ops N E tl (o::rest) tm H ds=stQ P G M ops N E tl (vval P (ev G tm) H o) o.dst rest tm H ds:=by
 rw[vqs_kont _ _ _ _ _ h]
 obtain ⟨d,op,ty,pos,af,g⟩:=o
 cases op with
 |call c=>
  obtain ⟨ce,as,ats⟩:=c
  cases ce with
  |builtin b=>cases b<;>first|(cases hv;done)|(unfold stQ vqx;simp only[];split<;>(rename_i hx;rw[hx];try rfl))
  |_=>cases hv
 |_=>first|(cases hv;done)|(unfold stQ vqx;simp only[];split<;>(rename_i hx;rw[hx];try rfl))
theorem q_pick (d:Option Nat) (c a b:Operand) (ty:Nat) (pos:String) (af:Array Edge) (rest:List Oper) (tm:Nat->AV) (H:HM) (ds:List ADef) :
  wqs P G M ops N E tl (⟨d,.pick c a b,ty,pos,af,none⟩::rest) tm H ds=stQ P G M ops N E tl (vpick (ev G tm c) (ev G tm a) (ev G tm b)) d rest tm H ds:=by
 rw[q_val _ rfl rfl]
 refine congrArg (fun v=>stQ P G M ops N E tl v d rest tm H ds) ?_
 unfold vval vpick
 simp only[Array.toList,List.map_cons,List.map_nil]
 generalize ev G tm c=x
 cases x with
 |val v=>cases v<;>rfl
 |_=>rfl
theorem q_load (d:Option Nat) (t:Nat) (x:Operand) (ty:Nat) (pos:String) (af:Array Edge) (rest:List Oper) (tm:Nat->AV) (H:HM) (ds:List ADef) :
  wqs P G M ops N E tl (⟨d,.load t x,ty,pos,af,none⟩::rest) tm H ds=stQ P G M ops N E tl (vload (tiOf P t) (cellsAt H (ev G tm x))) d rest tm H ds:=by
 exact q_val _ rfl rfl _ _ _ _
theorem q_nilCheck (d:Option Nat) (x:Operand) (ty:Nat) (pos:String) (af:Array Edge) (rest:List Oper) (tm:Nat->AV) (H:HM) (ds:List ADef) :
  wqs P G M ops N E tl (⟨d,.nilCheck x,ty,pos,af,none⟩::rest) tm H ds=stQ P G M ops N E tl (vnilc (ev G tm x)) d rest tm H ds:=by
 exact q_val _ rfl rfl _ _ _ _
theorem q_binOp (d:Option Nat) (op:BinOp) (t:Nat) (x y:Operand) (yt:Nat) (ty:Nat) (pos:String) (af:Array Edge) (rest:List Oper) (tm:Nat->AV) (H:HM) (ds:List ADef) :
  wqs P G M ops N E tl (⟨d,.binOp op t x y yt,ty,pos,af,none⟩::rest) tm H ds=stQ P G M ops N E tl (vbin P op t (ev G tm x) (ev G tm y)) d rest tm H ds:=by
 exact q_val _ rfl rfl _ _ _ _
theorem q_unOp (d:Option Nat) (op:UnOp) (t:Nat) (x:Operand) (ty:Nat) (pos:String) (af:Array Edge) (rest:List Oper) (tm:Nat->AV) (H:HM) (ds:List ADef) :
  wqs P G M ops N E tl (⟨d,.unOp op t x,ty,pos,af,none⟩::rest) tm H ds=stQ P G M ops N E tl (vun op (ev G tm x)) d rest tm H ds:=by
 exact q_val _ rfl rfl _ _ _ _
theorem q_fieldAddr (d:Option Nat) (t:Nat) (x:Operand) (i:Nat) (ty:Nat) (pos:String) (af:Array Edge) (rest:List Oper) (tm:Nat->AV) (H:HM) (ds:List ADef) :
  wqs P G M ops N E tl (⟨d,.fieldAddr t x i,ty,pos,af,none⟩::rest) tm H ds=stQ P G M ops N E tl (vfad ((tiOf P t).bind (fieldOf · i)) (ev G tm x)) d rest tm H ds:=by
 exact q_val _ rfl rfl _ _ _ _
theorem q_indexAddr (d:Option Nat) (t:Nat) (x i:Operand) (ty:Nat) (pos:String) (af:Array Edge) (rest:List Oper) (tm:Nat->AV) (H:HM) (ds:List ADef) :
  wqs P G M ops N E tl (⟨d,.indexAddr t x i,ty,pos,af,none⟩::rest) tm H ds=stQ P G M ops N E tl (vixa (tdAt P t) (ev G tm x) (ev G tm i)) d rest tm H ds:=by
 exact q_val _ rfl rfl _ _ _ _
theorem q_slice (d:Option Nat) (t:Nat) (x:Operand) (lo hi mx:Option Operand) (ty:Nat) (pos:String) (af:Array Edge) (rest:List Oper) (tm:Nat->AV) (H:HM) (ds:List ADef) :
  wqs P G M ops N E tl (⟨d,.slice t x lo hi mx,ty,pos,af,none⟩::rest) tm H ds=stQ P G M ops N E tl (vslc (tdAt P t) (ev G tm x) (lo.map (ev G tm)) (hi.map (ev G tm)) (mx.map (ev G tm))) d rest tm H ds:=by
 rw[q_val _ rfl rfl]
 refine congrArg (fun v=>stQ P G M ops N E tl v d rest tm H ds) ?_
 unfold vval vslc
 simp only[Array.toList,List.map_cons,List.map_nil]
 generalize tdAt P t=q
 generalize ev G tm x=x
 cases q with
 |none=>rfl
 |some q=>
  cases q<;>first|rfl|(cases x with
   |val v=>cases v<;>rfl
   |_=>rfl)
theorem q_extract (d:Option Nat) (x:Operand) (i:Nat) (ty:Nat) (pos:String) (af:Array Edge) (rest:List Oper) (tm:Nat->AV) (H:HM) (ds:List ADef) :
  wqs P G M ops N E tl (⟨d,.extract x i,ty,pos,af,none⟩::rest) tm H ds=stQ P G M ops N E tl (vext (ev G tm x) i) d rest tm H ds:=by
 rw[q_val _ rfl rfl]
 refine congrArg (fun v=>stQ P G M ops N E tl v d rest tm H ds) ?_
 unfold vval vext
 simp only[Array.toList,List.map_cons,List.map_nil]
 generalize ev G tm x=x
 cases x<;>rfl
theorem q_build (d:Option Nat) (t:Nat) (parts:Array (Nat×Operand)) (ty:Nat) (pos:String) (af:Array Edge) (rest:List Oper) (tm:Nat->AV) (H:HM) (ds:List ADef) :
  wqs P G M ops N E tl (⟨d,.build t parts,ty,pos,af,none⟩::rest) tm H ds=stQ P G M ops N E tl (vbld (tiOf P t) (parts.toList.map fun p=>(p.1,ev G tm p.2))) d rest tm H ds:=by
 rw[q_val _ rfl rfl]
 refine congrArg (fun v=>stQ P G M ops N E tl v d rest tm H ds) ?_
 unfold vval vbld
 simp only[Array.toList,List.map_cons,List.map_nil]
 generalize tiOf P t=q
 cases q<;>rfl
theorem q_len (d:Option Nat) (x:Operand) (t:Nat) (ty:Nat) (pos:String) (af:Array Edge) (rest:List Oper) (tm:Nat->AV) (H:HM) (ds:List ADef) :
  wqs P G M ops N E tl (⟨d,.call ⟨.builtin .len,#[x],#[t]⟩,ty,pos,af,none⟩::rest) tm H ds=stQ P G M ops N E tl (vlenb H (tdAt P t) (ev G tm x)) d rest tm H ds:=by
 exact q_val _ rfl rfl _ _ _ _
theorem q_max (d:Option Nat) (x y:Operand) (ts:Array Nat) (ty:Nat) (pos:String) (af:Array Edge) (rest:List Oper) (tm:Nat->AV) (H:HM) (ds:List ADef) :
  wqs P G M ops N E tl (⟨d,.call ⟨.builtin .max,#[x,y],ts⟩,ty,pos,af,none⟩::rest) tm H ds=stQ P G M ops N E tl (vmax (ev G tm x) (ev G tm y)) d rest tm H ds:=by
 rw[q_val _ rfl rfl]
 refine congrArg (fun v=>stQ P G M ops N E tl v d rest tm H ds) ?_
 unfold vval vmax
 simp only[Array.toList,List.map_cons,List.map_nil]
 generalize ev G tm x=x
 generalize ev G tm y=y
 cases x with
 |val v=>cases v with
  |int k a=>cases y with
   |val u=>cases u<;>rfl
   |_=>rfl
  |_=>rfl
 |_=>rfl
theorem q_call (d:Option Nat) (f:Operand) (as:Array Operand) (ats:Array Nat) (ty:Nat) (pos:String) (af:Array Edge) (rest:List Oper) (tm:Nat->AV) (H:HM) (ds:List ADef) :
  wqs P G M ops N E tl (⟨d,.call ⟨.value f,as,ats⟩,ty,pos,af,none⟩::rest) tm H ds=qcall P G M ops N E tl (ev G tm f) (as.toList.map (ev G tm)) d rest tm H ds:=by
 rw[vqs_kont _ _ _ _ _ rfl];rfl
theorem q_box (d:Option Nat) (t:Nat) (x:Operand) (ty:Nat) (pos:String) (af:Array Edge) (rest:List Oper) (tm:Nat->AV) (H:HM) (ds:List ADef) :
  wqs P G M ops N E tl (⟨d,.box t x,ty,pos,af,none⟩::rest) tm H ds=((ev G tm x).one=true/\wqs P G M ops N E tl rest (putT d (.ref (ev G tm x).cells) tm) H ds):=by
 rw[vqs_kont _ _ _ _ _ rfl];rfl
def qbs (P:Program) (G:GT) (M:List Nat) (ops:Array Oper) (N:AS->Prop) (E:AV->AS->Prop) (tl:List Oper) (td:Option TD) (len:Nat) (is:List Nat) (xs:List AV) (d:Option Nat) (rest:List Oper) (tm:Nat->AV) (H:HM) (ds:List ADef):Prop:=
 match td with
 |some (.slice e sz)=>if len=0 then is=[]/\wqs P G M ops N E tl rest (putT d .nil0 tm) H ds else
   bsOk P e sz len is xs/\wqs P G M ops N E tl rest (putT d (.list xs) tm) H ds
 |_=>False
theorem q_buildSlice (d:Option Nat) (t len:Nat) (parts:Array (Nat×Operand)) (ty:Nat) (pos:String) (af:Array Edge) (rest:List Oper) (tm:Nat->AV) (H:HM) (ds:List ADef) :
  wqs P G M ops N E tl (⟨d,.buildSlice t len parts,ty,pos,af,none⟩::rest) tm H ds=qbs P G M ops N E tl (tdAt P t) len (parts.toList.map (·.1)) (parts.toList.map fun p=>ev G tm p.2) d rest tm H ds:=by
 rw[vqs_kont _ _ _ _ _ rfl]
 unfold qbs vqx bsOk
 simp only[]
 cases tdAt P t with
 |none=>rfl
 |some td=>
  cases td with
  |slice e sz=>
   simp only[]
   split
   ·simp only[List.map_eq_nil_iff]
   ·simp only[List.mem_map,forall_exists_index,and_imp,forall_apply_eq_imp_iff₂,and_assoc]
  |_=>rfl
theorem qbs_some (e sz len:Nat) (is:List Nat) (xs:List AV) (d:Option Nat) (rest:List Oper) (tm:Nat->AV) (H:HM) (ds:List ADef) :
  qbs P G M ops N E tl (some (.slice e sz)) len is xs d rest tm H ds=if len=0 then (is=[]/\wqs P G M ops N E tl rest (putT d .nil0 tm) H ds) else (bsOk P e sz len is xs/\wqs P G M ops N E tl rest (putT d (.list xs) tm) H ds):=rfl
def PureF (P:Program) (G:GT) (f:FuncId) (args:List AV) (H:HM) (v:AV):Prop:=Plain P f=true/\∀ K:ARes->HM->Prop,K (.ret v) H->CallF P G f args H K
theorem PureF.pureV {f:FuncId} {args:List AV} {H:HM} {v:AV} (h:PureF P G f args H v):PureV P G (.fn f) args H v:=fun K hk=>CallF.callV h.1 (by simpa using h.2 K hk)
theorem D10 {f:FuncId} {args:List AV} {v:AV} {d:Option Nat} {rest:List Oper} {tm:Nat->AV} {H:HM} {ds:List ADef} (h:PureF P G f args H v) (hk:wops P G M ops N E rest (putT d v tm) H ds) :
  wcall P G M ops N E (.func (.func f) [] []) args d rest tm H ds:=h.pureV _ hk
theorem W10 {f:FuncId} {args:List AV} {d:Option Nat} {rest:List Oper} {tm:Nat->AV} {H:HM} {ds:List ADef} (hp:Plain P f=true) (h:CallF P G f args H (kont P G M ops N E d rest tm ds)) :
  wcall P G M ops N E (.func (.func f) [] []) args d rest tm H ds:=CallF.callV hp (by simpa using h)
theorem F11 {f:FuncId} {args:List AV} {v:AV} {d:Option Nat} {rest:List Oper} {tm:Nat->AV} {H:HM} {ds:List ADef} (h:PureF P G f args H v) (hk:wqs P G M ops N E tl rest (putT d v tm) H ds) :
  qcall P G M ops N E tl (.func (.func f) [] []) args d rest tm H ds:=⟨v,h.pureV,hk⟩
theorem R10 (M:List Nat) {id:Nat} {tm:Nat->AV} {H:HM} {ds:List ADef} (h:∀ (N:AS->Prop) (E:AV->AS->Prop),(∀ s',Q .normal s'->N s')->(∀ v s',Q (.pan v) s'->E v s')->wops P G M ops N E ops.toList tm H ds) :
  VW P G n r (.region id ops false) Q ⟨tm,H,ds⟩:=
 (VW_ops M (h _ _ (fun _ h=>h) (fun _ _ h=>h))).mono fun x s hx=>by cases x<;>first|exact hx|exact hx.elim
theorem A10 (M:List Nat) {id:Nat} {y:Code} {tm:Nat->AV} {H:HM} {ds:List ADef} (h:∀ (N:AS->Prop) (E:AV->AS->Prop),(∀ s',VW P G n r y Q s'->N s')->(∀ v s',Q (.pan v) s'->E v s')->wops P G M ops N E ops.toList tm H ds) :
  VW P G n r (.seq (.region id ops false) y) Q ⟨tm,H,ds⟩:=
 I10 (R10 M h)
theorem VW_regqE (M:List Nat) {id:Nat} {tm:Nat->AV} {H:HM} {ds:List ADef} (k:Nat) (hm:P.follows .mixedOrders=true) (hk:headOk ops k=true) (ht:tailOk ops k=true)
  (h:∀ (N:AS->Prop) (E:AV->AS->Prop),(∀ s',Q .normal s'->N s')->(∀ v s',Q (.pan v) s'->E v s')->wqs P G M ops N E (ops.toList.drop k) (ops.toList.take k) tm H ds) :
  VW P G n r (.region id ops true) Q ⟨tm,H,ds⟩:=
 VW.mono (Q:=onN (fun s'=>Q .normal s') (fun v s'=>Q (.pan v) s')) (VW_quiet M k hm hk ht (h _ _ (fun _ h=>h) (fun _ _ h=>h))) fun x s hx=>by cases x<;>first|exact hx|exact hx.elim
theorem V13 (M:List Nat) {id:Nat} {y:Code} {tm:Nat->AV} {H:HM} {ds:List ADef} (k:Nat) (hm:P.follows .mixedOrders=true) (hk:headOk ops k=true) (ht:tailOk ops k=true)
  (h:∀ (N:AS->Prop) (E:AV->AS->Prop),(∀ s',VW P G n r y Q s'->N s')->(∀ v s',Q (.pan v) s'->E v s')->wqs P G M ops N E (ops.toList.drop k) (ops.toList.take k) tm H ds) :
  VW P G n r (.seq (.region id ops true) y) Q ⟨tm,H,ds⟩:=
 I10 (VW_regqE M k hm hk ht h)
theorem T10 {c:Operand} {x y:Code} {t:Bool} {tm:Nat->AV} {H:HM} {ds:List ADef} (hc:ev G tm c=.val (.bool t)) (h1:t=true->VW P G n r x Q ⟨tm,H,ds⟩) (h2:t=false->VW P G n r y Q ⟨tm,H,ds⟩) :
  VW P G n r (.cond c x y) Q ⟨tm,H,ds⟩:=VW_cond (t:=t) (by rw[eval_ev];exact hc) h1 h2
theorem least {p:Nat->Prop}:∀ n,p n->∃ k,p k/\∀ m,p m->k<=m:=by
 intro n
 induction n using Nat.strongRecOn with
 |_ n ih=>
  intro hn
  by_cases h:∃ m,m<n/\p m
  ·obtain ⟨m,h1,h2⟩:=h;exact ih m h1 h2
  ·exact ⟨n,hn,fun m hm=>Nat.le_of_not_lt fun hl=>h ⟨m,hl,hm⟩⟩
open Classical in
theorem C11 {ι:Type} {c:Code} (Inv:ι->AS->Prop) (μ:ι->Nat) (i:ι) (h0:Inv i s) (round:∀ i s,Inv i s->VW P G n r c (AX.then (fun s'=>∃ j,Inv j s'/\μ j<μ i) Q) s):VW P G n r (.loop c) Q s:=by
 have hl:∀ s,(∃ i,Inv i s)->∃ k,(∃ i,Inv i s/\μ i=k)/\∀ m,(∃ i,Inv i s/\μ i=m)->k<=m:=fun s ⟨i,hi⟩=>least (p:=fun k=>∃ i,Inv i s/\μ i=k) (μ i) ⟨i,hi,rfl⟩
 let m:AS->Nat:=fun s=>if h:∃ i,Inv i s then Classical.choose (hl s h) else 0
 have hm:∀ s,(h:∃ i,Inv i s)->(∃ i,Inv i s/\μ i=m s)/\∀ k,(∃ i,Inv i s/\μ i=k)->m s<=k:=by
  intro s h
  have:m s=Classical.choose (hl s h):=dif_pos h
  rw[this];exact Classical.choose_spec (hl s h)
 refine VW_loop (fun s=>∃ i,Inv i s) m ⟨i,h0⟩ ?_
 intro s hs
 obtain ⟨⟨i1,hi1,e1⟩,_⟩:=hm s hs
 refine (round i1 s hi1).mono ?_
 intro x s' hx
 cases x with
 |normal=>
  obtain ⟨j,hj,hlt⟩:=hx
  refine ⟨⟨j,hj⟩,?_⟩
  have:=(hm s' ⟨j,hj⟩).2 _ ⟨j,hj,rfl⟩
  omega
 |_=>exact hx
def gvalA:AV->Option Bool
 |.val (.bool b)=>some b
 |_=>none
theorem upd_self {tm:Nat->AV} {i:Nat} {v:AV} (h:tm i=v):upd tm i v=tm:=by
 funext k;unfold upd;split
 ·rename_i e;rw[e,h]
 ·rfl
theorem B10 {c:Code} {tm:Nat->AV} {H:HM} {ds:List ADef} (i:Nat) (v:AV) (h:tm i=v) (hw:VW P G n r c Q ⟨upd tm i v,H,ds⟩):VW P G n r c Q ⟨tm,H,ds⟩:=by
 rw[upd_self h] at hw;exact hw
theorem upd_eq (tm:Nat->AV) (i:Nat) (v:AV) (k:Nat):upd tm i v k=if k=i then v else tm k:=rfl
theorem putT_some (i:Nat) (v:AV) (tm:Nat->AV):putT (some i) v tm=upd tm i v:=rfl
theorem putT_none (v:AV) (tm:Nat->AV):putT none v tm=tm:=rfl
theorem ev_tmp (G:GT) (tm:Nat->AV) (t:Nat):ev G tm (.tmp t)=tm t:=rfl
theorem ev_func (G:GT) (tm:Nat->AV) (f:Nat):ev G tm (.func f)=.func (.func f) [] []:=rfl
theorem ev_int (G:GT) (tm:Nat->AV) (k:IntKind) (i:Int):ev G tm (.const (.int k i))=.val (.int k i):=rfl
theorem ev_bool (G:GT) (tm:Nat->AV) (b:Bool):ev G tm (.const (.bool b))=.val (.bool b):=rfl
theorem ev_str (G:GT) (tm:Nat->AV) (b:ByteArray):ev G tm (.const (.string b))=.val (.string b):=rfl
theorem ev_slice (G:GT) (tm:Nat->AV):ev G tm (.const (.slice none 0 0))=.nil0:=rfl
theorem ev_map (G:GT) (tm:Nat->AV):ev G tm (.const (.map none))=.val (.map none):=rfl
theorem ev_ptr (G:GT) (tm:Nat->AV):ev G tm (.const (.pointer none))=.val (.pointer none):=rfl
theorem ev_agg (G:GT) (tm:Nat->AV) (cs:Array Value):ev G tm (.const (.agg cs))=.agg (cs.toList.map cst1):=rfl
theorem gval_some (tm:Nat->AV) (d:Nat) (op:Op) (ty:Nat) (pos:String) (af:Array Edge) (g:Option (Nat×Bool)):gval tm (some ⟨some d,op,ty,pos,af,g⟩)=gvalA (tm d):=by
 unfold gval gvalA;rfl
theorem gvalA_unit (x:Array Value):gvalA (.val (.tuple x))=none:=rfl
theorem gvalA_bool (b:Bool):gvalA (.val (.bool b))=some b:=rfl
theorem isMut_some (M:List Nat) (d:Nat):isMut M (some d)=M.contains d:=rfl
theorem isImm_some (M:List Nat) (d:Nat):isImm M (some d)=M.contains (d+1000000):=rfl
theorem cont_nil (d:Nat):([]:List Nat).contains d=false:=rfl
theorem cont_cons (a d:Nat) (l:List Nat):(a::l).contains d=if d=a then true else l.contains d:=by
 by_cases h:d=a<;>simp[h]
end
def VS:=And.intro @w_range <| And.intro @wrg_str <| And.intro @wrg_map <| And.intro @w_next <| And.intro @wnxt_addr <| And.intro @wnx_str <| And.intro @wnx_map <| And.intro @w_entry <| And.intro @w_copy <| And.intro @w_nil <| And.intro @w_guard <| And.intro @wgd_yes <| And.intro @wgd_tf <| And.intro @wgd_ft <| And.intro @wgd_none <| And.intro @w_move <| And.intro @w_assign <| And.intro @stV_some <| And.intro @w_pick <| And.intro @w_load <| And.intro @w_nilCheck <| And.intro @w_binOp <| And.intro @w_unOp <| And.intro @w_convert <| And.intro @w_fieldAddr <| And.intro @w_indexAddr <| And.intro @w_index <| And.intro @w_slice <| And.intro @w_lookup <| And.intro @w_extract <| And.intro @w_build <| And.intro @w_makeFunc <| And.intro @w_makeInterface <| And.intro @w_len <| And.intro @w_min <| And.intro @w_call <| And.intro @w_append <| And.intro @wapp_f <| And.intro @isImm_some <| And.intro @w_box <| And.intro @wbox_t <| And.intro @wbox_f <| And.intro @w_alloc <| And.intro @walloc_some <| And.intro @w_makeMap <| And.intro @w_store <| And.intro @wst_addr <| And.intro @wstA_cells <| And.intro @wstE_some <| And.intro @w_mapUpdate <| And.intro @w_insert <| And.intro @wput_map <| And.intro @wput1_map <| And.intro @w_buildSlice <| And.intro @wbs_some <| And.intro @upd_eq <| And.intro @putT_some <| And.intro @putT_none <| And.intro @ev_tmp <| And.intro @ev_func <| And.intro @ev_int <| And.intro @ev_bool <| And.intro @ev_str <| And.intro @ev_slice <| And.intro @ev_map <| And.intro @ev_ptr <| And.intro @ev_agg <| And.intro @gval_some <| And.intro @gvalA_bool <| And.intro @gvalA_unit <| And.intro @cont_nil <| And.intro @cont_cons @isMut_some
def QS:=And.intro @q_nil <| And.intro @q_guard <| And.intro @qgd_yes <| And.intro @qgd_tf <| And.intro @qgd_ft <| And.intro @qgd_none <| And.intro @q_move <| And.intro @q_assign <| And.intro @stQ_some <| And.intro @q_pick <| And.intro @q_load <| And.intro @q_nilCheck <| And.intro @q_binOp <| And.intro @q_unOp <| And.intro @q_fieldAddr <| And.intro @q_indexAddr <| And.intro @q_slice <| And.intro @q_extract <| And.intro @q_build <| And.intro @q_len <| And.intro @q_max <| And.intro @q_call <| And.intro @q_box <| And.intro @q_buildSlice @qbs_some
def nthF {α:Type}:Nat->List α->Nat->Option α
 |_,[],_=>none
 |i,a::as,k=>if k=i then some a else nthF (i+1) as k
theorem nthF_get {α:Type}:∀ (l:List α) (i k:Nat),i<=k->nthF i l k=l[k-i]?
 |[],_,_,_=>by simp[nthF]
 |a::as,i,k,h=>by
  unfold nthF
  split
  ·rename_i e;subst e;simp
  ·rw[nthF_get as (i+1) k (by omega)]
   have:k-i=(k-(i+1))+1:=by omega
   rw[this,List.getElem?_cons_succ]
theorem nthF_cons {α:Type} (a:α) (as:List α) (i k:Nat):nthF i (a::as) k=if k=i then some a else nthF (i+1) as k:=rfl
theorem arr_nth {α:Type} (l:List α) (k:Nat):l.toArray[k]?=nthF 0 l k:=by rw[nthF_get l 0 k (Nat.zero_le _)];simp
theorem get_nth {α:Type} (l:List α) (k:Nat):l[k]?=nthF 0 l k:=by rw[nthF_get l 0 k (Nat.zero_le _)];simp
def start:Nat->List AV->Nat->AV
 |_,[]=>fun _=>.unit
 |i,a::as=>upd (start (i+1) as) i a
theorem start_eq:∀ (as:List AV) (i k:Nat),start i as (i+k)=as.getD k .unit
 |[],_,_=>rfl
 |a::as,i,0=>by simp[start,upd]
 |a::as,i,k+1=>by
  have:=start_eq as (i+1) k
  simp only[start,upd]
  rw[if_neg (by omega),show i+(k+1)=i+1+k from by omega,this];simp
theorem start_nil (i:Nat):start i []=fun _=>.unit:=rfl
theorem start_cons (i:Nat) (a:AV) (as:List AV):start i (a::as)=upd (start (i+1) as) i a:=rfl
section
variable {P:Program} {G:GT} {H:HM}
theorem A11 {f:FuncId} {fn:Func} {c:Code} {args:List AV} {K:ARes->HM->Prop} (hf:P.funcs[f]?=some fn) (hb:fn.body=some c) (hc:cok fn.ntmps c=true) (hn:args.length<=fn.ntmps)
  (h:VW P G fn.ntmps none c (Fin P G fn K) ⟨start 0 args,H,[]⟩):CallF P G f args H K:=by
 refine CallF_intro hf hb hc hn ?_
 have:(fun i=>args.getD i .unit)=start 0 args:=by
  funext i;have:=start_eq args 0 i;rw[Nat.zero_add] at this;exact this.symm
 rw[this];exact h
theorem P10 {f:FuncId} {fn:Func} {c:Code} {args:List AV} {v:AV} (hf:P.funcs[f]?=some fn) (hb:fn.body=some c) (hp:Plain P f=true) (hc:cok fn.ntmps c=true) (hn:args.length<=fn.ntmps)
  (h:∀ K:ARes->HM->Prop,K (.ret v) H->VW P G fn.ntmps none c (Fin P G fn K) ⟨start 0 args,H,[]⟩):PureF P G f args H v:=
 ⟨hp,fun K hk=>A11 hf hb hc hn (h K hk)⟩
theorem Fin_ret {fn:Func} {K:ARes->HM->Prop} {tm:Nat->AV} {v:AV} (hv:vresults P fn H tm=some v) (hk:K (.ret v) H):Fin P G fn K .ret ⟨tm,H,[]⟩:=
 ⟨(fun d hd=>by cases hd),v,v,H,hv,Drop.refl H,View.refl v,hk⟩
theorem Fin_end {fn:Func} {K:ARes->HM->Prop} {tm:Nat->AV} {v:AV} (hv:vresults P fn H tm=some v) (hk:K (.ret v) H):Fin P G fn K .normal ⟨tm,H,[]⟩:=
 ⟨(fun d hd=>by cases hd),v,v,H,hv,Drop.refl H,View.refl v,hk⟩
theorem Fin_drop {fn:Func} {K:ARes->HM->Prop} {tm:Nat->AV} {H1:HM} {v v':AV} (hv:vresults P fn H tm=some v) (hd:Drop H H1) (hw:View G H H1 v v') (hk:K (.ret v') H1):Fin P G fn K .ret ⟨tm,H,[]⟩:=
 ⟨(fun d hd=>by cases hd),v,v',H1,hv,hd,hw,hk⟩
theorem Drop.trans {H0 H1 H2:HM} (h:Drop H0 H1) (h':Drop H1 H2):Drop H0 H2:=fun b=>by
 rcases h' b with e|e
 ·exact .inl e
 ·rcases h b with e'|e'
  ·exact .inl (e.trans e')
  ·exact .inr (e.trans e')
theorem Drop.upd {b:Nat} {o:AObj} (h:H b=none):Drop (H.upd b o) H:=fun k=>by
 by_cases hk:k=b
 ·subst hk;exact .inl h
 ·exact .inr (HM.upd_ne _ _ hk).symm
theorem G11 {b c:Nat} {o:AObj} (h:(H.upd b o) c=none):c≠b/\H c=none:=by
 unfold HM.upd at h
 split at h
 ·cases h
 ·exact ⟨by assumption,h⟩
theorem K10 {fn:Func} {K:ARes->HM->Prop} {tm:Nat->AV} (t:Nat) (hr:fn.results = #[.tmp t]) (hk:K (.ret (tm t)) H):Fin P G fn K .ret ⟨tm,H,[]⟩:=
 Fin_ret (v:=tm t) (by simp[vresults,vresL,vres,hr]) hk
theorem Fin_retD {fn:Func} {K:ARes->HM->Prop} {tm:Nat->AV} {H1:HM} (t:Nat) (hr:fn.results = #[.tmp t]) (hd:Drop H H1) (hk:K (.ret (tm t)) H1):Fin P G fn K .ret ⟨tm,H,[]⟩:=
 ⟨(fun d hd=>by cases hd),tm t,tm t,H1,by simp[vresults,vresL,vres,hr],hd,View.of_drop hd _,hk⟩
theorem Fin_ret2 {fn:Func} {K:ARes->HM->Prop} {tm:Nat->AV} (t u:Nat) (hr:fn.results = #[.tmp t,.tmp u]) (hk:K (.ret (.tup [tm t,tm u])) H):Fin P G fn K .ret ⟨tm,H,[]⟩:=
 Fin_ret (v:=.tup [tm t,tm u]) (by simp[vresults,vresL,vres,hr]) hk
theorem Fin_ret0 {fn:Func} {K:ARes->HM->Prop} {tm:Nat->AV} (hr:fn.results = #[]) (hk:K (.ret .unit) H):Fin P G fn K .ret ⟨tm,H,[]⟩:=
 Fin_ret (v:=.unit) (by simp[vresults,vresL,vres,hr]) hk
theorem B12 {fn:Func} {tm:Nat->AV} (t:Nat) (h:fn.results = #[.tmp t]):vresults P fn H tm=some (tm t):=by
 simp[vresults,vresL,vres,h]
theorem J11 {fn:Func} {tm:Nat->AV} (h:fn.results = #[]):vresults P fn H tm=some .unit:=by
 simp[vresults,vresL,vres,h]
theorem vbin_i_add (t:Nat) (k:IntKind) (a b:Int):vbin P .add t (.val (.int k a)) (.val (.int k b))=some (.val (.int k (k.wrap (a+b)))):=by simp[vbin]
theorem vbin_i_sub (t:Nat) (k:IntKind) (a b:Int):vbin P .sub t (.val (.int k a)) (.val (.int k b))=some (.val (.int k (k.wrap (a-b)))):=by simp[vbin]
theorem vbin_i_mul (t:Nat) (k:IntKind) (a b:Int):vbin P .mul t (.val (.int k a)) (.val (.int k b))=some (.val (.int k (k.wrap (a*b)))):=by simp[vbin]
theorem vbin_i_eql (t:Nat) (k:IntKind) (a b:Int):vbin P .eql t (.val (.int k a)) (.val (.int k b))=some (.val (.bool (decide (a=b)))):=by simp[vbin]
theorem vbin_i_neq (t:Nat) (k:IntKind) (a b:Int):vbin P .neq t (.val (.int k a)) (.val (.int k b))=some (.val (.bool (!decide (a=b)))):=by simp[vbin]
theorem vbin_i_lss (t:Nat) (k:IntKind) (a b:Int):vbin P .lss t (.val (.int k a)) (.val (.int k b))=some (.val (.bool (decide (a<b)))):=by simp[vbin]
theorem vbin_i_leq (t:Nat) (k:IntKind) (a b:Int):vbin P .leq t (.val (.int k a)) (.val (.int k b))=some (.val (.bool (decide (a<=b)))):=by simp[vbin]
theorem vbin_i_gtr (t:Nat) (k:IntKind) (a b:Int):vbin P .gtr t (.val (.int k a)) (.val (.int k b))=some (.val (.bool (decide (b<a)))):=by simp[vbin]
theorem vbin_i_geq (t:Nat) (k:IntKind) (a b:Int):vbin P .geq t (.val (.int k a)) (.val (.int k b))=some (.val (.bool (decide (b<=a)))):=by simp[vbin]
theorem vbin_s_add (t:Nat) (a b:ByteArray):vbin P .add t (.val (.string a)) (.val (.string b))=if a.size+b.size<=lim then some (.val (.string (a++b))) else none:=rfl
theorem vbin_s_eql (t:Nat) (a b:ByteArray):vbin P .eql t (.val (.string a)) (.val (.string b))=some (.val (.bool (decide (a=b)))):=rfl
theorem vbin_s_neq (t:Nat) (a b:ByteArray):vbin P .neq t (.val (.string a)) (.val (.string b))=some (.val (.bool (!decide (a=b)))):=rfl
def vbb:Option TD->Bool->Option AV
 |some .bool,b=>some (.val (.bool b))
 |_,_=>none
theorem vbb_bool (b:Bool):vbb (some .bool) b=some (.val (.bool b)):=rfl
theorem vbin_b_eql (t:Nat) (a b:Bool):vbin P .eql t (.val (.bool a)) (.val (.bool b))=vbb (tdAt P t) (a==b):=by unfold vbin vbb;cases tdAt P t with
 |none=>rfl
 |some d=>cases d<;>rfl
def vnl (e:Bool):Option TD->AV->Value->Option AV
 |some d,x,n=>(vnil d x n).map fun b=>.val (.bool (if e then b else !b))
 |none,_,_=>none
theorem vbin_m_eql_21 (t:Nat)  : vbin P .eql t (.val (.map none)) (.val (.map none))=vnl true (tdAt P t) (.val (.map none)) (.map none):=by unfold vbin vnl;cases tdAt P t<;>rfl
theorem vbin_m_eql_25 (t:Nat) (es:List (AV×AV)):vbin P .eql t (.imap es) (.val (.map none))=vnl true (tdAt P t) (.imap es) (.map none):=by unfold vbin vnl;cases tdAt P t<;>rfl
theorem vbin_p_neq_28 (t:Nat)  : vbin P .neq t (.val (.pointer none)) (.val (.pointer none))=vnl false (tdAt P t) (.val (.pointer none)) (.pointer none):=by unfold vbin vnl;cases tdAt P t<;>rfl
theorem vbin_p_neq_30 (t:Nat) (cs:List AV):vbin P .neq t (.ref cs) (.val (.pointer none))=vnl false (tdAt P t) (.ref cs) (.pointer none):=by unfold vbin vnl;cases tdAt P t<;>rfl
theorem vnl_m0 (e:Bool) (k v:Nat):vnl e (some (.map k v)) (.val (.map none)) (.map none)=some (.val (.bool e)):=by cases e<;>rfl
theorem vnl_m2 (e:Bool) (k v:Nat) (es:List (AV×AV)):vnl e (some (.map k v)) (.imap es) (.map none)=some (.val (.bool !e)):=by cases e<;>rfl
theorem vnl_p0 (e:Bool):vnl e (some .ptr) (.val (.pointer none)) (.pointer none)=some (.val (.bool e)):=by cases e<;>rfl
theorem vnl_p1 (e:Bool) (cs:List AV):vnl e (some .ptr) (.ref cs) (.pointer none)=some (.val (.bool !e)):=by cases e<;>rfl
theorem vload_some (ti:TI) (cs:List AV):vload (some ti) (some cs)=ldv ti cs:=rfl
theorem ldv_int (k:IntKind) (sz by_:Nat) (zz:AV) (cs:List AV):ldv ⟨.int k,sz,by_,zz⟩ cs=cs.head?:=rfl
theorem ldv_bool  (sz by_:Nat) (zz:AV) (cs:List AV):ldv ⟨.bool,sz,by_,zz⟩ cs=cs.head?:=rfl
theorem ldv_str  (sz by_:Nat) (zz:AV) (cs:List AV):ldv ⟨.str,sz,by_,zz⟩ cs=cs.head?:=rfl
theorem ldv_ptr  (sz by_:Nat) (zz:AV) (cs:List AV):ldv ⟨.ptr,sz,by_,zz⟩ cs=cs.head?:=rfl
theorem ldv_slice (e z:Nat) (sz by_:Nat) (zz:AV) (cs:List AV):ldv ⟨.slice e z,sz,by_,zz⟩ cs=cs.head?:=rfl
theorem ldv_map (e z:Nat) (sz by_:Nat) (zz:AV) (cs:List AV):ldv ⟨.map e z,sz,by_,zz⟩ cs=cs.head?:=rfl
theorem ldv_func  (sz by_:Nat) (zz:AV) (cs:List AV):ldv ⟨.func,sz,by_,zz⟩ cs=cs.head?:=rfl
theorem ldv_struct (fs:List (Nat×Nat×Bool)) (sz by_:Nat) (zz:AV) (cs:List AV):ldv ⟨.struct fs,sz,by_,zz⟩ cs=if sz<=cs.length then some (.agg (cs.take sz)) else none:=rfl
theorem cellsAt_ref (cs:List AV):cellsAt H (.ref cs)=some cs:=rfl
def caA:Option AObj->Nat->Option (List AV)
 |some (.cells _ cs),off=>some (cs.drop off)
 |_,_=>none
def caE:Option AObj->Nat->Nat->Nat->Option (List AV)
 |some (.row _ sz' _ xs),i,sz,off=>if sz=sz' then (xs[i]?).map fun x=>x.cells.drop off else none
 |_,_,_,_=>none
theorem cellsAt_addr (b off:Nat):cellsAt H (.addr b off)=caA (H b) off:=by
 show (match H b with|some (.cells _ cs)=>some (cs.drop off)|_=>none)=_
 cases H b with
 |none=>rfl
 |some o=>cases o<;>rfl
theorem caA_cells (t:Nat) (cs:List AV) (off:Nat):caA (some (.cells t cs)) off=some (cs.drop off):=rfl
theorem cellsAt_elem (b i sz off:Nat):cellsAt H (.elem b i sz off)=caE (H b) i sz off:=by
 show (match H b with|some (.row _ sz' _ xs)=>if sz=sz' then (xs[i]?).map (fun x:AV=>x.cells.drop off) else none|_=>none)=_
 cases H b with
 |none=>rfl
 |some o=>cases o<;>rfl
theorem caE_row (t sz cap:Nat) (xs:List AV) (i off:Nat):caE (some (.row t sz cap xs)) i sz off=(xs[i]?).map fun x=>x.cells.drop off:=by simp[caE]
theorem vpick_s (t:Bool) (a b:AV):vpick (.val (.bool t)) a b=some (if t then a else b):=rfl
theorem vnilc_ref (cs:List AV):vnilc (.ref cs)=some (.ref cs):=rfl
theorem vnilc_addr (b o:Nat):vnilc (.addr b o)=some (.addr b o):=rfl
theorem vun_not (b:Bool):vun .not (.val (.bool b))=some (.val (.bool !b)):=rfl
theorem vconv_int (d:TD) (k k':IntKind) (i:Int):vconv (some d) (some (.int k)) (.val (.int k' i))=some (.val (.int k (k.wrap i))):=rfl
theorem vfad_ref (off fz:Nat) (g:Bool) (cs:List AV):vfad (some (off,fz,g)) (.ref cs)=if fz=0 then none else some (.ref (cs.drop off)):=rfl
theorem vfad_addr (off fz:Nat) (g:Bool) (b o:Nat):vfad (some (off,fz,g)) (.addr b o)=if fz=0 then none else some (.addr b (o+off)):=rfl
theorem vfad_elem (off fz:Nat) (g:Bool) (b i sz o:Nat):vfad (some (off,fz,g)) (.elem b i sz o)=if fz=0 then none else some (.elem b i sz (o+off)):=rfl
theorem fieldOf_struct (fs:List (Nat×Nat×Bool)) (sz by_:Nat) (zz:AV) (i:Nat):fieldOf ⟨.struct fs,sz,by_,zz⟩ i=nthF 0 fs i:=by rw[<-get_nth];rfl
theorem vixa_list (e sz:Nat) (xs:List AV) (k:IntKind) (i:Int):vixa (some (.slice e sz)) (.list xs) (.val (.int k i))=if 0<=i then (xs[i.toNat]?).bind fun x=>if x.cells.length=sz then some (.ref x.cells) else none else none:=rfl
theorem vixa_mlist (e sz b n c:Nat) (k:IntKind) (i:Int):vixa (some (.slice e sz)) (.mlist b n c) (.val (.int k i))=if 0<=i/\i<n then some (.elem b i.toNat sz 0) else none:=rfl
theorem vixa_arr (len e sz:Nat) (cs:List AV) (k:IntKind) (i:Int):vixa (some (.arr len e sz)) (.ref cs) (.val (.int k i))=if 0<=i/\i<len then some (.ref (cs.drop (i.toNat*sz))) else none:=rfl
theorem vix_str (s:ByteArray) (k:IntKind) (i:Int):vix (some .str) (.val (.string s)) (.val (.int k i))=if 0<=i then (s[i.toNat]?).map fun c=>.val (.int .u8 c.toNat) else none:=rfl
theorem vslc_str (s:ByteArray) (lo hi mx:Option AV):vslc (some .str) (.val (.string s)) lo hi mx=vslice lo hi mx (.val (.string s)):=rfl
theorem vslc_list (e sz:Nat) (xs:List AV) (lo hi mx:Option AV):vslc (some (.slice e sz)) (.list xs) lo hi mx=if ∀ x∈xs,x.cells.length=sz then vslice lo hi mx (.list xs) else none:=rfl
theorem vslice_s_hi (s:ByteArray) (k:IntKind) (h:Int):vslice none (some (.val (.int k h))) none (.val (.string s))=if 0<=h/\h<=s.size then some (.val (.string (s.extract 0 h.toNat))) else none:=rfl
theorem vslice_l_lo (xs:List AV) (k:IntKind) (l:Int):vslice (some (.val (.int k l))) none none (.list xs)=if 0<=l/\l<=xs.length then some (.list (xs.drop l.toNat)) else none:=rfl
theorem vslice_l_hi (xs:List AV) (k:IntKind) (h:Int):vslice none (some (.val (.int k h))) none (.list xs)=if 0<=h/\h<=xs.length then some (.list (xs.take h.toNat)) else none:=rfl
theorem entries_imap (es:List (AV×AV)):entriesOf H (.imap es)=some es:=rfl
def eoM:Option AObj->Option (List (AV×AV))
 |some (.map es)=>some es
 |_=>none
theorem entries_map (b:Nat):entriesOf H (.map b)=eoM (H b):=by unfold entriesOf eoM;rfl
theorem eoM_map (es:List (AV×AV)):eoM (some (.map es))=some es:=rfl
theorem keyOf_str (s:ByteArray):keyOf (.val (.string s))=some (.string s):=rfl
theorem keyOf_bool (b:Bool):keyOf (.val (.bool b))=some (.bool b):=rfl
def vlk (kd:Option TD) (ei:Option TI) (es:List (AV×AV)) (key:Value) (ok:Bool):Option AV:=
 match kd,ei with
 |some kd,some ei=>if keyFits kd key&&keysOk kd es then
   (match assoc key es with
    |some v=>some (if ok then .tup [v,.bool true] else v)
    |none=>some (if ok then .tup [ei.zero,.bool false] else ei.zero))
  else none
 |_,_=>none
theorem vlook_map (kt et:Nat) (es:List (AV×AV)) (key:Value) (ok:Bool):vlook P (some (.map kt et)) (some es) (some key) ok=vlk (tdAt P kt) (tiOf P et) es key ok:=rfl
theorem vext_tup (vs:List AV) (i:Nat):vext (.tup vs) i=nthF 0 vs i:=by rw[<-get_nth];rfl
theorem vbld_struct (fs:List (Nat×Nat×Bool)) (sz by_:Nat) (z:List AV) (ps:List (Nat×AV)):vbld (some ⟨.struct fs,sz,by_,.agg z⟩) ps=vval.vbuild fs z ps:=rfl
theorem vbuild_nil (fs:List (Nat×Nat×Bool)) (z:List AV):vval.vbuild fs z []=some (.agg z):=rfl
theorem vbuild_cons (fs:List (Nat×Nat×Bool)) (z:List AV) (i:Nat) (v:AV) (rest:List (Nat×AV)):vval.vbuild fs z ((i,v)::rest)=match nthF 0 fs i with|some (off,sz,_)=>if v.cells.length=sz/\off+sz<=z.length/\v.one=true then vval.vbuild fs (z.take off++v.cells++z.drop (off+sz)) rest else none|none=>none:=by
 rw[vval.vbuild,<-get_nth];rcases fs[i]? with _|⟨a,b,c⟩<;>rfl
theorem vmif_struct (fs:List (Nat×Nat×Bool)) (t:Nat) (x:AV):vmif (some (.struct fs)) t x=some (.iface t x):=rfl
theorem vlen_s (s:ByteArray):vlenb H (some .str) (.val (.string s))=some (.int s.size):=rfl
theorem vlen_l (e z:Nat) (xs:List AV):vlenb H (some (.slice e z)) (.list xs)=some (.int xs.length):=rfl
theorem vmin_i (k:IntKind) (x y:Int):vmin (.val (.int k x)) (.val (.int k y))=some (.val (.int k (if y<x then y else x))):=by simp[vmin]
theorem vmax_i (k:IntKind) (x y:Int):vmax (.val (.int k x)) (.val (.int k y))=some (.val (.int k (if x<y then y else x))):=by simp[vmax]
theorem cells_agg (cs:List AV):(AV.agg cs).cells=cs:=rfl
theorem cells_val (v:Value):(AV.val v).cells=[.val v]:=rfl
theorem cells_list (xs:List AV):(AV.list xs).cells=[.list xs]:=rfl
theorem cells_nil0:AV.nil0.cells=[.nil0]:=rfl
theorem cells_ref (cs:List AV):(AV.ref cs).cells=[.ref cs]:=rfl
theorem cells_addr (b o:Nat):(AV.addr b o).cells=[.addr b o]:=rfl
theorem cells_mlist (b n c:Nat):(AV.mlist b n c).cells=[.mlist b n c]:=rfl
theorem cells_map (b:Nat):(AV.map b).cells=[.map b]:=rfl
theorem cells_imap (es:List (AV×AV)):(AV.imap es).cells=[.imap es]:=rfl
theorem cells_func (f:Fn) (a b:List AV):(AV.func f a b).cells=[.func f a b]:=rfl
theorem one_agg (cs:List AV):(AV.agg cs).one=true:=rfl
theorem one_int (k:IntKind) (i:Int):(AV.val (.int k i)).one=true:=rfl
theorem one_str (s:ByteArray):(AV.val (.string s)).one=true:=rfl
theorem one_bool (b:Bool):(AV.val (.bool b)).one=true:=rfl
theorem one_list (xs:List AV):(AV.list xs).one=true:=rfl
theorem one_ref (cs:List AV):(AV.ref cs).one=true:=rfl
theorem one_addr (b o:Nat):(AV.addr b o).one=true:=rfl
theorem one_mlist (b n c:Nat):(AV.mlist b n c).one=true:=rfl
theorem one_map (b:Nat):(AV.map b).one=true:=rfl
theorem one_imap (es:List (AV×AV)):(AV.imap es).one=true:=rfl
theorem one_func (f:Fn) (a b:List AV):(AV.func f a b).one=true:=rfl
theorem wrap64 {n:Int} (h1 : -9223372036854775808<=n) (h2:n<9223372036854775808):IntKind.i64.wrap n=n:=by
 have e:(2:Int) ^ 64=18446744073709551616:=by decide
 have e':(2:Int) ^ (64-1)=9223372036854775808:=by decide
 unfold IntKind.wrap
 simp only[IntKind.signed,IntKind.bits,Bool.true_and,decide_eq_true_eq,e,e']
 split<;>omega
end
def WS:=And.intro @vbin_i_add <| And.intro @vbin_i_sub <| And.intro @vbin_i_mul <| And.intro @vbin_i_eql <| And.intro @vbin_i_neq <| And.intro @vbin_i_lss <| And.intro @vbin_i_leq <| And.intro @vbin_i_gtr <| And.intro @vbin_i_geq <| And.intro @vbin_s_add <| And.intro @vbin_s_eql <| And.intro @vbin_s_neq <| And.intro @vbb_bool <| And.intro @vbin_b_eql <| And.intro @vbin_m_eql_21 <| And.intro @vbin_m_eql_25 <| And.intro @vbin_p_neq_28 <| And.intro @vbin_p_neq_30 <| And.intro @vnl_m0 <| And.intro @vnl_m2 <| And.intro @vnl_p0 <| And.intro @vnl_p1 <| And.intro @vload_some <| And.intro @ldv_int <| And.intro @ldv_bool <| And.intro @ldv_str <| And.intro @ldv_ptr <| And.intro @ldv_slice <| And.intro @ldv_map <| And.intro @ldv_func <| And.intro @ldv_struct <| And.intro @cellsAt_ref <| And.intro @cellsAt_addr <| And.intro @caA_cells <| And.intro @cellsAt_elem <| And.intro @caE_row <| And.intro @vpick_s <| And.intro @vnilc_ref <| And.intro @vnilc_addr <| And.intro @vun_not <| And.intro @vconv_int <| And.intro @vfad_ref <| And.intro @vfad_addr <| And.intro @vfad_elem <| And.intro @fieldOf_struct <| And.intro @vixa_list <| And.intro @vixa_mlist <| And.intro @vixa_arr <| And.intro @vix_str <| And.intro @vslc_str <| And.intro @vslc_list <| And.intro @vslice_s_hi <| And.intro @vslice_l_lo <| And.intro @vslice_l_hi <| And.intro @entries_imap <| And.intro @entries_map <| And.intro @eoM_map <| And.intro @keyOf_str <| And.intro @keyOf_bool <| And.intro @vlook_map <| And.intro @vext_tup <| And.intro @vbld_struct <| And.intro @vbuild_nil <| And.intro @vbuild_cons <| And.intro @vmif_struct <| And.intro @vlen_s <| And.intro @vlen_l <| And.intro @vmin_i <| And.intro @vmax_i <| And.intro @cells_agg <| And.intro @cells_val <| And.intro @cells_list <| And.intro @cells_nil0 <| And.intro @cells_ref <| And.intro @cells_addr <| And.intro @cells_mlist <| And.intro @cells_map <| And.intro @cells_imap <| And.intro @cells_func <| And.intro @one_agg <| And.intro @one_int <| And.intro @one_str <| And.intro @one_bool <| And.intro @one_list <| And.intro @one_ref <| And.intro @one_addr <| And.intro @one_mlist <| And.intro @one_map <| And.intro @one_imap <| And.intro @one_func <| And.intro @arr_nth <| And.intro @nthF_cons <| And.intro @start_nil <| And.intro @start_cons <| And.intro @List.map_cons.{0,0} <| And.intro @List.map_nil.{0,0} <| And.intro @List.head?_cons.{0} <| And.intro @List.drop_succ_cons.{0} <| And.intro @List.drop_zero.{0} <| And.intro @List.take_succ_cons.{0} <| And.intro @List.take_zero.{0} <| And.intro @List.length_cons.{0} <| And.intro @List.length_nil.{0} <| And.intro @Option.bind_some.{0,0} <| And.intro @Option.map_some.{0,0} <| And.intro @Option.map_none.{0,0} <| And.intro @HM.upd_same <| And.intro @Bool.not_true <| And.intro @Bool.not_false <| And.intro @true_and <| And.intro @and_true <| And.intro @List.cons_append.{0} <| And.intro @List.nil_append.{0} @List.drop_nil.{0}
def Iter (P:Program) (G:GT) (gf:FuncId) (first cap:List AV) (xs:List (List AV)):Prop:=
 Plain P gf=true/\∀ (l:Nat) (I:Nat->HM->Prop) (S:HM->Prop) (H:HM),I 0 H ->
  (∀ i x H',xs[i]?=some x->I i H'->CallV P G (.func (.yield l) [] []) x H' fun r H''=>(r=.ret (.bool true)/\I (i+1) H'')\/(r=.ret (.bool false)/\S H'')) ->
  CallF P G gf (first++[.func (.yield l) [] []]++cap) H fun r H'=>r=.ret .unit/\(I xs.length H'\/S H')
def setPs (ps:List Nat) (xs:List AV) (tm:Nat->AV):Nat->AV:=(ps.zip xs).foldl (fun t p=>upd t p.1 p.2) tm
section
variable {P:Program} {G:GT} {n B:Nat} {Q:AX->AS->Prop} {H H':HM} {w w':World}
theorem R12 {b k:Nat} {o:Obj} (h:k≠b):(w.putObj b o).heap[k]?=w.heap[k]?:=World.putObj_heap_other h
theorem nd_cell {b:Nat} {o:Obj} (hb:isData w b=false) {a:Addr} {v:Value} (hc:w.cell? a=some v):(w.putObj b o).cell? a=some v:=by
 have:a.block≠b:=by
  intro e
  have:=data_of_cell hc
  rw[e,hb] at this;cases this
 unfold World.cell? at *
 rw[R12 this];exact hc
theorem nd_map {b k:Nat} {o:Obj} (hb:isData w b=false) {es:Array MapEntry} {c:Nat} (hm:w.heap[k]?=some (.map es c)):(w.putObj b o).heap[k]?=some (.map es c):=by
 have:k≠b:=by
  rintro rfl
  simp[isData,hm] at hb
 rw[R12 this];exact hm
theorem nd_rep {b:Nat} {o:Obj} (hb:isData w b=false) {a:AV} {v:Value} (h:Rep (Imm H w) w a v):Rep (Imm H (w.putObj b o)) (w.putObj b o) a v:=
 h.keep2 (fun k hk _=>⟨by simpa using hk.1,hk.2⟩) (fun _ _ _ hc=>nd_cell hb hc) (fun _ _ _ _ hm=>nd_map hb hm)
theorem nd_repL {b:Nat} {o:Obj} (hb:isData w b=false) {a:List AV} {v:List Value} (h:RepL (Imm H w) w a v):RepL (Imm H (w.putObj b o)) (w.putObj b o) a v:=
 h.keep2 (fun k hk _=>⟨by simpa using hk.1,hk.2⟩) (fun _ _ _ hc=>nd_cell hb hc) (fun _ _ _ _ hm=>nd_map hb hm)
theorem RepO.keep2 {I I':Nat->Prop} {b:Nat} {o:AObj} (h:RepO I w b o) (hI:∀ b,I b->isData w b=true->I' b) (hc:∀ a v,I a.block->w.cell? a=some v->w'.cell? a=some v)
  (hm:∀ b es c,I b->w.heap[b]?=some (.map es c)->w'.heap[b]?=some (.map es c)) (hs:w'.heap[b]?=w.heap[b]?):RepO I' w' b o:=by
 cases o<;>simp only[RepO] at h ⊢ <;> rw[hs]
 ·obtain ⟨vs,h1,h2,h3⟩:=h;exact ⟨vs,h1,h2.keep2 hI hc hm,h3⟩
 ·obtain ⟨vs,rest,h1,h2,h3⟩:=h;exact ⟨vs,rest,h1,h2.keep2 hI hc hm,h3⟩
 ·obtain ⟨es,c,h1,h2,h3,h4⟩:=h;exact ⟨es,c,h1,h2.keep2 hI hc hm,h3.keep2 hI hc hm,h4⟩
 ·exact ⟨h.1,fun t=>(h.2 t).keep2 hI hc hm⟩
 ·exact h
 ·obtain ⟨m,si,sb,la,h1,h2⟩:=h
  refine ⟨m,si,sb,la,h1,h2.imp id ?_⟩
  rintro ⟨r,ents,e1,e2,e3,e4,e5,e6,e7,e8⟩
  exact ⟨r,ents,e1,hI _ e2 (by simp[isData,e3]),hm _ _ _ e2 e3,e4,e5,e6.keep2 hI hc hm,e7.keep2 hI hc hm,e8⟩
theorem nd_st {b:Nat} {o:Obj} (hb:isData w b=false) (hn:H b=none) (h:St G H w):St G H (w.putObj b o):=by
 refine ⟨fun k ob e=>?_,fun g cs e=>(h.glob g cs e).map (fun hi _=>⟨by simpa using hi.1,hi.2⟩) (fun _ hd=>R12 (by rintro rfl;rw[hb] at hd;cases hd)) fun hr=>nd_repL hb hr⟩
 have:k≠b:=by rintro rfl;rw[hn] at e;cases e
 exact (h.obj k ob e).keep2 (fun k hk _=>⟨by simpa using hk.1,hk.2⟩) (fun _ _ _ hc=>nd_cell hb hc) (fun _ _ _ _ hm=>nd_map hb hm) (R12 this)
theorem G13 {b:Nat} {r:Loop} (h:w.heap[b]?=some (.loop r)):isData w b=false:=by simp[isData,h]
theorem RepDs.lt {b:Nat}:∀ {as:List ADef} {ds:List Deferred},RepDs B H w as ds->.mark b∈as->b<w.heap.size
 |_,_,.cons _ h hs,hm=>by
  rcases List.mem_cons.1 hm with e|e
  ·subst e;exact (Array.getElem?_eq_some_iff.1 h.2.1).1
  ·exact hs.lt e
theorem HM.del_upd {b:Nat} (o:AObj) (h:H b=none):(H.upd b o).del b=H:=by
 funext k;simp only[HM.del,HM.upd];split
 ·rename_i e;rw[e,h]
 ·rfl
theorem HM.upd_del {b:Nat} {o:AObj} (h:H b=some o):(H.del b).upd b o=H:=by
 funext k;simp only[HM.del,HM.upd];split
 ·rename_i e;rw[e,h]
 ·rfl
theorem drop_del (b:Nat):Drop H (H.del b):=fun k=>by
 simp only[HM.del];split<;>simp
theorem HM.del_same (b:Nat):(H.del b) b=none:=by simp[HM.del]
theorem foldl_set {I:Nat->Prop}:∀ (ps:List Nat) (xs:List AV) (vs:List Value) (tmps:Array Value) (tm:Nat->AV),(∀ p∈ps,p<tmps.size)->RepL I w xs vs ->
  (∀ t,Rep I w (tm t) (tmps.getD t undef)) ->
  ((ps.zip vs).foldl (fun t (p:Nat×Value)=>t.setIfInBounds p.1 p.2) tmps).size=tmps.size /\
  ∀ t,Rep I w (setPs ps xs tm t) (((ps.zip vs).foldl (fun t (p:Nat×Value)=>t.setIfInBounds p.1 p.2) tmps).getD t undef)
 |[],_,_,tmps,tm,_,_,h=>⟨rfl,h⟩
 |p::ps,_,_,tmps,tm,_,.nil,h=>⟨rfl,h⟩
 |p::ps,_,_,tmps,tm,hp,.cons (a:=a) (v:=v) hr hrs,h=>by
  have:=foldl_set ps _ _ (tmps.setIfInBounds p v) (upd tm p a) (fun q hq=>by simpa using hp q (by simp[hq])) hrs (fun t=>by
   unfold upd
   split
   ·rename_i e
    subst e
    have hlt:=hp t (by simp)
    have:(tmps.setIfInBounds t v).getD t undef=v:=by simp[Array.getD_eq_getD_getElem?,hlt]
    rw[this];exact hr
   ·rename_i e
    have:(tmps.setIfInBounds p v).getD t undef=tmps.getD t undef:=by
     simp[Array.getD_eq_getD_getElem?,Array.getElem?_setIfInBounds_ne (Ne.symm e)]
    rw[this];exact h t)
  obtain ⟨h1,h2⟩:=this
  refine ⟨?_,?_⟩
  ·simpa using h1
  ·intro t;simpa[setPs] using h2 t
def RQ (Inv:HM->Prop) (J:AX->HM->Prop):AX->AS->Prop
 |.normal,s=>s.defs=[]/\∃ H1,Drop s.H H1/\Inv H1
 |.ret,s=>s.defs=[]/\∃ H1,Drop s.H H1/\J .ret H1
 |.exit i,s=>s.defs=[]/\∃ H1,Drop s.H H1/\J (.exit i) H1
 |.goto i,s=>s.defs=[]/\∃ H1,Drop s.H H1/\J (.goto i) H1
 |.pan _,_=>False
def AQ (P:Program) (G:GT) (n:Nat) (l:Nat) (body:Code) (Q:AX->AS->Prop):AX->AS->Prop
 |.normal,s=>s.defs=[]/\VW P G n (some l) body Q s
 |_,_=>False
def jumpOf:AX->Option Code
 |.ret=>some .ret
 |.exit i=>some (.exit i)
 |.goto i=>some (.goto i)
 |_=>none
def exitJump:Exit->Option (Option Code)
 |.normal=>some none
 |.ret=>some (some .ret)
 |.exit i=>some (some (.exit i))
 |.goto i=>some (some (.goto i))
 |_=>none
theorem roundPost_of {l:Nat} {R:Ending->World->Prop} {e:Exit} {a:Act} {w:World} {j:Option Code} {rec:Loop} (he:exitJump e=some j) (hl:w.heap[l]?=some (.loop rec))
  (h:R (.returned (.bool j.isNone)) (w.putObj l (.loop { rec with state:=if j.isNone then .ready else .done,pending:=j }))):roundPost P l R e a w:=by
 cases e<;>simp only[exitJump,Option.some.injEq] at he<;>first|(cases he;done)|skip
 all_goals (subst he;exact ⟨_,_,run_endRound _ hl,h⟩)
theorem yield_call {l:Nat} {rec:Loop} {tm:Nat->AV} {ps:List Nat} {assign body:Code} {Inv:HM->Prop} {J:AX->HM->Prop} {x:List AV} {H:HM} {K:ARes->HM->Prop}
  (hps:rec.params=ps.toArray) (hlen:x.length=ps.length) (hass:rec.assign=assign) (hbod:rec.body=body) (hst0:rec.state=.ready) (hsz:rec.tmps.size=n) (hpn:∀ p∈ps,p<n)
  (hl:H l=some (.loop rec tm)) (hca:cok n assign=true) (hcb:cok n body=true)
  (h:VW P G n (some l) assign (AQ P G n l body (RQ Inv J)) ⟨setPs ps x tm,H.del l,[]⟩)
  (hK1:∀ H1,H1 l=none->Inv H1->K (.ret (.bool true)) (H1.upd l (.loop { rec with state:=.ready,pending:=none } tm)))
  (hK2:∀ H1 X c,H1 l=none->jumpOf X=some c->J X H1->K (.ret (.bool false)) (H1.upd l (.loop { rec with state:=.done,pending:=some c } tm))) :
  CallV P G (.func (.yield l) [] []) x H K:=by
 intro w f vs hf hx hst
 cases hf with
 |func h1 h2=>
  cases h1;cases h2
  obtain ⟨hr1,hr2⟩:=hst.obj _ _ hl
  have hxl:=hx.length
  have hrun:=run_yield (P:=P) (args:=vs.toArray) hr1 (by simp[hps];omega)
  have e:((do let d <- Deferred.ofValue (.func (.yield l) [].toArray [].toArray) vs.toArray;invoke d.target d.args:Sem Next).run P w)=(Instr.yield l vs.toArray).run P w:=by
   simp[Deferred.ofValue,Sem.run_bind,Sem.run_pure,Result.andThen,invoke]
  rw[e,hrun]
  show RoundIn wide 0 P l rec.fn _ rec.assign rec.body w _
  refine roundIn_of_wpIn trivial ?_
  rw[hass,hbod]
  -- the loop's record is let go while the text runs
  have hdel:=drop_del (H:=H) l
  have he0:Evo H w (H.del l) w:=(Evo.refl H w).drop hdel
  have hst1:St G (H.del l) w:=hst.drop hdel
  obtain ⟨f1,f2⟩:=foldl_set (I:=Imm (H.del l) w) (w:=w) ps x vs rec.tmps tm (by rw[hsz];exact hpn) (he0.repL hx) (fun t=>he0.rep (hr2 t))
  have hfold:(rec.params.zip vs.toArray).foldl (fun tmps (t,a)=>tmps.setIfInBounds t a) rec.tmps=(ps.zip vs).foldl (fun t (p:Nat×Value)=>t.setIfInBounds p.1 p.2) rec.tmps:=by
   rw[hps];simp[<-Array.foldl_toList]
  rw[hfold]
  have hs1:Sim G n 0 ⟨setPs ps x tm,H.del l,[]⟩ { tmps:=(ps.zip vs).foldl (fun t (p:Nat×Value)=>t.setIfInBounds p.1 p.2) rec.tmps,defers:=[] } w:=
   ⟨by rw[f1,hsz],f2,hst1,.nil,Nat.zero_le _⟩
  refine wpIn_mono (h hca 0 _ w hs1) ?_
  rintro e1 a1 w1 ⟨x1,s1,q1,hx1,hsim1,hev1⟩
  cases x1<;>first|exact q1.elim|skip
  cases e1<;>first|exact hx1.elim|skip
  obtain ⟨hd1,hb1⟩:=q1
  have himl:Imm (H.del l) w l:=⟨(Array.getElem?_eq_some_iff.1 hr1).1,HM.del_same l⟩
  have hl1:w1.heap[l]?=some (.loop rec):=(hev1.same l himl).trans hr1
  have hn1:s1.H l=none:=(hev1.imm l himl).2
  refine ⟨_,run_beginRound hl1 hst0,?_⟩
  have hsim2:Sim G n 0 s1 a1 (w1.putObj l (.loop { rec with state:=.busy })):=by
   refine ⟨hsim1.size,fun t=>nd_rep (G13 hl1) (hsim1.tmp t),nd_st (G13 hl1) hn1 hsim1.st,?_,Nat.zero_le _⟩
   have:=hsim1.defs
   rw[hd1] at this ⊢
   cases hds:a1.defers with
   |nil=>exact .nil
   |cons d ds=>rw[hds] at this;cases this
  refine wpIn_mono (hb1 hcb 0 a1 _ hsim2) ?_
  rintro e2 a2 w2 ⟨x2,s2,q2,hx2,hsim3,hev2⟩
  have hlt1:l<w1.heap.size:=(Array.getElem?_eq_some_iff.1 hl1).1
  have hl1':(w1.putObj l (.loop { rec with state:=.busy })).heap[l]?=some (.loop { rec with state:=.busy }):=by
   rw[World.putObj_heap_same hlt1]
  have himl2:Imm s1.H (w1.putObj l (.loop { rec with state:=.busy })) l:=⟨by simpa using hlt1,hn1⟩
  have hl2:w2.heap[l]?=some (.loop { rec with state:=.busy }):=(hev2.same l himl2).trans hl1'
  have hn2:s2.H l=none:=(hev2.imm l himl2).2
  have hlt2:l<w2.heap.size:=(Array.getElem?_eq_some_iff.1 hl2).1
  -- the record is taken up again
  have fin:∀ (j:Option Code) (H1:HM),Drop s2.H H1->exitJump e2=some j ->
    K (.ret (.bool j.isNone)) (H1.upd l (.loop { rec with state:=if j.isNone then .ready else .done,pending:=j } tm)) ->
    roundPost P l (fun
     |.returned v,w''=>Out G H w (fun a=>K (.ret a)) v w''
     |.panicked chain,w''=>∃ v,chain=[{ v,recovered:=false }]/\Out G H w (fun a=>K (.pan a)) v w''
     |.outgrown,_=>False) e2 a2 w2:=by
   intro j H1 hd hej hk
   refine roundPost_of hej hl2 ?_
   have hn3:H1 l=none:=by rcases hd l with e|e<;>simp[e,hn2]
   have hst3:St G H1 w2:=hsim3.st.drop hd
   generalize hrec:({ rec with state:=if j.isNone then .ready else .done,pending:=j }:Loop)=rec' at hk
   have hrt:rec'.tmps=rec.tmps:=by rw[<-hrec]
   show Out G H w (fun a=>K (.ret a)) (.bool j.isNone) (w2.putObj l (.loop rec'))
   have hevAll:Evo H w (H1.upd l (.loop rec' tm)) (w2.putObj l (.loop rec')):=by
    have e3:Evo (H.del l) w s1.H w1:=hev1
    have e5:Evo s1.H (w1.putObj l (.loop { rec with state:=.busy })) H1 w2:=hev2.drop hd
    refine ⟨?_,?_,?_,?_,fun b hb=>?_⟩
    ·have:=e5.os;have:=e3.os;simp_all[World.putObj]
    ·have:=e5.tape;have:=e3.tape;simp_all[World.putObj]
    ·have:=e5.output;have:=e3.output;simp_all[World.putObj]
    ·have h1:=e3.size;have h2:=e5.size
     simp only[World.putObj_size] at h2 ⊢
     omega
    ·have hbl:b≠l:=by rintro rfl;have:=hb.2;rw[hl] at this;cases this
     have hb1:Imm (H.del l) w b:=⟨hb.1,by simp[HM.del,hbl,hb.2]⟩
     have hb2:=e3.imm b hb1
     have hb3:Imm s1.H (w1.putObj l (.loop { rec with state:=.busy })) b:=⟨by simpa using hb2.1,hb2.2⟩
     refine ⟨by rw[HM.upd_ne _ _ hbl];exact (e5.imm b hb3).2,?_⟩
     rw[R12 hbl,e5.same b hb3,R12 hbl,e3.same b hb1]
   have hrepUp:∀ {a:AV} {v:Value},Rep (Imm H1 w2) w2 a v->Rep (Imm (H1.upd l (.loop rec' tm)) (w2.putObj l (.loop rec'))) (w2.putObj l (.loop rec')) a v:=fun hr=>
    hr.keep2 (fun k hk hdk=>⟨by simpa using hk.1,by
     have:k≠l:=by rintro rfl;rw[G13 hl2] at hdk;cases hdk
     rw[HM.upd_ne _ _ this];exact hk.2⟩) (fun _ _ _ hc=>nd_cell (G13 hl2) hc) (fun _ _ _ _ hm=>nd_map (G13 hl2) hm)
   have hrepUpL:∀ {a:List AV} {v:List Value},RepL (Imm H1 w2) w2 a v->RepL (Imm (H1.upd l (.loop rec' tm)) (w2.putObj l (.loop rec'))) (w2.putObj l (.loop rec')) a v:=fun hr=>
    hr.keep2 (fun k hk hdk=>⟨by simpa using hk.1,by
     have:k≠l:=by rintro rfl;rw[G13 hl2] at hdk;cases hdk
     rw[HM.upd_ne _ _ this];exact hk.2⟩) (fun _ _ _ hc=>nd_cell (G13 hl2) hc) (fun _ _ _ _ hm=>nd_map (G13 hl2) hm)
   refine ⟨.bool j.isNone,_,hk,.val _ trivial,⟨fun k ob e=>?_,fun g cs e=>(hst3.glob g cs e).map (fun hi hdk=>⟨by simpa using hi.1,by
     have:g≠l:=by rintro rfl;rw[G13 hl2] at hdk;cases hdk
     rw[HM.upd_ne _ _ this];exact hi.2⟩) (fun _ hdk=>R12 (by rintro rfl;rw[G13 hl2] at hdk;cases hdk)) fun hr=>hrepUpL hr⟩,hevAll⟩
   by_cases hkl:k=l
   ·subst hkl
    rw[HM.upd_same] at e
    cases e
    refine ⟨World.putObj_heap_same hlt2,fun t=>?_⟩
    rw[hrt]
    exact hevAll.rep (hr2 t)
   ·rw[HM.upd_ne _ _ hkl] at e
    refine (hst3.obj k ob e).keep2 (fun k hk hdk=>⟨by simpa using hk.1,?_⟩) (fun _ _ _ hc=>nd_cell (G13 hl2) hc) (fun _ _ _ _ hm=>nd_map (G13 hl2) hm) (R12 hkl)
    have:k≠l:=by rintro rfl;rw[G13 hl2] at hdk;cases hdk
    rw[HM.upd_ne _ _ this];exact hk.2
  have hnone:∀ H1,Drop s2.H H1->H1 l=none:=fun H1 hd=>by rcases hd l with e|e<;>simp[e,hn2]
  cases x2 with
  |normal=>
   obtain ⟨hd2,H1,hdr,hi⟩:=q2
   cases e2<;>first|exact hx2.elim|skip
   exact fin none H1 hdr rfl (hK1 H1 (hnone H1 hdr) hi)
  |ret=>
   obtain ⟨hd2,H1,hdr,hi⟩:=q2
   cases e2<;>first|exact hx2.elim|skip
   exact fin (some .ret) H1 hdr rfl (hK2 H1 .ret _ (hnone H1 hdr) rfl hi)
  |exit i=>
   obtain ⟨hd2,H1,hdr,hi⟩:=q2
   cases e2<;>first|exact hx2.elim|skip
   rename_i i'
   obtain rfl:i=i':=hx2
   exact fin (some (.exit i)) H1 hdr rfl (hK2 H1 (.exit i) _ (hnone H1 hdr) rfl hi)
  |goto i=>
   obtain ⟨hd2,H1,hdr,hi⟩:=q2
   cases e2<;>first|exact hx2.elim|skip
   rename_i i'
   obtain rfl:i=i':=hx2
   exact fin (some (.goto i)) H1 hdr rfl (hK2 H1 (.goto i) _ (hnone H1 hdr) rfl hi)
  |pan v=>exact q2.elim
theorem W_round:(W none).round=none:=rfl
theorem C12 {g:Operand} {ps:Array Nat} {assign body:Code} {gf:FuncId} {first cap:List AV} {xs:List (List AV)} {tm:Nat->AV} {H:HM} {ds:List ADef}
  (hg:ev G tm g=.func (.func gf) first cap) (hI:Iter P G gf first cap xs) (hlen:∀ x∈xs,x.length=ps.size) (Inv:Nat->HM->Prop) (J:AX->HM->Prop) (h0:Inv 0 H)
  (round:∀ l i x H',xs[i]?=some x->Inv i H'->VW P G n (some l) assign (AQ P G n l body (RQ (Inv (i+1)) J)) ⟨setPs ps.toList x tm,H',[]⟩)
  (done:∀ D H',Inv xs.length H'->H' D=none->.mark D∉ds->Q .normal ⟨tm,H',.mark D::ds⟩)
  (jump:∀ D X H' c,J X H'->jumpOf X=some c->H' D=none->.mark D∉ds->Q X ⟨tm,H',.mark D::ds⟩) :
  VW P G n none (.rangeFunc g ps assign body) Q ⟨tm,H,ds⟩:=by
 intro hc B a w hs
 simp only[cok,Bool.and_eq_true] at hc
 obtain ⟨⟨⟨hc1,hc2⟩,hc3⟩,hc4⟩:=hc
 refine wpIn_rangeFunc fun fn _=>?_
 generalize hrec:({ state:=.ready,pending:=none,fn:=fn,tmps:=a.tmps,params:=ps,assign:=assign,body:=body,defers:=w.heap.size }:Loop)=rec
 have hrecF:rec.params=ps/\rec.assign=assign/\rec.body=body/\rec.state=.ready/\rec.tmps=a.tmps/\rec.pending=none:=by rw[<-hrec];exact ⟨rfl,rfl,rfl,rfl,rfl,rfl⟩
 obtain ⟨g1,g2,g3,g4,g5,g6⟩:=hrecF
 have hrecE:({ rec with state:=.ready,pending:=none }:Loop)=rec:=by rw[<-hrec]
 generalize hD:w.heap.size=D at *
 have hDs:D=w.heap.size:=hD.symm
 -- the world in which the function is called
 generalize hw1:((w.alloc (.deferred (some []))).alloc (.loop rec))=w1
 have hal:∀ (w:World) (o:Obj),w.alloc o={ w with heap:=w.heap.push o }:=fun w o=>rfl
 have hst0:St G H (w.alloc (.deferred (some []))):=by rw[hal];exact hs.st.push _
 have hev0:Evo H w H (w.alloc (.deferred (some []))):=by rw[hal];exact evo_push H w _
 have hsz0:(w.alloc (.deferred (some []))).heap.size=D+1:=by rw[hal];simp[hD]
 have hevN:Evo H (w.alloc (.deferred (some []))) (H.upd (D+1) (.loop rec tm)) w1:=by
  rw[<-hw1,hal (w.alloc _),<-hsz0];exact T13 hst0
 have hev1:Evo H w (H.upd (D+1) (.loop rec tm)) w1:=hev0.trans hevN
 have hl1:w1.heap[D+1]?=some (.loop rec):=by rw[<-hw1,<-hsz0];exact World.alloc_heap_new _ _
 have hst1:St G (H.upd (D+1) (.loop rec tm)) w1:=by
  have:=hst0.new (o:=.loop rec) (ao:=.loop rec tm)
  rw[<-hal,hsz0,hw1] at this
  refine this ⟨hl1,fun t=>?_⟩
  rw[g5];exact hev1.rep (hs.tmp t)
 have hHl:H (D+1)=none:=hst0.fresh (by omega)
 have hHD:H D=none:=hs.st.fresh (by omega)
 have hdef0:(w.alloc (.deferred (some []))).heap[D]?=some (.deferred (some [])):=by rw[<-hD];exact World.alloc_heap_new _ _
 have hdef1:w1.heap[D]?=some (.deferred (some [])):=by
  rw[<-hw1,hal (w.alloc _),heap_push _ _ (by omega)];exact hdef0
 have hmk:.mark D∉ds:=fun hm=>by have:=hs.defs.lt hm;omega
 have hgr:=hs.eval (x:=g) hc1
 rw[eval_ev,hg] at hgr
 generalize hgv:a.eval g=gv at hgr
 cases hgr with
 |func hf hcp=>
  rename_i vf vc
  refine ⟨D+1,[{ target:=.collected D,args := #[] }],w1,{ target:=.fn (.func gf) vc.toArray,args:=vf.toArray ++ #[Value.func (.yield (D+1)) #[] #[]] },w1,gf,(vf++[Value.func (.yield (D+1)) #[] #[]]++vc).toArray,w1,?_,?_,(fun _ _=>trivial),?_,(fun h=>by simp[W,Fence.wide] at h),?_⟩
  ·rw[W_round,run_enterLoop_outer,hD,hrec,hw1]
  ·simp only[resolve,rangeCall,hgv]
   simp[Deferred.ofValue,Sem.run_pure,Act.eval]
  ·simp only[invoke,run_callFunc hI.1]
   simp
  ·have hargs:RepL (Imm (H.upd (D+1) (.loop rec tm)) w1) w1 (first++[.func (.yield (D+1)) [] []]++cap) (vf++[Value.func (.yield (D+1)) #[] #[]]++vc):=
    ((hev1.repL hf).append (.cons (.func .nil .nil) .nil)).append (hev1.repL hcp)
   have hcall:=hI.2 (D+1) (fun i H''=>∃ H',H' (D+1)=none/\Inv i H'/\H''=H'.upd (D+1) (.loop rec tm))
    (fun H''=>∃ H' X c,H' (D+1)=none/\jumpOf X=some c/\J X H'/\H''=H'.upd (D+1) (.loop { rec with state:=.done,pending:=some c } tm))
    (H.upd (D+1) (.loop rec tm)) ⟨H,hHl,h0,rfl⟩ (by
     rintro i x _ hx ⟨H',hn',hinv,rfl⟩
     refine yield_call (n:=n) (ps:=ps.toList) (rec:=rec) (tm:=tm) (assign:=assign) (body:=body) (Inv:=Inv (i+1)) (J:=J) (by simp[g1]) (by have:=hlen x (List.mem_of_getElem? hx);simpa using this) g2 g3 g4 (by rw[g5];exact hs.size) ?_ (HM.upd_same _ _ _) hc3 hc4 ?_ ?_ ?_
     ·intro p hp
      have:=Array.all_eq_true_iff_forall_mem.1 hc2 p (by simpa using hp)
      simpa using this
     ·rw[HM.del_upd _ hn'];exact round _ i x H' hx hinv
     ·intro H1 hn1 hi1
      rw[hrecE]
      exact .inl ⟨rfl,H1,hn1,hi1,rfl⟩
     ·intro H1 X c hn1 hj hJ
      exact .inr ⟨rfl,H1,X,c,hn1,hj,hJ,rfl⟩)
   refine CallsIn.mono (callsIn_W.1 (hcall w1 _ hargs hst1)) fun e w' he=>?_
   -- behind the call
   have after:∀ (H':HM) (rec':Loop),H' (D+1)=none->St G (H'.upd (D+1) (.loop rec' tm)) w'->Evo (H.upd (D+1) (.loop rec tm)) w1 (H'.upd (D+1) (.loop rec' tm)) w'->rec'.state≠.busy ->
     ∃ w4,(Instr.endLoop (D+1)).run P w'=.ok rec'.pending w4/\Sim G n B ⟨tm,H',.mark D::ds⟩ { a with defers:=[{ target:=.collected D,args := #[] }]++a.defers } w4/\Evo H w H' w4/\H' D=none:=by
    intro H' rec' hn' hst' hev' hbusy
    obtain ⟨hlw,_⟩:=hst'.obj _ _ (HM.upd_same _ _ _)
    have hlt:D+1<w'.heap.size:=(Array.getElem?_eq_some_iff.1 hlw).1
    have hdr:Drop (H'.upd (D+1) (.loop rec' tm)) H':=Drop.upd hn'
    have hevW:Evo H w H' w':=(hev1.trans hev').drop hdr
    have hev4:Evo H w H' (w'.putObj (D+1) (.loop { rec' with state:=.exhausted })):=by
     refine ⟨hevW.os,hevW.tape,hevW.output,by simpa using hevW.size,fun b hb=>⟨(hevW.block b hb).1,?_⟩⟩
     rw[R12 (by have:=hb.1;omega)];exact (hevW.block b hb).2
    have imD:Imm (H.upd (D+1) (.loop rec tm)) w1 D:=⟨(Array.getElem?_eq_some_iff.1 hdef1).1,by rw[HM.upd_ne _ _ (by omega)];exact hHD⟩
    have hD':H' D=none:=by have:=(hev'.imm D imD).2;rwa [HM.upd_ne _ _ (by omega)] at this
    refine ⟨_,run_endLoop hlw hbusy,⟨hs.size,fun t=>hev4.rep (hs.tmp t),nd_st (G13 hlw) hn' (hst'.drop hdr),?_,Nat.le_trans hs.big hev4.size⟩,hev4,hD'⟩
    refine .cons (fun b hb hm=>?_) ⟨rfl,?_,hD',by have:=hs.big;omega⟩ (hs.defs.evo hev4)
    ·cases hb;exact hmk hm
    ·rw[R12 (by omega),hev'.same D imD];exact hdef1
   cases e with
   |returned v=>
    obtain ⟨av,H'',⟨hr,hk⟩,hrep,hst',hev'⟩:=he
    rcases hk with ⟨H',hn',hinv,rfl⟩|⟨H',X,c,hn',hj,hJ,rfl⟩
    ·obtain ⟨w4,e1,e2,e3,e4⟩:=after H' rec hn' hst' hev' (by rw[g4];simp)
     refine ⟨_,w4,e1,?_⟩
     rw[g6]
     exact ⟨.normal,_,done D H' hinv e4 hmk,trivial,e2,e3⟩
    ·obtain ⟨w4,e1,e2,e3,e4⟩:=after H' _ hn' hst' hev' (by simp)
     refine ⟨_,w4,e1,?_⟩
     have hq:=jump D X H' c hJ hj e4 hmk
     cases X<;>simp only[jumpOf,Option.some.injEq] at hj<;>first|(cases hj;done)|subst hj
     ·exact wpIn_exit ⟨_,_,hq,rfl,e2,e3⟩
     ·exact wpIn_goto ⟨_,_,hq,rfl,e2,e3⟩
     ·exact wpIn_ret ⟨_,_,hq,trivial,e2,e3⟩
   |panicked chain=>
    obtain ⟨v,_,av,H'',⟨hr,_⟩,_⟩:=he
    cases hr
   |outgrown=>exact he.elim
end
end Go.V
