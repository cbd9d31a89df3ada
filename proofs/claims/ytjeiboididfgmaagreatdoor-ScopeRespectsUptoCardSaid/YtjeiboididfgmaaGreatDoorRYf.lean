/- Deferred calls that do nothing; ranges over functions by their calls. No condition. -/
import Derived.Test.YtjeiboididfgmaaGreatDoorRYd
import Derived.DefersIn
import Derived.Scope
set_option linter.unusedVariables false
set_option linter.unusedSimpArgs false
namespace Go.V
open Go
def DQ (P:Program) (f:FuncId):Prop:=Plain P f=true/\∀ args w,CallsDIn wide 0 P f args .returning w fun e u' w'=>(∃ v,e=.returned v)/\settle u'=.returning/\w'=w
def defOk (P:Program):ADef->Prop
 |.mark _=>True
 |.call f _=>∃ k first cap,f=.func (.func k) first cap/\DQ P k
def defsOk (P:Program) (ds:List ADef):Prop:=∀ d∈ds,defOk P d
section
variable {P:Program} {G:GT} {n B:Nat} {r:Option Nat} {Q Q':AX->AS->Prop} {s:AS} {H:HM}
def VOpD (P:Program) (G:GT) (ops:Array Oper) (Q:AX->AS->Prop) (o:Oper) (K:AS->Prop) (s:AS):Prop:=
 match o.op with
 |.defer c=>wantA ops o s.tmps=true/\o.dst=none/\match c.callee with
  |.value f=>(∃ k first cap,s.eval G f=.func (.func k) first cap)/\K ⟨s.tmps,s.H,.call (s.eval G f) (c.args.toList.map (s.eval G))::s.defs⟩
  |_=>False
 |_=>VOp P G ops Q o K s
def VOpsD (P:Program) (G:GT) (ops:Array Oper) (Q:AX->AS->Prop):List Oper->AS->Prop
 |[],s=>Q .normal s
 |o::rest,s=>VOpD P G ops Q o (VOpsD P G ops Q rest) s
theorem VOpD.wpIn {ops:Array Oper} {o:Oper} {K:AS->Prop} {a:Act} {w w0:World} {H0:HM} {i:Nat} {next:Act->World->Prop} (h:VOpD P G ops Q o K s) (hi:ops[i]?=some o) (hs:Sim G n B s a w)
  (he:Evo H0 w0 s.H w) (ho:operOk n o=true) (hk:∀ s' a' w',K s'->Sim G n B s' a' w'->Evo H0 w0 s'.H w'->next a' w'):wpOpIn (W none) 0 P ops (PostW G n B H0 w0 Q) i next a w:=by
 unfold VOpD at h
 split at h
 ·rename_i c hop
  obtain ⟨hw,hd,h⟩:=h
  split at h
  ·rename_i f hf
   obtain ⟨⟨k,first,cap,hfv⟩,hK⟩:=h
   unfold wpOpIn
   rw[hi]
   simp only[wantA_eq hs,hw,if_true]
   have hopn:∀ x∈o.op.operands,opndOk x=true:=by
    simp only[operOk,Bool.and_eq_true] at ho
    exact fun x hx=>Array.all_eq_true_iff_forall_mem.1 ho.2 x hx
   have hf1:=hs.eval (x:=f) (hopn f (by simp[hop,Op.operands,Call.operands,hf]))
   have hargs:RepL (Imm s.H w) w (c.args.toList.map (s.eval G)) (c.args.toList.map a.eval):=by
    have:∀ l:List Operand,(∀ x∈l,opndOk x=true)->RepL (Imm s.H w) w (l.map (s.eval G)) (l.map a.eval):=by
     intro l
     induction l with
     |nil=>intro _;exact .nil
     |cons x l ih=>intro h;exact .cons (hs.eval (h x (by simp))) (ih fun y hy=>h y (by simp[hy]))
    exact this _ fun x hx=>hopn x (by simp[hop,Op.operands,Call.operands,hf];exact .inr (by simpa using hx))
   rw[hfv] at hf1
   generalize hgv:a.eval f=gv at hf1
   cases hf1 with
   |func h1 h2=>
    rename_i vf vc
    have hrun:(execOp a.eval o).run P w=.ok (.defer { target:=.fn (.func k) vc.toArray,args:=(vf++c.args.toList.map a.eval).toArray }) w:=by
     simp only[execOp,hop,Sem.run_bind,resolve,hf,hgv,Deferred.ofValue,Sem.run_pure,Result.andThen]
     congr 3
     simp
    unfold Oper.wpIn
    refine ⟨fun _ _=>trivial,?_⟩
    rw[W_round,Oper.semAt_none,hrun,Oper.uponIn_defer,hd]
    refine hk _ _ _ hK ⟨hs.size,hs.tmp,hs.st,.cons (fun b e=>by cases e) ⟨.func k,first,cap,vf,vc,c.args.toList.map a.eval,hfv,h1,h2,hargs,rfl⟩ hs.defs,hs.big⟩ he
  ·exact h.elim
 ·exact VOp.wpIn h hi hs he ho hk
theorem VOpsD.wpIn {ops:Array Oper} {H0:HM} {w0:World} (ho:∀ o∈ops,operOk n o=true):∀ (l:List Oper) (k:Nat) (s:AS) (a:Act) (w:World),(∀ j,l[j]?=ops[k+j]?) ->
  VOpsD P G ops Q l s->Sim G n B s a w->Evo H0 w0 s.H w->wpOpsIn (W none) 0 P ops (PostW G n B H0 w0 Q) (List.range' k l.length) a w
 |[],k,s,a,w,hl,h,hs,he=>⟨.normal,s,h,trivial,hs,he⟩
 |o::rest,k,s,a,w,hl,h,hs,he=>by
  have h0:ops[k]?=some o:=by have:=hl 0;simpa using this.symm
  rw[List.length_cons,List.range'_succ,wpOpsIn_cons]
  refine VOpD.wpIn h h0 hs he (ho o (Array.mem_of_getElem? h0)) fun s' a' w' k' hs' he'=>?_
  exact VOpsD.wpIn ho rest (k+1) s' a' w' (fun j=>by have:=hl (j+1);simp at this;rw[this];congr 1;omega) k' hs' he'
theorem VW_regionD {id:Nat} {ops:Array Oper} (h:VOpsD P G ops Q ops.toList s):VW P G n none (.region id ops false) Q s:=by
 intro hc B a w hs
 refine wpIn_region ?_
 have:=VOpsD.wpIn (H0:=s.H) (w0:=w) (Array.all_eq_true_iff_forall_mem.1 hc) ops.toList 0 s a w (fun j=>by simp) h hs (Evo.refl _ _)
 simpa[List.range_eq_range'] using this
theorem shut_repL {w:World} {b:Nat} {x:Option (List Deferred)} (hb:w.heap[b]?=some (.deferred x)):∀ {as:List AV} {vs:List Value},RepL (Imm H w) w as vs->RepL (Imm H (w.putObj b (.deferred none))) (w.putObj b (.deferred none)) as vs
 |_,_,.nil=>.nil
 |_,_,.cons h hs=>.cons (shut_rep hb h) (shut_repL hb hs)
theorem RepDs.shutD {b:Nat} {w:World} (hb:w.heap[b]?=some (.deferred (some []))):∀ {as:List ADef} {ds:List Deferred},.mark b∉as->RepDs B H w as ds->RepDs B H (w.putObj b (.deferred none)) as ds
 |_,_,_,.nil=>.nil
 |.mark b'::as,_,hn,.cons h0 h hs=>by
  obtain ⟨e1,e2,e3⟩:=h
  have hne:b'≠b:=by rintro rfl;exact hn (by simp)
  exact .cons h0 ⟨e1,by rw[World.putObj_heap_other hne];exact e2,e3⟩ (hs.shutD hb fun h=>hn (by simp[h]))
 |.call f args::as,_,hn,.cons h0 h hs=>by
  obtain ⟨fn,first,cap,vf,vc,va,e1,e2,e3,e4,e5⟩:=h
  exact .cons h0 ⟨fn,first,cap,vf,vc,va,e1,shut_repL hb e2,shut_repL hb e3,shut_repL hb e4,e5⟩ (hs.shutD hb fun h=>hn (by simp[h]))
theorem leave_D {fn:Func} {f:Nat->AV} {tmps:Array Value} {H0:HM} {w0:World} {v:AV} {R:Ending->World->Prop} (hv:vresults P fn H f=some v)
  (hR:∀ u w,Rep (Imm H w) w v u->St G H w->Evo H0 w0 H w->R (.returned u) w):∀ (as:List ADef) (ds:List Deferred) (w:World),defsOk P as->RepDs w0.heap.size H w as ds ->
   (∀ t,Rep (Imm H w) w (f t) (tmps.getD t undef))->St G H w->Evo H0 w0 H w->LeavesInM wide 0 P fn tmps R ds .returning w
 |[],_,w,_,.nil,h1,h2,h3=>by
  obtain ⟨u,e1,e2⟩:=vresults_run h1 h2 hv
  exact ⟨u,e1,hR u w e2 h2 h3⟩
 |.mark b::as,d::ds,w,hm,.cons h0 h hs,h1,h2,h3=>by
  obtain ⟨e1,e2,e3,e4⟩:=h
  refine ⟨by simp,.inl ⟨b,_,by rw[e1],run_takeDeferred e2,?_⟩⟩
  exact leave_D hv hR as ds _ (fun d hd=>hm d (by simp[hd])) (hs.shutD e2 (h0 b rfl)) (fun t=>shut_rep e2 (h1 t)) (shut_st e2 h2) (shut_evo e4 h3)
 |.call g args::as,d::ds,w,hm,.cons h0 h hs,h1,h2,h3=>by
  obtain ⟨fn',first,cap,vf,vc,va,e1,e2,e3,e4,e5⟩:=h
  obtain ⟨k,first',cap',e6,hdq⟩:=hm (.call g args) (by simp)
  rw[e1] at e6
  cases e6
  refine ⟨by simp,.inr ⟨fun h=>by simp[wide,Fence.wide] at h,.func k,vc.toArray,k,(vf++va++vc).toArray,by rw[e5],?_,fun _ _=>trivial,?_⟩⟩
  ·rw[e5]
   simp only[invoke,run_callFunc hdq.1]
   simp
  ·obtain ⟨hq1,hq2⟩:=hdq.2 (vf++va++vc).toArray w
   refine ⟨hq1,fun c cs hc hroom=>?_⟩
   obtain ⟨e,u',w',fr,⟨⟨v,rfl⟩,hu,rfl⟩,rest⟩:=hq2 c cs hc hroom
   refine ⟨_,u',w',fr,?_,rest⟩
   show LeavesInM wide 0 P fn tmps R ds (settle u') w'
   rw[hu]
   exact leave_D hv hR as ds w' (fun d hd=>hm d (by simp[hd])) hs h1 h2 h3
def FinD (P:Program) (G:GT) (fn:Func) (K:ARes->HM->Prop):AX->AS->Prop
 |.normal,s | .ret,s=>defsOk P s.defs/\∃ v v' H1,vresults P fn s.H s.tmps=some v/\Drop s.H H1/\View G s.H H1 v v'/\K (.ret v') H1
 |_,_=>False
theorem CallF_introD {f:FuncId} {fn:Func} {c:Code} {args:List AV} {K:ARes->HM->Prop} (hf:P.funcs[f]?=some fn) (hb:fn.body=some c) (hc:cok fn.ntmps c=true) (hn:args.length<=fn.ntmps)
  (h:VW P G fn.ntmps none c (FinD P G fn K) ⟨fun i=>args.getD i .unit,H,[]⟩):CallF P G f args H K:=by
 intro w vs hr hst
 refine callsIn_of_wp_marks (F:=wide) hf hb trivial ?_ rfl
 have hlen:=hr.length
 have hs:Sim G fn.ntmps w.heap.size ⟨fun i=>args.getD i .unit,H,[]⟩ { tmps:=vs.toArray++Array.replicate (fn.ntmps-vs.toArray.size) undef,defers:=[] } w:=by
  refine ⟨by simp;omega,fun t=>?_,hst,.nil,Nat.le_refl _⟩
  by_cases ht:t<args.length
  ·obtain ⟨v,e1,e2⟩:=hr.get t _ (List.getElem?_eq_getElem ht)
   have:(vs.toArray++Array.replicate (fn.ntmps-vs.toArray.size) undef).getD t undef=v:=by
    rw[Array.getD_eq_getD_getElem?,Array.getElem?_append_left (by simp;omega)]
    simp[e1]
   simp only[this,List.getD_eq_getElem?_getD,List.getElem?_eq_getElem ht,Option.getD_some]
   exact e2
  ·have:(vs.toArray++Array.replicate (fn.ntmps-vs.toArray.size) undef).getD t undef=undef:=by
    rw[Array.getD_eq_getD_getElem?,Array.getElem?_append_right (by simp;omega)]
    rw[Array.getElem?_replicate];split<;>rfl
   simp only[this,List.getD_eq_getElem?_getD,List.getElem?_eq_none (Nat.le_of_not_lt ht),Option.getD_none]
   exact Y12 _ _
 refine wpIn_mono (h hc _ _ w hs) ?_
 rintro e a' w' ⟨x,s',q,hx,hs',he⟩
 have fin:FinD P G fn K .ret s'->LeavesInM wide 0 P fn a'.tmps (fun | .returned v,w''=>Out G H w (fun a=>K (.ret a)) v w'' | .panicked chain,w''=>∃ v,chain=[{ v,recovered:=false }]/\Out G H w (fun a=>K (.pan a)) v w'' | .outgrown,_=>False) a'.defers .returning w':=by
  rintro ⟨hm,v,v',H1,hv,hd,hview,hk⟩
  refine leave_D hv (fun u w'' r1 r2 r3=>?_) s'.defs a'.defers w' hm hs'.defs hs'.tmp hs'.st he
  exact ⟨v',H1,hk,hview w'' u r2 r1,r2.drop hd,r3.drop hd⟩
 cases x with
 |normal=>cases e<;>first|exact fin q|exact hx.elim
 |ret=>cases e<;>first|exact fin q|exact hx.elim
 |pan v=>exact q.elim
 |_=>exact q.elim
end
section
variable {P:Program} {G:GT} {n B:Nat} {Q:AX->AS->Prop} {H H':HM} {w w':World}
theorem VW_rangeFuncG {g:Operand} {ps:Array Nat} {assign body:Code} {gf:FuncId} {first cap:List AV} {tm:Nat->AV} {H:HM} {ds:List ADef}
  (hg:ev G tm g=.func (.func gf) first cap) (hp:Plain P gf=true)
  (hcall:∀ l (rec:Loop),H l=none->rec.params=ps->rec.assign=assign->rec.body=body->rec.state=.ready->rec.pending=none->rec.tmps.size=n ->
   CallF P G gf (first++[.func (.yield l) [] []]++cap) (H.upd l (.loop rec tm)) fun r H''=>∃ v H' rec' tm',r=.ret v/\H' l=none/\H''=H'.upd l (.loop rec' tm')/\rec'.state≠.busy /\
    ∀ D,H' D=none->.mark D∉ds->(rec'.pending=none->Q .normal ⟨tm,H',.mark D::ds⟩)/\∀ c,rec'.pending=some c->∃ X,jumpOf X=some c/\Q X ⟨tm,H',.mark D::ds⟩) :
  VW P G n none (.rangeFunc g ps assign body) Q ⟨tm,H,ds⟩:=by
 intro hc B a w hs
 simp only[cok,Bool.and_eq_true] at hc
 obtain ⟨⟨⟨hc1,hc2⟩,hc3⟩,hc4⟩:=hc
 refine wpIn_rangeFunc fun fn _=>?_
 generalize hrec:({ state:=.ready,pending:=none,fn:=fn,tmps:=a.tmps,params:=ps,assign:=assign,body:=body,defers:=w.heap.size }:Loop)=rec
 have hrecF:rec.params=ps/\rec.assign=assign/\rec.body=body/\rec.state=.ready/\rec.tmps=a.tmps/\rec.pending=none:=by rw[<-hrec];exact ⟨rfl,rfl,rfl,rfl,rfl,rfl⟩
 obtain ⟨g1,g2,g3,g4,g5,g6⟩:=hrecF
 generalize hD:w.heap.size=D at *
 have hDs:D=w.heap.size:=hD.symm
 generalize hw1:((w.alloc (.deferred (some []))).alloc (.loop rec))=w1
 have hal:∀ (w:World) (o:Obj),w.alloc o={ w with heap:=w.heap.push o }:=fun w o=>rfl
 have hst0:St G H (w.alloc (.deferred (some []))):=by rw[hal];exact hs.st.push _
 have hev0:Evo H w H (w.alloc (.deferred (some []))):=by rw[hal];exact evo_push H w _
 have hsz0:(w.alloc (.deferred (some []))).heap.size=D+1:=by rw[hal];simp[hD]
 have hevN:Evo H (w.alloc (.deferred (some []))) (H.upd (D+1) (.loop rec tm)) w1:=by
  rw[<-hw1,hal (w.alloc _),<-hsz0];exact T13 hst0
 have hev1:Evo H w (H.upd (D+1) (.loop rec tm)) w1:=hev0.trans hevN
 have hl1:w1.heap[D+1]?=some (.loop rec):=by rw[<-hw1,<-hsz0];exact World.alloc_heap_new _ _
 have hst1:St G (H.upd (D+1) (.loop rec tm)) w1:=by
  have:=hst0.new (o:=.loop rec) (ao:=.loop rec tm)
  rw[<-hal,hsz0,hw1] at this
  refine this ⟨hl1,fun t=>?_⟩
  rw[g5];exact hev1.rep (hs.tmp t)
 have hHl:H (D+1)=none:=hst0.fresh (by omega)
 have hHD:H D=none:=hs.st.fresh (by omega)
 have hdef0:(w.alloc (.deferred (some []))).heap[D]?=some (.deferred (some [])):=by rw[<-hD];exact World.alloc_heap_new _ _
 have hdef1:w1.heap[D]?=some (.deferred (some [])):=by
  rw[<-hw1,hal (w.alloc _),heap_push _ _ (by omega)];exact hdef0
 have hmk:.mark D∉ds:=fun hm=>by have:=hs.defs.lt hm;omega
 have hgr:=hs.eval (x:=g) hc1
 rw[eval_ev,hg] at hgr
 generalize hgv:a.eval g=gv at hgr
 cases hgr with
 |func hf hcp=>
  rename_i vf vc
  refine ⟨D+1,[{ target:=.collected D,args := #[] }],w1,{ target:=.fn (.func gf) vc.toArray,args:=vf.toArray ++ #[Value.func (.yield (D+1)) #[] #[]] },w1,gf,(vf++[Value.func (.yield (D+1)) #[] #[]]++vc).toArray,w1,?_,?_,(fun _ _=>trivial),?_,(fun h=>by simp[W,Fence.wide] at h),?_⟩
  ·rw[W_round,run_enterLoop_outer,hD,hrec,hw1]
  ·simp only[resolve,rangeCall,hgv]
   simp[Deferred.ofValue,Sem.run_pure,Act.eval]
  ·simp only[invoke,run_callFunc hp]
   simp
  ·have hargs:RepL (Imm (H.upd (D+1) (.loop rec tm)) w1) w1 (first++[.func (.yield (D+1)) [] []]++cap) (vf++[Value.func (.yield (D+1)) #[] #[]]++vc):=
    ((hev1.repL hf).append (.cons (.func .nil .nil) .nil)).append (hev1.repL hcp)
   have hcall:=hcall (D+1) rec hHl g1 g2 g3 g4 g6 (by rw[g5];exact hs.size)
   refine CallsIn.mono (callsIn_W.1 (hcall w1 _ hargs hst1)) fun e w' he=>?_
   have after:∀ (H':HM) (rec':Loop) (tm':Nat->AV),H' (D+1)=none->St G (H'.upd (D+1) (.loop rec' tm')) w'->Evo (H.upd (D+1) (.loop rec tm)) w1 (H'.upd (D+1) (.loop rec' tm')) w'->rec'.state≠.busy ->
     ∃ w4,(Instr.endLoop (D+1)).run P w'=.ok rec'.pending w4/\Sim G n B ⟨tm,H',.mark D::ds⟩ { a with defers:=[{ target:=.collected D,args := #[] }]++a.defers } w4/\Evo H w H' w4/\H' D=none:=by
    intro H' rec' tm' hn' hst' hev' hbusy
    obtain ⟨hlw,_⟩:=hst'.obj _ _ (HM.upd_same _ _ _)
    have hlt:D+1<w'.heap.size:=(Array.getElem?_eq_some_iff.1 hlw).1
    have hdr:Drop (H'.upd (D+1) (.loop rec' tm')) H':=Drop.upd hn'
    have hevW:Evo H w H' w':=(hev1.trans hev').drop hdr
    have hev4:Evo H w H' (w'.putObj (D+1) (.loop { rec' with state:=.exhausted })):=by
     refine ⟨hevW.os,hevW.tape,hevW.output,by simpa using hevW.size,fun b hb=>⟨(hevW.block b hb).1,?_⟩⟩
     rw[R12 (by have:=hb.1;omega)];exact (hevW.block b hb).2
    have imD:Imm (H.upd (D+1) (.loop rec tm)) w1 D:=⟨(Array.getElem?_eq_some_iff.1 hdef1).1,by rw[HM.upd_ne _ _ (by omega)];exact hHD⟩
    have hD':H' D=none:=by have:=(hev'.imm D imD).2;rwa [HM.upd_ne _ _ (by omega)] at this
    refine ⟨_,run_endLoop hlw hbusy,⟨hs.size,fun t=>hev4.rep (hs.tmp t),nd_st (G13 hlw) hn' (hst'.drop hdr),?_,Nat.le_trans hs.big hev4.size⟩,hev4,hD'⟩
    refine .cons (fun b hb hm=>?_) ⟨rfl,?_,hD',by have:=hs.big;omega⟩ (hs.defs.evo hev4)
    ·cases hb;exact hmk hm
    ·rw[R12 (by omega),hev'.same D imD];exact hdef1
   cases e with
   |returned v=>
    obtain ⟨av,H'',⟨v1,H',rec',tm',hr,hn',rfl,hbusy,hk⟩,hrep,hst',hev'⟩:=he
    obtain ⟨w4,e1,e2,e3,e4⟩:=after H' rec' tm' hn' hst' hev' hbusy
    obtain ⟨hk1,hk2⟩:=hk D e4 hmk
    refine ⟨_,w4,e1,?_⟩
    cases hpd:rec'.pending with
    |none=>exact ⟨.normal,_,hk1 hpd,trivial,e2,e3⟩
    |some c=>
     obtain ⟨X,hj,hq⟩:=hk2 c hpd
     cases X<;>simp only[jumpOf,Option.some.injEq] at hj<;>first|(cases hj;done)|subst hj
     ·exact wpIn_exit ⟨_,_,hq,rfl,e2,e3⟩
     ·exact wpIn_goto ⟨_,_,hq,rfl,e2,e3⟩
     ·exact wpIn_ret ⟨_,_,hq,trivial,e2,e3⟩
   |panicked chain=>
    obtain ⟨v,_,av,H'',⟨v1,H',rec',tm',hr,_⟩,_⟩:=he
    cases hr
   |outgrown=>exact he.elim
end
section
variable {P:Program} {G:GT} {n:Nat} {r:Option Nat} {Q:AX->AS->Prop} {s:AS}
theorem stepR_scope {P:Program} {b:Frame} {a:Act} {k:List Item} {cs:List Frame} {w:World} {c:Code}:step P (lone (b.atR a (.code (.scope c)::k)) cs w)=.next (lone (b.atR a (.code c::.inScope c::k)) cs w):=
 step_lone_go (by simp[stepG,stepG.exec,Frame.atR])
theorem stepR_inScope {P:Program} {b:Frame} {a:Act} {k:List Item} {cs:List Frame} {w:World} {c:Code}:step P (lone (b.atR a (.inScope c::k)) cs w)=.next (lone (b.atR a k) cs w):=
 step_lone_go (by simp[stepG,stepG.exec,Frame.atR])
theorem wpIn_scope_straight {F:Fence} {m:Nat} {P:Program} {c:Code} {Q:Exit->Act->World->Prop} {a:Act} {w:World} (h:c.wpIn F m P (Exit.noGoto Q) a w):(Code.scope c).wpIn F m P Q a w:=by
 intro b k cs hro hb hr
 have h0:(lone (b.atR a (.code (.scope c)::k)) cs w).fenced P F:=fenced_calm hb hr rfl
 obtain ⟨e,a₁,w₁,hq,harr⟩:=h b (.inScope c::k) cs hro hb hr
 cases e with
 |normal=>exact ⟨.normal,a₁,w₁,hq,.head h0 stepR_scope (StepsIn.trans harr (.one (fenced_calm hb hr rfl) stepR_inScope))⟩
 |exit id=>
  have hx:exitTo id (.inScope c::k)=exitTo id k:=by simp[exitTo]
  exact ⟨.exit id,a₁,w₁,hq,fun k' hk=>.head h0 stepR_scope (harr.1 k' (by rw[hx];exact hk)),
   fun hr' hk=>let ⟨k₁,h1,h2⟩:=harr.2 hr' (by rw[hx];exact hk);⟨k₁,h1,.head h0 stepR_scope h2⟩⟩
 |goto l=>exact hq.elim
 |ret=>exact ⟨_,a₁,w₁,hq,.of_steps (.one h0 stepR_scope) harr⟩
 |panic ch=>exact ⟨_,a₁,w₁,hq,.of_steps (.one h0 stepR_scope) harr⟩
 |outgrown=>exact ⟨_,a₁,w₁,hq,.of_steps (.one h0 stepR_scope) harr⟩
def AX.noGoto (Q:AX->AS->Prop):AX->AS->Prop
 |.goto _,_=>False
 |x,s=>Q x s
theorem VW_scope {c:Code} (h:VW P G n r c (AX.noGoto Q) s):VW P G n r (.scope c) Q s:=by
 intro hc B a w hs
 refine wpIn_scope_straight (wpIn_mono (h hc B a w hs) ?_)
 rintro e a' w' ⟨x,s',q,hx,hs',he⟩
 cases x<;>first|exact q.elim|skip
 all_goals (cases e<;>first|exact hx.elim|exact ⟨_,s',q,hx,hs',he⟩)
end
end Go.V
