/- An evaluator for closed runs: regions in drawn order. No condition. -/
import Derived.Test.YtjeiboididfgmaaGreatDoorRYi
set_option linter.unusedVariables false
set_option linter.unusedSimpArgs false
namespace Go.V
open Go
theorem eqV_eq {a b:Value} (h:eqV a b=true):a=b:=by
 unfold eqV at h
 split at h<;>try (cases h;done)
 ·simp only[Bool.and_eq_true,beq_iff_eq,decide_eq_true_eq] at h;rw[h.1,h.2]
 ·simp only[beq_iff_eq] at h;rw[h]
 ·simp only[decide_eq_true_eq] at h;rw[h]
 ·simp only[Bool.and_eq_true,beq_iff_eq] at h
  rename_i x y
  have e1:x = #[]:=Array.eq_empty_of_size_eq_zero h.1
  have e2:y = #[]:=Array.eq_empty_of_size_eq_zero h.2
  rw[e1,e2]
 ·rfl
 ·rfl
 ·simp only[Bool.and_eq_true,beq_iff_eq] at h;rw[h.1,h.2]
mutual
theorem eqA_eq:∀ {a b:AV},eqA a b=true->a=b
 |.val a,b,h=>by cases b<;>simp only[eqA] at h<;>first|(cases h;done)|rw[eqV_eq h]
 |.agg a,b,h=>by cases b<;>simp only[eqA] at h<;>first|(cases h;done)|rw[eqL_eq h]
 |.tup a,b,h=>by cases b<;>simp only[eqA] at h<;>first|(cases h;done)|rw[eqL_eq h]
 |.list a,b,h=>by cases b<;>simp only[eqA] at h<;>first|(cases h;done)|rw[eqL_eq h]
 |.ref a,b,h=>by cases b<;>simp only[eqA] at h<;>first|(cases h;done)|rw[eqL_eq h]
 |.addr a c,b,h=>by cases b<;>simp only[eqA] at h<;>first|(cases h;done)|(simp only[Bool.and_eq_true,beq_iff_eq] at h;rw[h.1,h.2])
 |.elem a c d e,b,h=>by cases b<;>simp only[eqA] at h<;>first|(cases h;done)|(simp only[Bool.and_eq_true,beq_iff_eq] at h;rw[h.1.1.1,h.1.1.2,h.1.2,h.2])
 |.nil0,b,h=>by cases b<;>simp only[eqA] at h<;>first|(cases h;done)|rfl
 |.mlist a c d,b,h=>by cases b<;>simp only[eqA] at h<;>first|(cases h;done)|(simp only[Bool.and_eq_true,beq_iff_eq] at h;rw[h.1.1,h.1.2,h.2])
 |.map a,b,h=>by cases b<;>simp only[eqA] at h<;>first|(cases h;done)|(simp only[beq_iff_eq] at h;rw[h])
 |.imap a,b,h=>by cases b<;>simp only[eqA] at h<;>first|(cases h;done)|rw[eqP_eq h]
 |.func f a c,b,h=>by
  cases b<;>simp only[eqA] at h<;>first
   |(cases h;done)
   |(simp only[Bool.and_eq_true,decide_eq_true_eq] at h;rw[h.1.1,eqL_eq h.1.2,eqL_eq h.2])
 |.iface t a,b,h=>by cases b<;>simp only[eqA] at h<;>first|(cases h;done)|(simp only[Bool.and_eq_true,beq_iff_eq] at h;rw[h.1,eqA_eq h.2])
theorem eqL_eq:∀ {a b:List AV},eqL a b=true->a=b
 |[],b,h=>by cases b<;>simp only[eqL] at h<;>first|(cases h;done)|rfl
 |x::a,b,h=>by cases b<;>simp only[eqL] at h<;>first|(cases h;done)|(simp only[Bool.and_eq_true] at h;rw[eqA_eq h.1,eqL_eq h.2])
theorem eqP_eq:∀ {a b:List (AV×AV)},eqP a b=true->a=b
 |[],b,h=>by cases b<;>simp only[eqP] at h<;>first|(cases h;done)|rfl
 |(x,y)::a,b,h=>by
  cases b with
  |nil=>simp only[eqP] at h;cases h
  |cons e b=>
   obtain ⟨x',y'⟩:=e
   simp only[eqP,Bool.and_eq_true] at h
   rw[eqA_eq h.1.1,eqA_eq h.1.2,eqP_eq h.2]
end
theorem eqT_eq:∀ {a b:Tr},eqT a b=true->a=b
 |.leaf,b,h=>by cases b<;>simp only[eqT] at h<;>first|(cases h;done)|rfl
 |.node v l r,b,h=>by cases b<;>simp only[eqT] at h<;>first|(cases h;done)|(simp only[Bool.and_eq_true] at h;rw[eqA_eq h.1.1,eqT_eq h.1.2,eqT_eq h.2])
theorem eqO_eq {a b:AObj} (h:eqO a b=true):a=b:=by
 cases a<;>cases b<;>simp only[eqO] at h<;>try (cases h;done)
 ·simp only[Bool.and_eq_true,beq_iff_eq] at h;rw[h.1,eqL_eq h.2]
 ·simp only[Bool.and_eq_true,beq_iff_eq] at h;rw[h.1.1.1,h.1.1.2,h.1.2,eqL_eq h.2]
 ·rw[eqP_eq h]
 ·simp only[Bool.and_eq_true,beq_iff_eq,decide_eq_true_eq] at h;rw[h.1,h.2]
mutual
theorem Ren.fn {R:NR} (hf:∀ k b c b' c',R k b c->R k b' c'->b=b'/\c=c'):∀ {a x y:AV},Ren R a x->Ren R a y->x=y
 |_,_,_,.val v,h=>by cases h;rfl
 |_,_,_,.agg h1,h=>by cases h with|agg h2=>rw[RenL.fn hf h1 h2]
 |_,_,_,.tup h1,h=>by cases h with|tup h2=>rw[RenL.fn hf h1 h2]
 |_,_,_,.list h1,h=>by cases h with|list h2=>rw[RenL.fn hf h1 h2]
 |_,_,_,.ref h1,h=>by cases h with|ref h2=>rw[RenL.fn hf h1 h2]
 |_,_,_,.addr off h1,h=>by cases h with|addr _ h2=>rw[(hf _ _ _ _ _ h1 h2).1]
 |_,_,_,.elem i sz off h1,h=>by cases h with|elem _ _ _ h2=>rw[(hf _ _ _ _ _ h1 h2).1]
 |_,_,_,.nil0,h=>by cases h;rfl
 |_,_,_,.mlist n c0 h1,h=>by cases h with|mlist _ _ h2=>rw[(hf _ _ _ _ _ h1 h2).1,(hf _ _ _ _ _ h1 h2).2]
 |_,_,_,.map h1,h=>by cases h with|map h2=>rw[(hf _ _ _ _ _ h1 h2).1]
 |_,_,_,@Ren.imap _ _ es1 h1 h2,h=>by
  cases h with
  |@imap _ es2 h3 h4=>
   have e1:=RenL.fn hf h1 h3
   have e2:=RenL.fn hf h2 h4
   have:es1=es2:=by
    have key:∀ (a b:List (AV×AV)),a.map (·.1)=b.map (·.1)->a.map (·.2)=b.map (·.2)->a=b:=by
     intro a
     induction a with
     |nil=>intro b h _;cases b with
      |nil=>rfl
      |cons _ _=>simp at h
     |cons p a ih=>intro b h1 h2;cases b with
      |nil=>simp at h1
      |cons q b=>
       simp only[List.map_cons,List.cons.injEq] at h1 h2
       rw[ih b h1.2 h2.2]
       congr 1
       exact Prod.ext h1.1 h2.1
    exact key _ _ e1 e2
   rw[this]
 |_,_,_,@Ren.func _ f g1 _ _ _ _ hg h1 h2,h=>by
  cases h with
  |@func _ g2 _ _ _ _ hg2 h3 h4=>
   rw[RenL.fn hf h1 h3,RenL.fn hf h2 h4]
   have:g1=g2:=by
    cases f<;>cases g1<;>cases g2<;>simp only[FnR] at hg hg2<;>first
     |(cases hg;done)|(cases hg2;done)
     |(rw[<-hg,<-hg2])
     |(obtain ⟨_,hg⟩:=hg;obtain ⟨_,hg2⟩:=hg2;rw[(hf _ _ _ _ _ hg hg2).1])
   rw[this]
 |_,_,_,.iface h1,h=>by cases h with|iface h2=>rw[Ren.fn hf h1 h2]
theorem RenL.fn {R:NR} (hf:∀ k b c b' c',R k b c->R k b' c'->b=b'/\c=c'):∀ {a x y:List AV},RenL R a x->RenL R a y->x=y
 |_,_,_,.nil,h=>by cases h;rfl
 |_,_,_,.cons h1 h2,h=>by cases h with|cons h3 h4=>rw[Ren.fn hf h1 h3,RenL.fn hf h2 h4]
end
section
variable {C:Cfg} {ih:XTask->Option TOut} {R R' R'':NR} {rd:Bool} {es es' es'':XS} {s s' s'':AS} {o:Oper} {ops:Array Oper} {m:Nat} {Q:AX->AS->Prop} {K:AS->Prop}
theorem runQ_VQ (hC:COk C) (hih:SoundCall C ih) (hm:m<=4000):∀ (l:List Oper) {es es1:XS} {s:AS},runQ C ih ops l es=some es1->(∀ o∈l,operOk m o=true)->RelS C.P R rd es s ->
  (∀ s1,RelS C.P R rd es1 s1->es1.hs=es.hs->s1.H=s.H->s1.defs=s.defs->K s1)->VQ C.P C.G ops l s K
 |[],es,es1,s,hx,_,hr,hk=>by
  simp only[runQ] at hx;cases hx
  exact hk s hr rfl rfl rfl
 |o::l,es,es1,s,hx,ho,hr,hk=>by
  have hoo:=ho o (by simp)
  simp only[operOk,Bool.and_eq_true] at hoo
  simp only[runQ] at hx
  unfold VQ
  rw[wantA_ren (s:=s) hr.tm] at hx
  split at hx
  ·rename_i hw
   rw[if_pos hw]
   split at hx<;>try (cases hx;done)
   rename_i v hv
   obtain ⟨v',h1,h2⟩:=xq_sound hih hv hr.heap (ev_ren hC hr.tm)
   refine ⟨v',h2,runQ_VQ hC hih hm l hx (fun o' h'=>ho o' (by simp[h'])) ⟨hr.heap,put_ren hoo.1 hm hr.tm h1,hr.d1,hr.d2⟩ fun s1 r e1 e2 e3=>hk s1 r e1 e2 e3⟩
  ·rename_i hw
   rw[if_neg hw]
   exact runQ_VQ hC hih hm l hx (fun o' h'=>ho o' (by simp[h'])) ⟨hr.heap,put_ren hoo.1 hm hr.tm (.val _),hr.d1,hr.d2⟩ fun s1 r e1 e2 e3=>hk s1 r e1 e2 e3
theorem headK_ok {k:Nat} (h:headK C ops=some k):headOk ops k=true/\tailOk ops k=true:=by
 unfold headK at h
 cases hf:(List.range (ops.size+1)).reverse.find? (fun k=>(ops.toList.take k).all (quietKind C true)&&headOkW (wB (masksGo ops.toList [])) ops k) with
 |none=>rw[hf] at h;cases h
 |some k'=>
  rw[hf] at h
  simp only[Option.bind_some] at h
  split at h<;>cases h
  rename_i ht
  have:=List.find?_some hf
  simp only[Bool.and_eq_true] at this
  exact ⟨headOkW_ok this.2,ht⟩
theorem drawRun_sound (hC:COk C) (hih:SoundCall C ih) (hx:drawRun C ih ops es=some es') (hm:m<=4000) (hr:RelS C.P R rd es s) {id:Nat} {rr:Option Nat} (hk:∀ R' s',PostS C.P R R' rd es es' s s'->Q .normal s') :
  VW C.P C.G m rr (.region id ops true) Q s:=by
 unfold drawRun at hx
 split at hx<;>try (cases hx;done)
 rename_i k hkk
 split at hx<;>try (cases hx;done)
 rename_i es1 h1
 obtain ⟨ho,ht⟩:=headK_ok hkk
 intro hc
 have hops:∀ o∈ops.toList,operOk m o=true:=fun o h=>Array.all_eq_true_iff_forall_mem.1 hc o (by simpa using h)
 refine VW_draw k hC.mixed ho ht ?_ hc
 refine runQ_VQ hC hih hm _ h1 (fun o h=>hops o (List.mem_of_mem_take h)) hr fun s1 r1 e1 e2 e3=>?_
 refine runOps_sound hC hih hm _ hx (fun o h=>hops o (List.mem_of_mem_drop h)) r1 fun R' s' p=>hk R' s' ⟨?_,p.rel,?_⟩
 ·have:=p.post
  rw[e1,e2] at this;exact this
 ·have:=p.same
  rw[e1] at this;exact this
end
end Go.V
