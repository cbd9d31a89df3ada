/- An evaluator for closed runs: quiet operations among others, the run. No condition. -/
import Derived.Test.YtjeiboididfgmaaGreatDoorRYk
set_option linter.unusedVariables false
set_option linter.unusedSimpArgs false
namespace Go.V
open Go
def Fm (n0 K sz m0:Nat) (L:Array Bool):Nat->Prop:=fun k=>(n0+sz*K<=k/\k<m0)\/∃ i,i<sz/\L.getD i false=false/\n0+i*K<=k/\k<n0+i*K+K
theorem Fm_part {n0 K sz m0 i k:Nat} {L:Array Bool} (hi:i<sz) (hl:L.getD i false=false) (h:n0+i*K<=k/\k<n0+i*K+K):Fm n0 K sz m0 L k:=.inr ⟨i,hi,hl,h.1,h.2⟩
theorem part_ne {n0 K i j k:Nat} (h1:n0+i*K<=k/\k<n0+i*K+K) (h2:n0+j*K<=k/\k<n0+j*K+K):i=j:=by
 rcases Nat.lt_trichotomy i j with h|h|h
 ·have:(i+1)*K<=j*K:=Nat.mul_le_mul_right _ h
  rw[Nat.succ_mul] at this;omega
 ·exact h
 ·have:(j+1)*K<=i*K:=Nat.mul_le_mul_right _ h
  rw[Nat.succ_mul] at this;omega
theorem Fm_set {n0 K sz m0 i k:Nat} {L:Array Bool} (hi:i<sz) (hsz:L.size=sz) (h:Fm n0 K sz m0 (L.setIfInBounds i true) k):Fm n0 K sz m0 L k/\¬ (n0+i*K<=k/\k<n0+i*K+K):=by
 rcases h with h|⟨j,hj,hl,h1,h2⟩
 ·refine ⟨.inl h,fun h2=>?_⟩
  have:(i+1)*K<=sz*K:=Nat.mul_le_mul_right _ hi
  rw[Nat.succ_mul] at this;omega
 ·have hne:j≠i:=by
   rintro rfl
   have hlt:j<L.size:=by omega
   simp[hlt] at hl
  refine ⟨.inr ⟨j,hj,by rwa [getD_set_ne false (Ne.symm hne)] at hl,h1,h2⟩,fun h3=>hne (part_ne ⟨h1,h2⟩ h3)⟩
section
variable {C:Cfg} {ih:XTask->Option TOut} {R R' R0:NR} {rd:Bool} {es es' es0 es1 e e':XS} {s s' s0 sI:AS} {o:Oper} {ops:Array Oper} {m n0 Kp:Nat} {Q:AX->AS->Prop} {K:AS->Prop} {L:Array Bool}
structure MS (P:Program) (R0:NR) (rd:Bool) (es0:XS) (s0:AS) (n0 Kp sz:Nat) (L:Array Bool) (R:NR) (e:XS) (s:AS):Prop where
 rel:RelX R (Fm n0 Kp sz es0.hs.m L) e.hs.h s.H
 post:Post es0.hs.W R0 R es0.hs.F (Fm n0 Kp sz es0.hs.m L) es0.hs.h e.hs.h s0.H s.H
 tm:∀ t,Ren R (e.tr.get t) (s.tmps t)
 d1:rd=true->s.defs=[]
 d2:defsOk P s.defs
 n:e.hs.n=n0+sz*Kp
 same:es0.hs.Same e.hs
theorem MS.F_sub {sz:Nat} (h:MS C.P R0 rd es0 s0 n0 Kp sz L R e s):∀ k,e.hs.F k->Fm n0 Kp sz es0.hs.m L k:=fun k hk=>.inl ⟨by rw[<-h.n];exact hk.1,by rw[<-h.same.m];exact hk.2⟩
theorem MS.postS {sz:Nat} (h:MS C.P R0 rd es0 s0 n0 Kp sz L R e s):PostS C.P R0 R rd es0 e s0 s:=
 ⟨⟨h.post.sub,fun k hk=>h.post.le k (h.F_sub k hk),h.post.live,h.post.fr,h.post.d,h.post.org,h.post.new⟩,⟨h.rel.mono h.F_sub,h.tm,h.d1,h.d2⟩,h.same⟩
theorem opStep_tr (hx:opStep C ih ops o es=some es') (ho:dstOk m o.dst=true) (hm:m<=4000) {t:Nat} (ht:o.dst≠some t):es'.tr.get t=es.tr.get t:=by
 have put:∀ v hs,(es.put o.dst v hs).tr.get t=es.tr.get t:=by
  intro v hs
  cases hd:o.dst with
  |none=>rfl
  |some i=>
   rw[hd] at ho ht
   simp only[dstOk,decide_eq_true_eq] at ho
   simp only[XS.put]
   rw[Tr.get_set 12 es.tr i v (by omega) t,if_neg (fun e=>ht (by rw[e]))]
 unfold opStep at hx
 split at hx
 ·split at hx<;>cases hx
  exact put _ _
 ·cases hx;exact put _ _
theorem part_sound (hC:COk C) (hih:SoundCall C ih) (hm:m<=4000) {i:Nat} (hx:partStep C ih ops n0 Kp i o e=some e') (ho:operOk m o=true) (hi:i<ops.size) (hsz:L.size=ops.size) (hl:L.getD i false=false)
  (hr:MS C.P R0 rd es0 s0 n0 Kp ops.size L R e s) (hk:∀ R' s',MS C.P R0 rd es0 s0 n0 Kp ops.size (L.setIfInBounds i true) R' e' s'->(∀ t,o.dst≠some t->s'.tmps t=s.tmps t/\e'.tr.get t=e.tr.get t)->K s'):VOp C.P C.G ops Q o K s:=by
 unfold partStep at hx
 split at hx<;>cases hx
 rename_i x hop
 have hod:=ho
 simp only[operOk,Bool.and_eq_true] at hod
 have hr1:RelS C.P R rd ⟨e.tr,{ e.hs with n:=n0+i*Kp,m:=n0+i*Kp+Kp,lv:=e.hs.lv-1 }⟩ s:=
  ⟨hr.rel.mono fun k hk=>Fm_part hi hl hk,hr.tm,hr.d1,hr.d2⟩
 refine opStep_sound hC hih hop ho hm hr1 fun R' s' p hd ht=>?_
 have hset:∀ k,Fm n0 Kp ops.size es0.hs.m (L.setIfInBounds i true) k->Fm n0 Kp ops.size es0.hs.m L k/\¬ (n0+i*Kp<=k/\k<n0+i*Kp+Kp):=fun k hk=>Fm_set hi hsz hk
 have hW:es0.hs.W=e.hs.W:=hr.same.W_eq.symm
 have p2:Post es0.hs.W R R' (Fm n0 Kp ops.size es0.hs.m L) (Fm n0 Kp ops.size es0.hs.m (L.setIfInBounds i true)) e.hs.h x.hs.h s.H s'.H:=
  ⟨p.post.sub,fun k hk=>(hset k hk).1,fun k hk hl2=>p.post.live k (fun hF=>hk (Fm_part hi hl hF)) hl2,by rw[hW];exact p.post.fr,p.post.d,p.post.org,fun k b c hR=>(p.post.new k b c hR).imp id fun hF=>Fm_part hi hl hF⟩
 refine hk R' s' ⟨⟨p.rel.heap.toRelH,fun k b c hR hF=>?_,p.rel.heap.orgin⟩,hr.post.trans p2,p.rel.tm,p.rel.d1,p.rel.d2,hr.n,?_⟩ fun t htt=>⟨ht t htt,opStep_tr hop hod.1 hm htt⟩
 ·obtain ⟨h1,h2⟩:=hset k hF
  rcases p.post.new k b c hR with h|h
  ·exact hr.rel.free _ _ _ h h1
  ·exact h2 h
 ·exact ⟨hr.same.m,hr.same.lv,p.same.ro.trans hr.same.ro,p.same.rm.trans hr.same.rm⟩
def HPq (C:Cfg) (ih:XTask->Option TOut) (ops:Array Oper) (R0:NR) (es1:XS) (sI:AS) (i:Nat) (H:HM):Prop:=∃ (R2:NR) (e2:XS) (s2:AS),(∀ k b c,R0 k b c->R2 k b c)/\RelX R2 e2.hs.F e2.hs.h H /\
 (∀ t,Ren R2 (e2.tr.get t) (s2.tmps t))/\(∀ o,ops[i]?=some o->(∀ t∈o.looksAt ops,s2.tmps t=sI.tmps t)/\∀ d,o.dst=some d->e2.tr.get d=es1.tr.get d)/\qAgain C ih ops e2.tr e2.hs [i]=true
theorem qAgain_one {tr:Tr} {hs:HS}:∀ {l:List Nat},qAgain C ih ops tr hs l=true->∀ k∈l,qAgain C ih ops tr hs [k]=true
 |[],_,k,h=>by cases h
 |j::l,h,k,hk=>by
  simp only[qAgain,Bool.and_eq_true] at h
  rcases List.mem_cons.1 hk with e|e
  ·subst e;simp only[qAgain,Bool.and_eq_true];exact ⟨h.1,trivial⟩
  ·exact qAgain_one h.2 k e
theorem HPq.yld (hC:COk C) (hih:SoundCall C ih) {i:Nat} (ho:ops[i]?=some o) (hd:o.dst≠none) (h1:∀ t,Ren R0 (es1.tr.get t) (sI.tmps t)) (h0:wantA ops o sI.tmps=false->∀ d,o.dst=some d->sI.tmps d=.unit) :
  YldH C.P C.G ops (HPq C ih ops R0 es1 sI i) sI.tmps o:=by
 cases hw:wantA ops o sI.tmps with
 |false=>exact .inr ⟨hw,h0 hw⟩
 |true=>
  cases hdd:o.dst with
  |none=>exact absurd hdd hd
  |some d=>
   refine .inl ⟨hw,sI.tmps d,fun H hH=>?_,fun d' e=>by rw[hdd] at e;cases e;rfl⟩
   obtain ⟨R2,e2,s2,hsub,hrel,htm,hlk,hq⟩:=hH
   obtain ⟨hl1,hl2⟩:=hlk o ho
   simp only[qAgain,ho,Bool.and_true] at hq
   rw[wantA_ren (s:=s2) htm,W12 (f:=s2.tmps) (g:=sI.tmps) hl1,hw,if_pos rfl] at hq
   split at hq<;>try (cases hq;done)
   rename_i v hv
   rw[hdd] at hq
   simp only at hq
   have e1:=eqA_eq hq
   have hevr:∀ x,Ren R2 (ev C.G e2.tr.get x) (AS.eval C.G ⟨s2.tmps,H,[]⟩ x):=fun x=>ev_ren (s:=⟨s2.tmps,H,[]⟩) hC htm x
   obtain ⟨v',g1,g2⟩:=xq_sound hih hv hrel hevr
   rw[<-e1,hl2 d hdd] at g1
   have:=Ren.fn hrel.fn ((h1 d).mono hsub) g1
   rw[this]
   exact VQuiet.congr (s:=⟨s2.tmps,H,[]⟩) (s':=⟨sI.tmps,H,[]⟩) g2 fun t ht=>(hl1 t ht).symm
theorem filter_contains (l:List Nat) (p:Nat->Bool):(fun k=>(l.filter p).contains k)=fun k=>l.contains k&&p k:=by
 funext k
 rw[Bool.eq_iff_iff]
 simp
theorem lall_ok {q:Nat->Bool} (h:lall ops q L=true):∀ i,i<ops.size->q i=false->L.getD i false=true:=fun i hi hq=>by
 have:=List.all_eq_true.1 h i (List.mem_range.2 hi)
 simpa[hq] using this
theorem mixGo_sound (hC:COk C) (hih:SoundCall C ih) (hm:m<=4000) {q:Nat->Bool} {g:Bool} {N:AS->Prop} (hf:MixFacts ops q) (hops:∀ o∈ops,operOk m o=true):∀ (f:Nat) {L:Array Bool} {pd:List Nat} {e r:XS} {R:NR} {s:AS},
  mixGo C ih ops q g n0 Kp f L pd e=some r->L.size=ops.size->MS C.P R0 rd es0 s0 n0 Kp ops.size L R e s ->
  (∀ i o,q i=true->ops[i]?=some o->(∀ t∈o.looksAt ops,s.tmps t=sI.tmps t)/\∀ d,o.dst=some d->e.tr.get d=es1.tr.get d)->(∀ k,k∈pd->q k=true) ->
  (∀ R' s',PostS C.P R0 R' rd es0 r s0 s'->N s')->VCh C.P C.G ops q (HPq C ih ops R0 es1 sI) N f L (fun k=>pd.contains k) s
 |0,L,pd,e,r,R,s,hx,hsz,hr,hq,hpd,hN=>by
  simp only[mixGo] at hx
  split at hx<;>cases hx
  rename_i hall
  exact ⟨lall_ok hall,hN R s hr.postS.gen_to⟩
 |f+1,L,pd,e,r,R,s,hx,hsz,hr,hq,hpd,hN=>by
  have one:∀ (i:Nat) (o:Oper) (e' r':XS),i∈cready (wB (masksGo ops.toList [])) ops q L->ops[i]?=some o->partStep C ih ops n0 Kp i o e=some e' ->
    qAgain C ih ops e'.tr e'.hs (pd.filter fun k=>!wB (masksGo ops.toList []) i k)=true->mixGo C ih ops q g n0 Kp f (L.setIfInBounds i true) (pd.filter fun k=>!wB (masksGo ops.toList []) i k) e'=some r' ->
    (∀ R' s',PostS C.P R0 R' rd es0 r' s0 s'->N s') ->
    VOp C.P C.G ops (onN N fun _ _=>False) o (fun s'=>(∀ k,(pd.contains k&&!wB (masksGo ops.toList []) i k)=true->HPq C ih ops R0 es1 sI k s'.H)/\VCh C.P C.G ops q (HPq C ih ops R0 es1 sI) N f (L.setIfInBounds i true) (fun k=>pd.contains k&&!wB (masksGo ops.toList []) i k) s') s:=by
   intro i o e' r' hi ho hp hqa hgo hN'
   have his:=(Array.getElem?_eq_some_iff.1 ho).1
   have hi2:=(List.mem_filter.1 hi).2
   simp only[Bool.and_eq_true,Bool.not_eq_true'] at hi2
   refine part_sound hC hih hm hp (hops o (Array.mem_of_getElem? ho)) his hsz hi2.1.2 hr fun R' s' hr' ht=>?_
   have hq':∀ j p,q j=true->ops[j]?=some p->(∀ t∈p.looksAt ops,s'.tmps t=sI.tmps t)/\∀ d,p.dst=some d->e'.tr.get d=es1.tr.get d:=by
    intro j p hj hpj
    obtain ⟨h1,h2⟩:=hq j p hj hpj
    refine ⟨fun t htl=>?_,fun d hd=>?_⟩
    ·have hne:o.dst≠some t:=fun e=>by
      have:=(hf.look j i p o t hpj ho hj e htl).1
      rw[hi2.1.1] at this;cases this
     rw[(ht t hne).1,h1 t htl]
    ·have hne:o.dst≠some d:=fun e=>by
      have:=hf.uniq j i p o d hpj ho hj hd e
      subst this;rw[hi2.1.1] at hj;cases hj
     rw[(ht d hne).2,h2 d hd]
   refine ⟨fun k hk=>?_,?_⟩
   ·simp only[Bool.and_eq_true,List.contains_iff_mem] at hk
    have hkm:k∈pd.filter fun k=>!wB (masksGo ops.toList []) i k:=List.mem_filter.2 ⟨by simpa using hk.1,hk.2⟩
    exact ⟨R',e',s',hr'.post.sub,hr'.rel.mono hr'.F_sub,hr'.tm,fun p hp=>hq' k p (hpd k (by simpa using hk.1)) hp,qAgain_one hqa k hkm⟩
   ·rw[<-filter_contains pd fun k=>!wB (masksGo ops.toList []) i k]
    exact mixGo_sound hC hih hm hf hops f hgo (by simp[hsz]) hr' hq' (fun k hk=>hpd k (List.mem_filter.1 hk).1) hN'
  simp only[mixGo] at hx
  split at hx
  ·rename_i hcr
   split at hx<;>cases hx
   rename_i hall
   exact ⟨fun _=>hN R s hr.postS.gen_to,fun i hi=>by rw[hcr] at hi;cases hi⟩
  ·rename_i i rest hcr
   split at hx<;>try (cases hx;done)
   rename_i o ho
   split at hx<;>try (cases hx;done)
   rename_i e' hp
   split at hx<;>try (cases hx;done)
   rename_i hqa
   split at hx<;>try (cases hx;done)
   rename_i r' hgo
   split at hx<;>cases hx
   rename_i hrest
   have hmem:i∈cready (wB (masksGo ops.toList [])) ops q L:=by rw[hcr];simp
   refine ⟨fun hall=>?_,fun j hj o' ho'=>?_⟩
   ·have hi2:=(List.mem_filter.1 hmem).2
    simp only[Bool.and_eq_true,Bool.not_eq_true'] at hi2
    have:=hall i (List.mem_range.1 (List.mem_filter.1 hmem).1) hi2.1.1
    rw[hi2.1.2] at this;cases this
   ·rw[hcr] at hj
    rcases List.mem_cons.1 hj with e1|e1
    ·subst e1
     rw[ho] at ho';cases ho'
     exact one j o e' r hmem ho hp hqa hgo hN
    ·have hj2:=List.all_eq_true.1 hrest j e1
     rw[ho'] at hj2
     simp only at hj2
     split at hj2<;>try (cases hj2;done)
     rename_i e2 hp2
     simp only[Bool.and_eq_true] at hj2
     obtain ⟨hqa2,hj3⟩:=hj2
     split at hj3<;>try (cases hj3;done)
     rename_i r2 hgo2
     exact one j o' e2 r2 (by rw[hcr];simp[e1]) ho' hp2 hqa2 hgo2 fun R' s' p=>hN R' s' (p.eqS_to hj3)
theorem unl_le (L:Nat->Bool):∀ k,unl L k<=k
 |0=>Nat.le_refl _
 |k+1=>by
  simp only[unl]
  have:=unl_le L k
  split<;>omega
theorem getD_rep (n i:Nat):(Array.replicate n false).getD i false=false:=by
 simp[Array.getD_eq_getD_getElem?,Array.getElem?_replicate]
 split<;>rfl
theorem mixRun_sound (hC:COk C) (hih:SoundCall C ih) (hm:m<=4000) {q:Nat->Bool} {g:Bool} (hx:mixRun C ih ops q g es=some es') (hr:RelS C.P R rd es s) {id:Nat} {rr:Option Nat} (hk:∀ R' s',PostS C.P R R' rd es es' s s'->Q .normal s') :
  VW C.P C.G m rr (.region id ops true) Q s:=by
 unfold mixRun at hx
 split at hx<;>try (cases hx;done)
 rename_i hck
 simp only[Bool.and_eq_true] at hck
 obtain ⟨⟨hmix,hdst⟩,hle⟩:=hck
 have hle:es.hs.n+ops.size*2 ^ (24*es.hs.lv)<=es.hs.m:=by simpa using hle
 split at hx<;>try (cases hx;done)
 rename_i es1 h1
 split at hx<;>try (cases hx;done)
 rename_i hqa
 split at hx<;>cases hx
 rename_i hgo
 have hf:=mixFacts hmix
 intro hc
 have hops:∀ o∈ops,operOk m o=true:=Array.all_eq_true_iff_forall_mem.1 hc
 have hopq:∀ o∈opersOf ops q,operOk m o=true:=fun o h=>by
  unfold opersOf at h
  obtain ⟨j,_,hj⟩:=List.mem_filterMap.1 h
  exact hops o (Array.mem_of_getElem? hj)
 obtain ⟨sI,r1,e1,e2,e3,e4⟩:=runQ_rel hC hih hm _ h1 hopq hr
 have hpart:∀ k,Fm es1.hs.n (2 ^ (24*es1.hs.lv)) ops.size es.hs.m (Array.replicate ops.size false) k->es.hs.F k:=by
  rw[e1]
  rintro k (h|⟨i,hi,_,h2,h3⟩)
  ·exact ⟨by omega,h.2⟩
  ·refine ⟨by omega,?_⟩
   have:(i+1)*2 ^ (24*es.hs.lv)<=ops.size*2 ^ (24*es.hs.lv):=Nat.mul_le_mul_right _ hi
   rw[Nat.succ_mul] at this
   omega
 have hms:MS C.P R rd es s es1.hs.n (2 ^ (24*es1.hs.lv)) ops.size (Array.replicate ops.size false) R ⟨es1.tr,{ es1.hs with n:=es1.hs.n+ops.size*2 ^ (24*es1.hs.lv) }⟩ sI:=by
  refine ⟨?_,?_,r1.tm,r1.d1,r1.d2,rfl,⟨by rw[e1],by rw[e1],by rw[e1],by rw[e1]⟩⟩
  ·have:=r1.heap
   rw[e1] at this ⊢
   rw[e1] at hpart
   exact this.mono hpart
  ·simp only[e2]
   have:es1.hs.h=es.hs.h:=by rw[e1]
   rw[this]
   exact .refl hpart
 have hqi:∀ i,i<ops.size->q i=true->qAgain C ih ops es1.tr es1.hs [i]=true:=fun i hi hq=>qAgain_one hqa i (List.mem_filter.2 ⟨List.mem_range.2 hi,hq⟩)
 have hv:=mixGo_sound (sI:=sI) (es1:=es1) (N:=fun s'=>Q .normal s') hC hih hm hf hops ops.size hgo (by simp) hms (fun i o _ _=>⟨fun _ _=>rfl,fun _ _=>rfl⟩)
  (fun k hk'=>(List.mem_filter.1 hk').2) fun R' s' p=>hk R' s' p
 have hany:VAny C.P C.G ops (onN (fun s'=>Q .normal s') fun _ _=>False) ops.size (Array.replicate ops.size false) s:=by
  refine mix_run hf ops.size ops.size (Array.replicate ops.size false) (Array.replicate ops.size false) _ s sI (by simp) (unl_le _ _) ?_ (by simp) (fun _ _=>rfl) ?_ hv ?_ e2.symm e3.symm ?_
  ·intro i o _ h
   rw[getD_rep] at h;cases h
  ·intro i o hq ho _
   have hi:=(Array.getElem?_eq_some_iff.1 ho).1
   refine ⟨by simp[hi,hq],R,es1,sI,fun _ _ _ h=>h,r1.heap,r1.tm,fun _ _=>⟨fun _ _=>rfl,fun _ _=>rfl⟩,hqi i hi hq⟩
  ·intro i o hq ho
   have hi:=(Array.getElem?_eq_some_iff.1 ho).1
   have hd:o.dst≠none:=by
    have:=List.all_eq_true.1 hdst i (List.mem_range.2 hi)
    rw[hq,ho] at this
    simp only[Bool.not_true,Bool.false_or] at this
    intro e
    rw[e] at this
    cases this
   refine HPq.yld hC hih ho hd r1.tm fun hw d hdd=>?_
   have hq1:=hqi i hi hq
   simp only[qAgain,ho,Bool.and_true] at hq1
   rw[wantA_ren (s:=sI) r1.tm,hw] at hq1
   rw[hdd] at hq1
   simp only[Bool.false_eq_true,if_false] at hq1
   have:=eqA_eq hq1
   have h2:=r1.tm d
   rw[this] at h2
   exact h2.val_inv
  ·intro t ht
   refine (e4 t fun o ho=>?_).symm
   unfold opersOf at ho
   obtain ⟨j,hj,hjo⟩:=List.mem_filterMap.1 ho
   exact ht j o (List.mem_filter.1 hj).2 (getD_rep _ _) hjo
 refine (VW_region_any hC.mixed hany).mono ?_ hc
 intro x s' h
 cases x with
 |normal=>exact h
 |_=>exact h.elim
end
end Go.V
