/- An evaluator for closed runs: quiet operations, lists of operations. No condition. -/
import Derived.Test.YtjeiboididfgmaaGreatDoorRYh
set_option linter.unusedVariables false
set_option linter.unusedSimpArgs false
namespace Go.V
open Go
structure COk (C:Cfg):Prop where
 mixed:C.P.follows .mixedOrders=true
 glob:∀ g cs,C.G g=some cs->gndL cs=true
 hook:∀ f g all v,C.hook f=some g->g all=some v->gnd v=true/\∀ H,PureF C.P C.G f all H v
 dq:∀ k,C.dq k=true->DQ C.P k
 clone:∀ f e sz,C.clone f=some (e,sz)->∀ (x:AV) (H:HM) (ys:List AV) (K:ARes->HM->Prop),srcOf H x=some ys->(∀ y∈ys,y.cells.length=sz)->ys.length<=lim->(ys=[]->K (.ret .nil0) H) ->
  (ys≠[]->∀ b cap,H b=none->K (.ret (.mlist b ys.length cap)) (H.upd b (.row e sz cap ys)))->Plain C.P f=true/\CallF C.P C.G f [x] H K
section
variable {C:Cfg} {ih:XTask->Option TOut} {ρ ρ':Operand->AV} {hs hs':HS} {o:Oper} {v:AV} {R:NR} {H:HM}
theorem xq_sound (hih:SoundCall C ih) (hx:xq C ih ρ hs o=some v) (hr:RelX R hs.F hs.h H) (hρ:∀ x,Ren R (ρ x) (ρ' x)):∃ v',Ren R v v'/\VQuiet C.P C.G ρ' H o v':=by
 have pure:(xpure C ρ hs o).map (·.1)=some v->∃ v',Ren R v v'/\VQuiet C.P C.G ρ' H o v':=fun h=>by
  cases hp:xpure C ρ hs o with
  |none=>rw[hp] at h;cases h
  |some r=>
   rw[hp] at h
   simp only[Option.map_some,Option.some.injEq] at h
   obtain ⟨v0,hs0⟩:=r
   simp only at h
   subst h
   exact (xpure_sound hp hr.toRelH hρ).2
 unfold xq at hx
 split at hx
 ·rename_i c hop
  split at hx
  ·rename_i f hf
   split at hx<;>try (cases hx;done)
   rename_i v0 hs0 hc
   split at hx<;>try (cases hx;done)
   rename_i g hg
   split at hx<;>cases hx
   rename_i hgnd
   refine ⟨v,(gnd_ren R v hgnd).1,fun K hK=>?_⟩
   have hl:RenL R (c.args.toList.map ρ) (c.args.toList.map ρ'):=RenL.of_map _ fun x _=>hρ x
   have h0:VX C.P C.G ρ' H o (fun r H'=>∃ R' v',r=.ret v'/\Post hs.F R R' hs.F hs0.F hs.h hs0.h H H'/\RelX R' hs0.F hs0.h H'/\Ren R' v0 v'):=by
    refine I11 (M:=[]) ?_
    unfold vx;simp only[hop,hf]
    exact hih _ _ _ _ _ hc R H _ _ _ hr (hρ f) hl fun R' H' v' p r hv hsm=>⟨R',v',rfl,p,r,hv⟩
   refine VX.conv h0 ?_ ?_
   ·rintro v1 H' ⟨R',v',e,p,r,hv⟩
    cases e
    have vc:=rsv_view (G:=C.G) r.toRelH (settle_free hr p) (restr_drop H H') 64 _ _ _ hg hv
    have hH:restr H H'=H:=by
     funext b
     cases e:H b with
     |none=>exact restr_none e
     |some ob=>
      have hb:H b≠none:=by rw[e];simp
      rw[restr_some hb,(p.fr b hb fun k c hk hF=>hr.free _ _ _ hk hF).1,e]
    exact ⟨v,restr H H',restr_drop _ _,vc.view,by rw[hH];exact hK⟩
   ·rintro v1 H' ⟨R',v',e,_⟩
    cases e
  ·exact pure hx
 ·rename_i t x hop
  split at hx<;>cases hx
  rename_i h1
  refine ⟨_,.ref (hρ x).cells,fun K hK=>I11 (M:=[]) ?_⟩
  unfold vx;simp only[hop]
  have:isMut [] o.dst=false:=by unfold isMut;split<;>simp
  rw[this]
  exact ⟨by rw[(hρ x).one];exact h1,hK⟩
 ·rename_i t len parts hop
  obtain ⟨e,sz,htd,hcase⟩:=xslice_ren hx hρ
  rcases hcase with ⟨h1,h2,rfl⟩|⟨h1,h2,rfl⟩
  ·refine ⟨_,.nil0,fun K hK=>I11 (M:=[]) ?_⟩
   unfold vx;simp only[hop,htd]
   rw[if_pos h1];exact ⟨h2,hK⟩
  ·refine ⟨_,.list (RenL.of_map _ fun p _=>hρ _),fun K hK=>I11 (M:=[]) ?_⟩
   unfold vx;simp only[hop,htd]
   rw[if_neg h1]
   exact ⟨h2.1,h2.2.1,h2.2.2.1,h2.2.2.2.1,h2.2.2.2.2,hK⟩
 ·exact pure hx
end
structure RelS (P:Program) (R:NR) (rd:Bool) (es:XS) (s:AS):Prop where
 heap:RelX R es.hs.F es.hs.h s.H
 tm:∀ t,Ren R (es.tr.get t) (s.tmps t)
 d1:rd=true->s.defs=[]
 d2:defsOk P s.defs
structure PostS (P:Program) (R R':NR) (rd:Bool) (es es':XS) (s s':AS):Prop where
 post:Post es.hs.W R R' es.hs.F es'.hs.F es.hs.h es'.hs.h s.H s'.H
 rel:RelS P R' rd es' s'
 same:es.hs.Same es'.hs
section
variable {C:Cfg} {ih:XTask->Option TOut} {R R' R'':NR} {rd:Bool} {es es' es'':XS} {s s' s'':AS} {o:Oper} {ops:Array Oper} {m:Nat} {Q:AX->AS->Prop} {K:AS->Prop}
theorem HS.Same.W_eq {a b:HS} (h:a.Same b):b.W=a.W:=by funext k;simp only[HS.W,h.ro,h.rm]
theorem PostS.refl (h:RelS C.P R rd es s):PostS C.P R R rd es es s s:=⟨.refl,h,.refl _⟩
theorem PostS.trans (p:PostS C.P R R' rd es es' s s') (q:PostS C.P R' R'' rd es' es'' s' s''):PostS C.P R R'' rd es es'' s s'':=
 ⟨p.post.trans (p.same.W_eq▸q.post),q.rel,p.same.trans q.same⟩
theorem ev_ren (hC:COk C) (hr:∀ t,Ren R (es.tr.get t) (s.tmps t)) (x:Operand):Ren R (ev C.G es.tr.get x) (s.eval C.G x):=by
 cases x with
 |tmp t=>exact hr t
 |const v=>exact ren_cst v
 |func f=>exact .func rfl .nil .nil
 |global g=>
  simp only[ev,AS.eval]
  cases e:C.G g with
  |none=>exact .val _
  |some cs=>exact .ref (gndL_ren R cs (hC.glob g cs e)).1
theorem wantA_ren (hr:∀ t,Ren R (es.tr.get t) (s.tmps t)):wantA ops o es.tr.get=wantA ops o s.tmps:=by
 unfold wantA
 split
 ·rfl
 ·rename_i j want hg
  congr 1
  unfold yieldA
  split
  ·rename_i d hd
   have:=hr d
   generalize es.tr.get d=a at this
   generalize s.tmps d=b at this
   cases this<;>rfl
  ·rfl
theorem put_ren {d:Option Nat} (hd:dstOk m d=true) (hm:m<=4000) {v v':AV} {R:NR} {hs:HS} {H:HM} (hr:∀ t,Ren R (es.tr.get t) (s.tmps t)) (hv:Ren R v v'):∀ t,Ren R ((es.put d v hs).tr.get t) ((s.put d v' H).tmps t):=by
 intro t
 cases d with
 |none=>exact hr t
 |some i=>
  simp only[dstOk,decide_eq_true_eq] at hd
  simp only[XS.put,AS.put,upd]
  rw[Tr.get_set 12 es.tr i v (by omega) t]
  split
  ·exact hv
  ·exact hr t
theorem opStep_sound (hC:COk C) (hih:SoundCall C ih) (hx:opStep C ih ops o es=some es') (ho:operOk m o=true) (hm:m<=4000) (hr:RelS C.P R rd es s) (hk:∀ R' s',PostS C.P R R' rd es es' s s'->s'.defs=s.defs->(∀ t,o.dst≠some t->s'.tmps t=s.tmps t)->K s') :
  VOp C.P C.G ops Q o K s:=by
 unfold opStep at hx
 simp only[operOk,Bool.and_eq_true] at ho
 unfold VOp
 rw[wantA_ren (s:=s) hr.tm] at hx
 split at hx
 ·rename_i hw
  rw[if_pos hw]
  split at hx<;>cases hx
  rename_i v hs' hop
  refine xop_sound hih hop hr.heap (ev_ren hC hr.tm) fun R' H' v' p r hv hsm=>?_
  refine hk R' _ ⟨p,⟨r,put_ren ho.1 hm (fun t=>(hr.tm t).mono p.sub) hv,hr.d1,hr.d2⟩,hsm⟩ rfl fun t ht=>X11 ht
 ·rename_i hw
  rw[if_neg hw]
  cases hx
  exact hk R _ ⟨.refl,⟨hr.heap,put_ren ho.1 hm hr.tm (.val _),hr.d1,hr.d2⟩,.refl _⟩ rfl fun t ht=>X11 ht
theorem runOps_sound (hC:COk C) (hih:SoundCall C ih) (hm:m<=4000):∀ (l:List Oper) {es es':XS} {R:NR} {s:AS},runOps C ih ops l es=some es'->(∀ o∈l,operOk m o=true)->RelS C.P R rd es s ->
  (∀ R' s',PostS C.P R R' rd es es' s s'->Q .normal s')->VOps C.P C.G ops Q l s
 |[],es,es',R,s,hx,_,hr,hk=>by
  simp only[runOps] at hx;cases hx
  exact hk _ _ (.refl hr)
 |o::l,es,es',R,s,hx,ho,hr,hk=>by
  simp only[runOps] at hx
  split at hx<;>try (cases hx;done)
  rename_i es1 h1
  exact opStep_sound hC hih h1 (ho o (by simp)) hm hr fun R1 s1 p1 _ _=>runOps_sound hC hih hm l hx (fun o' h'=>ho o' (by simp[h'])) p1.rel fun R' s' p=>hk R' s' (p1.trans p)
theorem runOpsD_sound (hC:COk C) (hih:SoundCall C ih) (hm:m<=4000):∀ (l:List Oper) {es es':XS} {R:NR} {s:AS},runOpsD C ih ops l es=some es'->(∀ o∈l,operOk m o=true)->RelS C.P R false es s ->
  (∀ R' s',PostS C.P R R' false es es' s s'->Q .normal s')->VOpsD C.P C.G ops Q l s
 |[],es,es',R,s,hx,_,hr,hk=>by
  simp only[runOpsD] at hx;cases hx
  exact hk _ _ (.refl hr)
 |o::l,es,es',R,s,hx,ho,hr,hk=>by
  simp only[runOpsD] at hx
  show VOpD C.P C.G ops Q o (VOpsD C.P C.G ops Q l) s
  unfold VOpD
  split at hx
  ·rename_i c hop
   try (rw[hop];simp only)
   split at hx<;>try (cases hx;done)
   rename_i hw
   simp only[Bool.and_eq_true] at hw
   split at hx<;>try (cases hx;done)
   rename_i f hf
   split at hx<;>try (cases hx;done)
   rename_i k fs cs hfv
   split at hx<;>try (cases hx;done)
   rename_i hdq
   have hfr:=ev_ren hC hr.tm f
   rw[hfv] at hfr
   have hfe:∃ first cap,s.eval C.G f=.func (.func k) first cap:=by
    generalize s.eval C.G f=q at hfr
    cases hfr with
    |@func _ f2 _ _ _ _ hfn h1 h2=>
     obtain rfl:f2=.func k:=by cases f2<;>simp only[FnR] at hfn<;>first|exact hfn.symm|exact hfn.elim
     exact ⟨_,_,rfl⟩
   obtain ⟨first,cap,hfe⟩:=hfe
   refine ⟨by rw[<-wantA_ren (es:=es) hr.tm];exact hw.1,by simpa using hw.2,?_⟩
   rw[hf]
   simp only
   refine ⟨⟨k,first,cap,hfe⟩,?_⟩
   have hr2:RelS C.P R false es ⟨s.tmps,s.H,.call (s.eval C.G f) (c.args.toList.map (s.eval C.G))::s.defs⟩:=by
    refine ⟨hr.heap,hr.tm,(by intro e;cases e),fun d hd=>?_⟩
    rcases List.mem_cons.1 hd with e|e
    ·subst e;exact ⟨k,first,cap,hfe,hC.dq k hdq⟩
    ·exact hr.d2 d e
   exact runOpsD_sound hC hih hm l hx (fun o' h'=>ho o' (by simp[h'])) hr2 fun R' s' p=>hk R' s' ⟨p.post,p.rel,p.same⟩
  ·rename_i hnd
   split at hx<;>try (cases hx;done)
   rename_i es1 h1
   split
   ·rename_i c hop;exact absurd hop (hnd c)
   ·exact opStep_sound hC hih h1 (ho o (by simp)) hm hr fun R1 s1 p1 _ _=>runOpsD_sound hC hih hm l hx (fun o' h'=>ho o' (by simp[h'])) p1.rel fun R' s' p=>hk R' s' (p1.trans p)
end
end Go.V
