/- An evaluator for closed runs: ranges over functions; the evaluator is sound. No condition. -/
import Derived.Test.YtjeiboididfgmaaGreatDoorRYp
set_option linter.unusedVariables false
set_option linter.unusedSimpArgs false
namespace Go.V
open Go
theorem exitOf_ok {j:Code} {x:XT} (h:exitOf j=some x):jumpOf (toAX x)=some j:=by
 unfold exitOf at h
 split at h<;>cases h<;>rfl
theorem Post.del {W F F':Nat->Prop} {R R':NR} {h h':Hp} {H H':HM} (p:Post W R R' F F' h h' H H') {l l':Nat} (hn:H l'=none):Post W R R' F F' h (hdel h' l) H (H'.del l'):=by
 have hh:∀ k o,hget (hdel h' l) k=some o->hget h' k=some o:=fun k o e=>by
  rw[hget_del] at e
  split at e
  ·cases e
  ·exact e
 have hd:∀ b,H b≠none->(H'.del l') b=H' b:=fun b hb=>by
  have:b≠l':=by rintro rfl;exact hb hn
  simp only[HM.del,if_neg this]
 refine ⟨p.sub,p.le,fun k hk hl=>?_,fun b hb hb2=>?_,fun b hb=>?_,fun k o b c hk hR=>p.org k o b c (hh k o hk) hR,p.new⟩
 ·cases e:hget (hdel h' l) k with
  |none=>exact absurd e hl
  |some o=>exact p.live k hk (by rw[hh k o e];simp)
 ·rw[hd b hb];exact p.fr b hb hb2
 ·rw[hd b hb];exact p.d b hb
section
variable {C:Cfg} {R:NR} {es es':XS} {s:AS} {m:Nat} {Q:AX->AS->Prop} {x:XT}
theorem range_sound (hC:COk C) {n:Nat} (hfn:SoundFn C (run C n)) {g:Operand} {ps:Array Nat} {asg body:Code} (hx:sRange C (run C n) m ps asg body es (ev C.G es.tr.get g)=some (.code x es')) (hr:RelS C.P R false es s)
  (hk:∀ R' s',PostS C.P R R' false es es' s s'->Q (toAX x) s'):VW C.P C.G m none (.rangeFunc g ps asg body) Q s:=by
 have hg:=ev_ren hC hr.tm g
 generalize ev C.G es.tr.get g=gv at hx hg
 unfold sRange at hx
 split at hx<;>try (cases hx;done)
 rename_i gf first cap
 split at hx<;>try (cases hx;done)
 rename_i hck
 simp only[Bool.and_eq_true] at hck
 obtain ⟨⟨⟨⟨c1,c2⟩,c3⟩,c4⟩,c5⟩:=hck
 have c3':∀ p∈ps,p<m:=fun p hp=>by simpa using Array.all_eq_true_iff_forall_mem.1 c3 p hp
 have hF0:=HS.room_F c1
 obtain ⟨first',cap',hge,hfr,hcr⟩:∃ first' cap',s.eval C.G g=.func (.func gf) first' cap'/\RenL R first first'/\RenL R cap cap':=by
  generalize s.eval C.G g=q at hg
  cases hg with
  |@func _ f2 _ _ _ _ hfn h1 h2=>
   obtain rfl:f2=.func gf:=by cases f2<;>simp only[FnR] at hfn<;>first|exact hfn.symm|exact hfn.elim
   exact ⟨_,_,rfl,h1,h2⟩
 refine VW_rangeFuncG (tm:=s.tmps) (H:=s.H) (ds:=s.defs) (first:=first') (cap:=cap') (gf:=gf) (by rw[<-eval_ev (H:=s.H) (ds:=s.defs)];exact hge) c2 fun l rec hl r1 r2 r3 r4 r5 r6=>?_
 obtain ⟨e1,e2⟩:=hr.heap.push (W:=es.hs.W) hF0 (HS.push_F (o:=.loop ps asg body none m es.tr)) (b:=l) (c:=0) (o:=.loop ps asg body none m es.tr) (o':=.loop rec s.tmps) hl
  ⟨rec,s.tmps,rfl,r1,r2,r3,r5,r6,fun _=>r4,by rw[r4];simp,c3',c4,c5,fun t=>(hr.tm t).mono ext_sub⟩ rfl
 have hR0:ext R es.hs.n l 0 es.hs.n l 0:=.inr ⟨rfl,rfl,rfl⟩
 have hargs:RenL (ext R es.hs.n l 0) (first++[.func (.yield es.hs.n) [] []]++cap) (first'++[.func (.yield l) [] []]++cap'):=
  ((hfr.mono ext_sub).append (.cons (.func (show FnR (ext R es.hs.n l 0) (.yield es.hs.n) (.yield l) from ⟨0,hR0⟩) .nil .nil) .nil)).append (hcr.mono ext_sub)
 cases h1:run C n (.call (.func (.func gf) first cap) [.func (.yield es.hs.n) [] []] (es.hs.push (.loop ps asg body none m es.tr))) with
 |none=>rw[h1] at hx;cases hx
 |some o1=>
  rw[h1] at hx
  cases o1 with
  |code _ _=>cases hx
  |call v hs'=>
   refine (hfn _ _ _ _ _ _ _ h1 _ _ _ _ e1 hargs fun R' H'' v' p r hv hsm=>?_).2
   simp only[sEnd] at hx
   split at hx<;>try (cases hx;done)
   rename_i ps2 asg2 body2 pend m2 tr2 hlp
   obtain ⟨o',hH,rec',tm',rfl,g1,g2,g3,g4,g5,g6,g7,_⟩:=r.toRelH.at hlp (p.sub _ _ _ hR0)
   have hsame:es.hs.Same hs':=⟨hsm.m,hsm.lv,hsm.ro,hsm.rm⟩
   have hrel:RelX R' hs'.F (hdel hs'.h es.hs.n) (H''.del l):=del_rel r hlp (p.sub _ _ _ hR0)
   have hpost:Post es.hs.W R R' es.hs.F hs'.F es.hs.h (hdel hs'.h es.hs.n) s.H (H''.del l):=Post.del (e2.trans p) hl
   have hsub:∀ k b c,R k b c->R' k b c:=hpost.sub
   have fin:∀ D,PostS C.P R R' false es ⟨es.tr,{ hs' with h:=hdel hs'.h es.hs.n }⟩ s ⟨s.tmps,H''.del l,.mark D::s.defs⟩:=fun D=>
    ⟨hpost,⟨hrel,fun t=>(hr.tm t).mono hsub,(by intro e;cases e),fun d hd=>by
     rcases List.mem_cons.1 hd with e|e
     ·subst e;trivial
     ·exact hr.d2 d e⟩,⟨hsame.m,hsame.lv,hsame.ro,hsame.rm⟩⟩
   refine ⟨v',H''.del l,rec',tm',rfl,HM.del_same l,(HM.upd_del hH).symm,g7,fun D hD hmk=>?_⟩
   split at hx
   ·cases hx
    refine ⟨fun _=>hk R' _ (fin D),fun c hc=>?_⟩
    rw[g4] at hc;cases hc
   ·rename_i j
    split at hx<;>cases hx
    rename_i hex
    refine ⟨fun hc=>?_,fun c hc=>?_⟩
    ·rw[g4] at hc;cases hc
    ·rw[g4] at hc;cases hc
     exact ⟨toAX x,exitOf_ok hex,hk R' _ (fin D)⟩
end
theorem run_sound {C:Cfg} (hC:COk C):∀ n,(∀ k,k<=n->SoundCode C (run C k))/\(∀ k,k<=n->SoundCall C (run C k))/\∀ k,k<=n->SoundFn C (run C k)
 |0=>by
  refine ⟨fun k hk=>?_,fun k hk=>?_,fun k hk=>?_⟩<;>obtain rfl:k=0:=by omega
  ·intro m rd c es x es' h;cases h
  ·intro fv args hs v hs' h;cases h
  ·intro f first cap args hs v hs' h;cases h
 |n+1=>by
  obtain ⟨h1,h2,h3⟩:=run_sound hC n
  have code:SoundCode C (run C (n+1)):=by
   intro m rd c es x es' h hm R s rr Q hr hrr hk
   have hx:xcode C (run C n) m rd es c=some (.code x es'):=h
   refine xcode_sound hC h1 (h2 n (Nat.le_refl _)) hm ?_ hx hr hrr hk
   intro g ps asg body hc hrd
   subst hc hrd
   exact range_sound hC (h3 n (Nat.le_refl _)) (by simpa[xcode] using hx) hr hk
  have fn:SoundFn C (run C (n+1)):=by
   intro f first cap args hs v hs' h R H all' K hr ha hk
   exact cFunc_sound hC (h1 n (Nat.le_refl _)) (show cFunc C (run C n) f (first++args++cap) hs=some (.call v hs') from h) hr ha hk
  have call:SoundCall C (run C (n+1)):=by
   intro fv args hs v hs' h R H fv' args' K hr hf ha hk
   have hx:xvalue C (run C n) args hs fv=some (.call v hs'):=h
   unfold xvalue at hx
   split at hx
   ·rename_i f first cap
    cases hf with
    |@func _ f2 _ first' _ cap' hfn g1 g2=>
     obtain rfl:f2=.func f:=by cases f2<;>simp only[FnR] at hfn<;>first|exact hfn.symm|exact hfn.elim
     obtain ⟨p1,p2⟩:=cFunc_sound hC (h1 n (Nat.le_refl _)) hx hr ((g1.append ha).append g2) hk
     exact CallF.callV p1 p2
   ·exact cYield_sound hC (h1 n (Nat.le_refl _)) hx hr hf ha hk
   ·cases hx
  refine ⟨fun k hk=>?_,fun k hk=>?_,fun k hk=>?_⟩<;>rcases Nat.lt_or_ge n k with e|e
  ·obtain rfl:k=n+1:=by omega
   exact code
  ·exact h1 k e
  ·obtain rfl:k=n+1:=by omega
   exact call
  ·exact h2 k e
  ·obtain rfl:k=n+1:=by omega
   exact fn
  ·exact h3 k e
def topN:Nat:=Nat.shiftLeft 1 1440
def H0:HS:=⟨[],0,topN,59,0,topN⟩
def closed (C:Cfg) (fuel:Nat) (f:FuncId) (args:List AV):Option AV:=if gndL args then match run C fuel (.call (.fn f) args H0) with
  |some (.call v hs')=>match rsv hs'.h 0 topN 64 v with
   |some g=>if gnd g then some g else none
   |none=>none
  |_=>none
 else none
theorem closed_sound {C:Cfg} (hC:COk C) {fuel:Nat} {f:FuncId} {args:List AV} {v:AV} (h:closed C fuel f args=some v) (H:HM):PureF C.P C.G f args H v:=by
 unfold closed at h
 split at h<;>try (cases h;done)
 rename_i hg
 split at h<;>try (cases h;done)
 rename_i v0 hs' hrun
 split at h<;>try (cases h;done)
 rename_i g hrs
 split at h<;>cases h
 have hr0:RelX (fun _ _ _=>False) H0.F H0.h H:=⟨⟨fun k o e=>(by cases e),fun _ _ _ _ _ e=>e.elim,fun _ _ _ _ _ _ _ e=>(by cases e)⟩,fun _ _ _ e=>e.elim,fun _ _ e=>(by cases e)⟩
 have hfn:=((run_sound hC fuel).2.2 fuel (Nat.le_refl _)) f [] [] args H0 v0 hs' hrun (fun _ _ _=>False) H args
 have ha:RenL (fun _ _ _=>False) ([]++args++[]) args:=by simpa using (gndL_ren (fun _ _ _=>False) args hg).1
 refine ⟨(hfn (fun _ _=>True) hr0 ha fun _ _ _ _ _ _ _=>trivial).1,fun K hK=>?_⟩
 have hc:=(hfn (fun r H'=>∃ R' v',r=.ret v'/\Post H0.W (fun _ _ _=>False) R' H0.F hs'.F H0.h hs'.h H H'/\RelX R' hs'.F hs'.h H'/\Ren R' v0 v') hr0 ha fun R' H' v' p r hv _=>⟨R',v',rfl,p,r,hv⟩).2
 intro w vs h1 h2
 refine CallsIn.mono (hc w vs h1 h2) fun e w' he=>?_
 cases e with
 |returned u=>
  obtain ⟨a,H',⟨R',v',e,p,r,hv⟩,rep,st,ev⟩:=he
  cases e
  have vc:=rsv_view (G:=C.G) r.toRelH (settle_free hr0 p) (restr_drop H H') 64 _ _ _ hrs hv
  have hH:restr H H'=H:=by
   funext b
   cases e:H b with
   |none=>exact restr_none e
   |some ob=>
    have hb:H b≠none:=by rw[e];simp
    rw[restr_some hb,(p.fr b hb fun k c hk=>hk.elim).1,e]
  refine ⟨v,H,hK,?_,?_,?_⟩
  ·have:=vc.view w' u st rep;rwa [hH] at this
  ·have:=st.drop (restr_drop H H');rwa [hH] at this
  ·have:=ev.drop (restr_drop H H');rwa [hH] at this
 |panicked chain=>
  obtain ⟨u,_,a,H',⟨R',v',e,_⟩,_⟩:=he
  cases e
 |outgrown=>exact he
end Go.V
