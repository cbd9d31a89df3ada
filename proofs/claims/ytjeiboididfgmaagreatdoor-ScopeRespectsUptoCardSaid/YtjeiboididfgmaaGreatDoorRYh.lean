/- An evaluator for closed runs: values that are settled; operations. No condition. -/
import Derived.Test.YtjeiboididfgmaaGreatDoorRYe
set_option linter.unusedVariables false
set_option linter.unusedSimpArgs false
namespace Go.V
open Go
section
variable {G:GT} {H H1:HM}
theorem View.rowL {b n cap t sz:Nat} {xs ys:List AV} (h:Drop H H1) (hb:H b=some (.row t sz cap xs)) (hb1:H1 b=none) (hn:n=xs.length) (hl:xs.length<=lim) (hlen:ys.length=xs.length)
  (hz:∀ sz,(∀ x∈xs,x.cells.length=sz)->∀ y∈ys,y.cells.length=sz) (hv:ViewL G H H1 (flat xs) (flat ys)):View G H H1 (.mlist b n cap) (.list ys):=fun w u hst hr=>by
 cases hr
 subst hn
 obtain ⟨vs,rest,e1,e2,e3,e4,e5,e6⟩:=hst.obj _ _ hb
 have hlt:=(Array.getElem?_eq_some_iff.1 e1).1
 rw[<-hlen]
 refine .list (ad:=⟨b,0,none⟩) (fun _=>⟨hlt,hb1⟩) rfl (hz _ e3) (fun i v hi=>?_) e4 (by omega) (by omega) (hv.rep hst e2)
 rw[D11,G12 e1]
 have hi':=(List.getElem?_eq_some_iff.1 hi).1
 rw[List.getElem?_toArray,List.getElem?_append_left (by omega)]
 simpa using hi
theorem View.cellsR {b off t:Nat} {cs ys:List AV} (h:Drop H H1) (hb:H b=some (.cells t cs)) (hb1:H1 b=none) (hv:ViewL G H H1 (cs.drop off) ys):View G H H1 (.addr b off) (.ref ys):=fun w u hst hr=>by
 cases hr
 obtain ⟨vs,e1,e2,e3⟩:=hst.obj _ _ hb
 have hlt:=(Array.getElem?_eq_some_iff.1 e1).1
 refine .ref (ad:=⟨b,off,none⟩) (vs:=vs.drop off) (fun _=>⟨hlt,hb1⟩) rfl (fun i v hi=>?_) (fun v hv=>e3 v (List.mem_of_mem_drop hv)) (hv.rep hst (e2.drop off))
 rw[D11,G12 e1]
 rw[List.getElem?_drop] at hi
 simpa using hi
theorem View.func {f:Fn} {fs fs' cs cs':List AV} (h1:ViewL G H H1 fs fs') (h2:ViewL G H H1 cs cs'):View G H H1 (.func f fs cs) (.func f fs' cs'):=fun w u hst hr=>by
 cases hr with|func r1 r2=>exact .func (h1.rep hst r1) (h2.rep hst r2)
theorem View.iface {t:TypeId} {a a':AV} (h:View G H H1 a a'):View G H H1 (.iface t a) (.iface t a'):=fun w u hst hr=>by
 cases hr with|iface r=>exact .iface (h w _ hst r)
structure VC (G:GT) (H H1:HM) (a g:AV):Prop where
 view:View G H H1 a g
 cells:ViewL G H H1 a.cells g.cells
 len:g.cells.length=a.cells.length
 gnd:gnd g=true
theorem VC.one {a g:AV} (h:View G H H1 a g) (hg:Go.V.gnd g=true) (ha:a.cells=[a]) (hgc:g.cells=[g]):VC G H H1 a g:=⟨h,by rw[ha,hgc];exact .cons h .nil,by rw[ha,hgc];rfl,hg⟩
structure VCL (G:GT) (H H1:HM) (as gs:List AV):Prop where
 view:ViewL G H H1 as gs
 flat:ViewL G H H1 (Go.V.flat as) (Go.V.flat gs)
 len:gs.length=as.length
 sz:∀ sz,(∀ x∈as,x.cells.length=sz)->∀ y∈gs,y.cells.length=sz
 gnd:gndL gs=true
theorem mapO_vcl {R:NR} {f:AV->Option AV} (ih:∀ a a' g,f a=some g->Ren R a a'->VC G H H1 a' g):∀ {as as' gs:List AV},mapO f as=some gs->RenL R as as'->VCL G H H1 as' gs
 |[],_,_,h,.nil=>by
  simp only[mapO] at h;cases h
  exact ⟨.nil,.nil,rfl,fun _ _ y hy=>(by cases hy),rfl⟩
 |a::as,_,_,h,.cons (a':=a') (as':=as') h1 h2=>by
  simp only[mapO] at h
  split at h<;>try (cases h;done)
  rename_i g hg
  split at h<;>try (cases h;done)
  rename_i gs hgs
  cases h
  have c1:=ih _ _ _ hg h1
  have c2:=mapO_vcl ih hgs h2
  refine ⟨.cons c1.view c2.view,?_,by simp[c2.len],fun sz hs y hy=>?_,by simp[gndL,c1.gnd,c2.gnd]⟩
  ·have:∀ (x:AV) (l:List AV),Go.V.flat (x::l)=x.cells++Go.V.flat l:=fun x l=>by simp[Go.V.flat]
   rw[this,this];exact c1.cells.append c2.flat
  ·rcases List.mem_cons.1 hy with e|e
   ·subst e;rw[c1.len];exact hs _ (by simp)
   ·exact c2.sz sz (fun x hx=>hs x (by simp[hx])) y e
theorem rsv_view {R:NR} {h0:Hp} {n0 m:Nat} (hr:RelH R 0 h0 H) (hf:∀ k o b c,hget h0 k=some o->n0<=orgOf k o->orgOf k o<m->R k b c->H1 b=none) (hd:Drop H H1) :
  ∀ (f:Nat) (a a' g:AV),rsv h0 n0 m f a=some g->Ren R a a'->VC G H H1 a' g
 |0,_,_,_,h,_=>by cases h
 |f+1,a,a',g,h,ha=>by
  have ih:=rsv_view hr hf hd f
  simp only[rsv] at h
  have gmap:∀ {cs:List AV} {k:List AV->AV},(mapO (rsv h0 n0 m f) cs).map k=some g->∃ gs,mapO (rsv h0 n0 m f) cs=some gs/\g=k gs:=by
   intro cs k e
   cases hq:mapO (rsv h0 n0 m f) cs with
   |none=>rw[hq] at e;cases e
   |some gs=>rw[hq] at e;cases e;exact ⟨gs,rfl,rfl⟩
  split at h
  ·cases h;cases ha;exact VC.one (View.of_drop hd _) rfl rfl rfl
  ·cases h;cases ha;exact VC.one (View.of_drop hd _) rfl rfl rfl
  ·obtain ⟨gs,e,rfl⟩:=gmap h
   cases ha with
   |agg hl=>
    have c:=mapO_vcl ih e hl
    exact ⟨View.agg c.view,c.view,c.len,by simpa[Go.V.gnd] using c.gnd⟩
  ·obtain ⟨gs,e,rfl⟩:=gmap h
   cases ha with
   |tup hl=>
    have c:=mapO_vcl ih e hl
    exact VC.one (View.tup c.view) (by simpa[Go.V.gnd] using c.gnd) rfl rfl
  ·obtain ⟨gs,e,rfl⟩:=gmap h
   cases ha with
   |list hl=>
    have c:=mapO_vcl ih e hl
    exact VC.one (View.list hd c.len.symm c.sz c.flat) (by simpa[Go.V.gnd] using c.gnd) rfl rfl
  ·obtain ⟨gs,e,rfl⟩:=gmap h
   cases ha with
   |ref hl=>
    have c:=mapO_vcl ih e hl
    exact VC.one (View.ref hd c.view) (by simpa[Go.V.gnd] using c.gnd) rfl rfl
  ·rename_i t x
   cases hq:rsv h0 n0 m f x with
   |none=>rw[hq] at h;cases h
   |some g'=>
    rw[hq] at h;cases h
    cases ha with
    |iface hx=>
     have c:=ih _ _ _ hq hx
     exact VC.one (View.iface c.view) (by simpa[Go.V.gnd] using c.gnd) rfl rfl
  ·rename_i i fs cs
   split at h<;>try (cases h;done)
   rename_i fs' cs' e1 e2
   cases h
   cases ha with
   |@func _ f2 _ _ _ _ hfn h1 h2=>
    have c1:=mapO_vcl ih e1 h1
    have c2:=mapO_vcl ih e2 h2
    obtain rfl:f2=.func i:=by cases f2<;>simp only[FnR] at hfn<;>first|exact hfn.symm|exact hfn.elim
    exact VC.one (View.func c1.view c2.view) (by simp[Go.V.gnd,c1.gnd,c2.gnd]) rfl rfl
  ·rename_i es
   split at h<;>cases h
   rename_i hg
   obtain ⟨_,he⟩:=gnd_ren R (.imap es) (by simpa[Go.V.gnd] using hg)
   rw[he ha]
   exact VC.one (View.of_drop hd _) (by simpa[Go.V.gnd] using hg) rfl rfl
  ·rename_i k l c0
   split at h<;>try (cases h;done)
   rename_i t sz gg xs hm0
   split at h<;>try (cases h;done)
   rename_i hc
   obtain ⟨gs,e,rfl⟩:=gmap h
   cases ha with
   |@mlist _ b c _ _ hb=>
    obtain ⟨xs',e1,e2⟩:=hr.row hm0 hb
    have cc:=mapO_vcl ih e e2
    have hb1:=hf k _ b c (U12 hm0) hc.1 hc.2.1 hb
    exact VC.one (View.rowL hd e1 hb1 (by rw[e2.length];exact hc.2.2.1) (by rw[e2.length];exact hc.2.2.2) cc.len cc.sz cc.flat) (by simpa[Go.V.gnd] using cc.gnd) rfl rfl
  ·rename_i k off
   split at h<;>try (cases h;done)
   rename_i hc
   split at h<;>try (cases h;done)
   rename_i t cs hm0
   obtain ⟨gs,e,rfl⟩:=gmap h
   cases ha with
   |@addr _ b c _ hb=>
    obtain ⟨cs',e1,e2⟩:=hr.cells hm0 hb
    have cc:=mapO_vcl ih e (e2.drop off)
    have hb1:=hf k _ b c (U12 hm0) hc.1 hc.2 hb
    exact VC.one (View.cellsR hd e1 hb1 cc.view) (by simpa[Go.V.gnd] using cc.gnd) rfl rfl
  ·rename_i k
   split at h<;>try (cases h;done)
   rename_i hc
   split at h<;>try (cases h;done)
   rename_i es hm0
   split at h<;>cases h
   rename_i hg
   cases ha with
   |@map _ b c hb=>
    obtain ⟨es',e1,e2,e3⟩:=hr.map hm0 hb
    obtain ⟨_,_,he⟩:=gndP_ren R es hg
    obtain rfl:=he e2 e3
    have hb1:=hf k _ b c (U12 hm0) hc.1 hc.2 hb
    exact VC.one (View.map hd e1 hb1) (by simpa[Go.V.gnd] using hg) rfl rfl
  ·cases h
end
def restr (H H':HM):HM:=fun b=>match H b with
 |none=>none
 |some _=>H' b
theorem restr_some {H H':HM} {b:Nat} (h:H b≠none):restr H H' b=H' b:=by
 unfold restr;cases e:H b with
 |none=>exact absurd e h
 |some o=>rfl
theorem restr_none {H H':HM} {b:Nat} (h:H b=none):restr H H' b=none:=by unfold restr;rw[h]
theorem restr_drop (H H':HM):Drop H' (restr H H'):=fun b=>by
 cases e:H b with
 |none=>exact .inl (restr_none e)
 |some o=>exact .inr (restr_some (by rw[e];simp))
theorem hget_hold (n0 m:Nat):∀ (h:Hp) (k:Nat),hget (hold n0 m h) k=if n0<=k/\k<m then none else hget h k
 |[],k=>by simp[hold,hget]
 |(j,o)::h,k=>by
  simp only[hold]
  by_cases hj:n0<=j/\j<m
  ·rw[if_pos hj,hget_hold n0 m h k]
   by_cases hk:j=k
   ·subst hk;rw[if_pos hj,if_pos hj]
   ·have n2:¬ Nat.beq j k=true:=fun e=>hk (Nat.eq_of_beq_eq_true e)
    simp only[hget,if_neg n2]
  ·rw[if_neg hj]
   simp only[hget]
   by_cases hk:j=k
   ·subst hk;rw[if_pos (Nat.beq_refl j),if_neg hj,if_pos (Nat.beq_refl j)]
   ·have n2:¬ Nat.beq j k=true:=fun e=>hk (Nat.eq_of_beq_eq_true e)
    rw[if_neg n2,if_neg n2,hget_hold n0 m h k]
section
variable {C:Cfg} {hs hs':HS} {v v':AV} {R R':NR} {H H':HM} {W:Nat->Prop}
theorem settle_rel (hr:RelX R hs.F hs.h H) (hp:Post W R R' hs.F hs'.F hs.h hs'.h H H') (hr':RelX R' hs'.F hs'.h H') :
  Post W R R' hs.F hs'.F hs.h (hold hs.n hs.m hs'.h) H (restr H H')/\RelX R' hs'.F (hold hs.n hs.m hs'.h) (restr H H'):=by
 have hh:∀ k o,hget (hold hs.n hs.m hs'.h) k=some o->¬ hs.F k/\hget hs'.h k=some o:=fun k o e=>by
  rw[hget_hold] at e
  split at e
  ·cases e
  ·exact ⟨‹_›,e⟩
 have hold:∀ k o b c,hget (hold hs.n hs.m hs'.h) k=some o->R' k b c->H b≠none:=by
  intro k o b c e hR
  obtain ⟨h1,h2⟩:=hh k o e
  have h3:=hp.live k h1 (by rw[h2];simp)
  cases h4:hget hs.h k with
  |none=>exact absurd h4 h3
  |some o2=>
   obtain ⟨b0,c0,o3,g1,g2,g3⟩:=hr.obj k o2 h4
   obtain ⟨rfl,_⟩:=hr'.fn _ _ _ _ _ hR (hp.sub _ _ _ g1)
   rw[g2];simp
 refine ⟨⟨hp.sub,hp.le,fun k hk hl=>?_,fun b hb hb2=>?_,fun b hb=>?_,fun k o b c hk hR=>?_,hp.new⟩,⟨⟨fun k o hk=>?_,hr'.fn,fun k k' o o' b c c' h1 h2=>?_⟩,hr'.free,fun k o hk=>?_⟩⟩
 ·cases e:hget (Go.V.hold hs.n hs.m hs'.h) k with
  |none=>exact absurd e hl
  |some o=>exact hp.live k hk (by rw[(hh k o e).2];simp)
 ·obtain ⟨e1,e2⟩:=hp.fr b hb hb2
  exact ⟨by rw[restr_some hb];exact e1,e2⟩
 ·rw[restr_some hb];exact hp.d b hb
 ·exact hp.org k o b c (hh k o hk).2 hR
 ·obtain ⟨b,c,o',h1,h2,h3⟩:=hr'.obj k o (hh k o hk).2
  exact ⟨b,c,o',h1,by rw[restr_some (hold k o b c hk h1)];exact h2,h3⟩
 ·exact hr'.inj k k' o o' b c c' (hh k o h1).2 (hh k' o' h2).2
 ·exact hr'.orgin k o (hh k o hk).2
theorem settle_free (hr:RelX R hs.F hs.h H) (hp:Post W R R' hs.F hs'.F hs.h hs'.h H H'):∀ k o b c,hget hs'.h k=some o->hs.n<=orgOf k o->orgOf k o<hs.m->R' k b c->restr H H' b=none:=by
 intro k o b c hk h1 h2 hR
 rcases hp.org k o b c hk hR with e|⟨k2,o2,c2,g1,g2,g3⟩
 ·exact restr_none e
 ·obtain ⟨b3,c3,e3⟩:=hr.orgin k2 o2 g1
  rw[g3] at e3
  exact absurd ⟨h1,h2⟩ (hr.free _ _ _ e3)
theorem settle_sound {kept:Bool} {K:ARes->HM->Prop} (hr:RelX R hs.F hs.h H) (hp:Post hs.W R R' hs.F hs'.F hs.h hs'.h H H') (hr':RelX R' hs'.F hs'.h H') (hv:Ren R' v v') (hsm:hs.Same hs')
  (hk:HK hs (settleR kept hs v hs').2 R H (settleR kept hs v hs').1 K):∃ v'' H1,Drop H' H1/\View C.G H' H1 v' v''/\K (.ret v'') H1:=by
 have raw:HK hs hs' R H v K->∃ v'' H1,Drop H' H1/\View C.G H' H1 v' v''/\K (.ret v'') H1:=fun h=>⟨v',H',Drop.refl _,View.refl _,h _ _ _ hp hr' hv hsm⟩
 unfold settleR at hk
 split at hk
 ·exact raw hk
 ·split at hk
  ·rename_i g hg
   have vc:=rsv_view (G:=C.G) hr'.toRelH (settle_free hr hp) (restr_drop H H') 64 _ _ _ hg hv
   obtain ⟨p,r⟩:=settle_rel hr hp hr'
   exact ⟨g,restr H H',restr_drop _ _,vc.view,hk _ _ _ p r (gnd_ren R' g vc.gnd).1 ⟨hsm.m,hsm.lv,hsm.ro,hsm.rm⟩⟩
  ·exact raw hk
variable {ih:XTask->Option TOut} {ρ ρ':Operand->AV} {o:Oper} {K:ARes->HM->Prop}
theorem xop_sound (hih:SoundCall C ih) (hx:xop C ih ρ hs o=some (v,hs')) (hr:RelX R hs.F hs.h H) (hρ:∀ x,Ren R (ρ x) (ρ' x)) (hk:HK hs hs' R H v K):VX C.P C.G ρ' H o K:=by
 have pure:xpure C ρ hs o=some (v,hs')->VX C.P C.G ρ' H o K:=fun h=>by
  obtain ⟨rfl,v',h1,h2⟩:=xpure_sound h hr.toRelH hρ
  exact h2 K (hk _ _ _ .refl hr h1 (.refl _))
 unfold xop at hx
 split at hx
 ·rename_i x hop
  cases hx
  refine I11 (M:=[]) ?_
  unfold vx;simp only[hop,vval]
  exact hk _ _ _ .refl hr (hρ x) (.refl _)
 ·rename_i x hop
  cases hx
  refine I11 (M:=[]) ?_
  unfold vx;simp only[hop,vval]
  exact hk _ _ _ .refl hr (hρ x) (.refl _)
 ·rename_i t x hop
  unfold xbox at hx
  split at hx<;>try (cases hx;done)
  rename_i d hd
  split at hx<;>cases hx
  rename_i h1
  refine I11 (M:=[d]) ?_
  unfold vx;simp only[hop]
  have:isMut [d] o.dst=true:=by rw[hd];simp[isMut]
  rw[this];simp only[if_true]
  refine ⟨by rw[(hρ x).one];exact h1.1,fun b hb=>?_⟩
  obtain ⟨e1,e2⟩:=hr.push (W:=hs.W) (HS.room_F h1.2) (HS.push_F (o:=.ob (.cells t (ρ x).cells))) (c:=0) (o:=.ob (.cells t (ρ x).cells)) (o':=.cells t (ρ' x).cells) hb ⟨_,rfl,(hρ x).cells.mono ext_sub⟩ rfl
  exact hk _ _ _ e2 e1 (.addr 0 (.inr ⟨rfl,rfl,rfl⟩)) ⟨rfl,rfl,rfl,rfl⟩
 ·rename_i t hop
  unfold xalloc at hx
  split at hx<;>try (cases hx;done)
  rename_i ti hti
  split at hx<;>cases hx
  rename_i h1
  refine I11 (M:=[]) ?_
  unfold vx;simp only[hop,hti]
  refine ⟨h1.1,fun b hb=>?_⟩
  obtain ⟨e1,e2⟩:=hr.push (W:=hs.W) (HS.room_F h1.2) (HS.push_F (o:=.ob (.cells t ti.zero.cells))) (c:=0) (o:=.ob (.cells t ti.zero.cells)) (o':=.cells t ti.zero.cells) hb ⟨_,rfl,(ren_zero hti).cells⟩ rfl
  exact hk _ _ _ e2 e1 (.addr 0 (.inr ⟨rfl,rfl,rfl⟩)) ⟨rfl,rfl,rfl,rfl⟩
 ·rename_i t a x hop
  have ha:=hρ a
  have hxx:=hρ x
  unfold xstore at hx
  split at hx<;>try (cases hx;done)
  ·rename_i ti k off hti hka
   rw[hka] at ha
   unfold xstC at hx
   split at hx<;>try (cases hx;done)
   rename_i et cs hm0
   split at hx<;>cases hx
   rename_i hc
   obtain ⟨c1,c2,c3,c4⟩:=hc
   refine I11 (M:=[]) ?_
   unfold vx;simp only[hop,hti]
   generalize hq:ρ' a=q at ha
   cases ha with
   |addr off hb=>
    obtain ⟨cs',e1,e2⟩:=hr.toRelH.cells hm0 hb
    simp only[e1]
    refine ⟨⟨by rw[hxx.clen];exact c2,by rw[e2.length];exact c3,by rw[hxx.one];exact c4⟩,?_⟩
    have hsp:RenL R (splice cs off (ρ x).cells) (splice cs' off (ρ' x).cells):=by
     unfold splice;rw[hxx.clen];exact ((e2.take _).append hxx.cells).append (e2.drop _)
    obtain ⟨f1,f2⟩:=hr.put (W:=hs.W) (o2:=.ob (.cells et (splice cs off (ρ x).cells))) (o':=.cells et (splice cs' off (ρ' x).cells)) (U12 hm0) hb (HS.may_W c1) ⟨_,rfl,hsp⟩ rfl
    exact hk _ _ _ f2 f1 (.val _) ⟨rfl,rfl,rfl,rfl⟩
  ·rename_i ti k i sz off hti hka
   rw[hka] at ha
   unfold xstE at hx
   split at hx<;>try (cases hx;done)
   rename_i et sz' g xs hm0
   split at hx<;>try (cases hx;done)
   rename_i hc
   obtain ⟨c1,rfl,c2,c3⟩:=hc
   split at hx<;>try (cases hx;done)
   rename_i x0 hx0
   split at hx<;>cases hx
   rename_i v' hv'
   refine I11 (M:=[]) ?_
   unfold vx;simp only[hop,hti]
   generalize hq:ρ' a=q at ha
   cases ha with
   |elem i sz off hb=>
    obtain ⟨xs',e1,e2⟩:=hr.toRelH.row hm0 hb
    obtain ⟨x0',g1,g2⟩:=e2.get hx0
    simp only[e1,g1]
    refine ⟨by trivial,by rw[hxx.clen];exact c2,by rw[hxx.one];exact c3,?_⟩
    have hep:∃ v'',elemPut x0' off (ρ' x) sz=some v''/\Ren R v' v'':=by
     unfold elemPut at hv' ⊢
     rw[hxx.clen]
     split at hv'
     ·rename_i hz;cases hv';rw[if_pos hz];exact ⟨_,rfl,hxx⟩
     ·rename_i hz
      rw[if_neg hz]
      cases g2<;>simp only at hv'<;>try (cases hv';done)
      case agg hcs=>
       simp only[hcs.length]
       split at hv'<;>cases hv'
       rename_i hz2
       rw[if_pos hz2]
       refine ⟨_,rfl,.agg ?_⟩
       unfold splice;rw[hxx.clen];exact ((hcs.take _).append hxx.cells).append (hcs.drop _)
    obtain ⟨v'',k1,k2⟩:=hep
    simp only[k1]
    obtain ⟨f1,f2⟩:=hr.put (W:=hs.W) (o2:=.ob (.row et sz g (xs.set i v'))) (o':=.row et sz _ (xs'.set i v'')) (U12 hm0) hb (HS.may_W c1) ⟨_,rfl,e2.set i k2⟩ rfl
    exact hk _ _ _ f2 f1 (.val _) ⟨rfl,rfl,rfl,rfl⟩
 ·rename_i t len parts hop
  unfold xsl at hx
  split at hx<;>cases hx
  rename_i hw
  obtain ⟨e,sz,htd,hcase⟩:=xslice_ren hw hρ
  refine I11 (M:=[]) ?_
  unfold vx;simp only[hop,htd]
  rcases hcase with ⟨h1,h2,rfl⟩|⟨h1,h2,rfl⟩
  ·rw[if_pos h1];exact ⟨h2,hk _ _ _ .refl hr .nil0 (.refl _)⟩
  ·rw[if_neg h1]
   exact ⟨h2.1,h2.2.1,h2.2.2.1,h2.2.2.2.1,h2.2.2.2.2,hk _ _ _ .refl hr (.list (RenL.of_map _ fun p _=>hρ _)) (.refl _)⟩
 ·rename_i t hop
  split at hx<;>cases hx
  rename_i hroom
  refine I11 (M:=[]) ?_
  unfold vx;simp only[hop]
  intro b hb
  obtain ⟨e1,e2⟩:=hr.push (W:=hs.W) (HS.room_F hroom) (HS.push_F (o:=.ob (.map []))) (c:=0) (o:=.ob (.map [])) (o':=.map []) hb ⟨_,rfl,.nil,.nil⟩ rfl
  exact hk _ _ _ e2 e1 (.map (.inr ⟨rfl,rfl,rfl⟩)) ⟨rfl,rfl,rfl,rfl⟩
 iterate 2
  ·rename_i t m k x hop
   unfold xmput at hx
   split at hx<;>try (cases hx;done)
   rename_i kt et b key h1 h2 h3
   split at hx<;>try (cases hx;done)
   rename_i kd es h4 hm0
   split at hx<;>cases hx
   rename_i hc
   have hmm:=hρ m
   rw[h2] at hmm
   refine I11 (M:=[]) ?_
   unfold vx;simp only[hop,h1,keyOf_ren (hρ k) h3]
   generalize hq:ρ' m=q at hmm
   cases hmm with
   |map hb=>
    obtain ⟨es',e1,e2,e3⟩:=hr.toRelH.map hm0 hb
    simp only[h4,e1]
    obtain ⟨f1,f2⟩:=assocSet_ren (key:=key) (hρ x) e2 e3
    obtain ⟨g1,g2⟩:=hr.put (W:=hs.W) (o2:=.ob (.map (assocSet key (ρ x) es))) (o':=.map (assocSet key (ρ' x) es')) (U12 hm0) hb (HS.may_W hc.1) ⟨_,rfl,f1,f2⟩ rfl
    exact ⟨hc.2.1,keysOk_ren e2 hc.2.2,hk _ _ _ g2 g1 (.val _) ⟨rfl,rfl,rfl,rfl⟩⟩
 ·rename_i c hop
  have hl:RenL R (c.args.toList.map ρ) (c.args.toList.map ρ'):=RenL.of_map _ fun x _=>hρ x
  unfold xcalls at hx
  split at hx<;>try (cases hx;done)
  ·rename_i f hf
   unfold xcall at hx
   split at hx<;>try (cases hx;done)
   rename_i v0 hs0 hc
   have hx2:=Option.some.inj hx
   have hk2:HK hs (settleR (C.keep (ρ f) o||hasYield (ρ f::c.args.toList.map ρ)) hs v0 hs0).2 R H (settleR (C.keep (ρ f) o||hasYield (ρ f::c.args.toList.map ρ)) hs v0 hs0).1 K:=by
    rw[hx2];exact hk
   have h0:VX C.P C.G ρ' H o (fun r H'=>∃ R' v',r=.ret v'/\Post hs.W R R' hs.F hs0.F hs.h hs0.h H H'/\RelX R' hs0.F hs0.h H'/\Ren R' v0 v'/\hs.Same hs0):=by
    refine I11 (M:=[]) ?_
    unfold vx;simp only[hop,hf]
    exact hih _ _ _ _ _ hc R H _ _ _ hr (hρ f) hl fun R' H' v' p r hv hsm=>⟨R',v',rfl,p,r,hv,hsm⟩
   refine VX.conv h0 ?_ ?_
   ·rintro v1 H' ⟨R',v',e,p,r,hv,hsm⟩
    cases e
    exact settle_sound (C:=C) hr p r hv hsm hk2
   ·rintro v1 H' ⟨R',v',e,_⟩
    cases e
  ·rename_i b hf
   unfold xbuilt at hx
   have hop':∀ {b:Builtin} {a1 a2:Operand} {t1 t2:Nat},c.callee=.builtin b->c.args.toList=[a1,a2]->c.argTypes.toList=[t1,t2]->o.op=.call ⟨.builtin b,#[a1,a2],#[t1,t2]⟩:=by
    intro b a1 a2 t1 t2 hf ea et
    obtain ⟨cal,cargs,ctys⟩:=c
    simp only at hf ea et
    have h1:cargs = #[a1,a2]:=by apply Array.ext';simpa using ea
    have h2:ctys = #[t1,t2]:=by apply Array.ext';simpa using et
    rw[hop,hf,h1,h2]
   split at hx
   ·split at hx<;>try (cases hx;done)
    rename_i s x ts tx ea et
    exact xapp_sound (hop' hf ea et) hx hr (hρ s) (hρ x) hk
   ·split at hx<;>try (cases hx;done)
    rename_i d x td tx ea et
    exact xcopy_sound (hop' hf ea et) hx hr (hρ d) (hρ x) hk
   ·exact pure hx
 ·cases hx
 ·cases hx
 ·rename_i t x hop
  unfold xrange at hx
  split at hx<;>try (cases hx;done)
  rename_i s h1 h2
  split at hx<;>cases hx
  rename_i hroom
  have hxx:=hρ x
  rw[h2] at hxx
  refine I11 (M:=[]) ?_
  unfold vx;simp only[hop,h1,hxx.val_inv]
  intro b hb
  obtain ⟨e1,e2⟩:=hr.push (W:=hs.W) (HS.room_F hroom) (HS.push_F (o:=.ob (.siter s 0))) (c:=0) (o:=.ob (.siter s 0)) (o':=.siter s 0) hb rfl rfl
  exact hk _ _ _ e2 e1 (.addr 0 (.inr ⟨rfl,rfl,rfl⟩)) ⟨rfl,rfl,rfl,rfl⟩
 ·rename_i x isS hop
  unfold xnext at hx
  split at hx<;>try (cases hx;done)
  rename_i b h2
  split at hx<;>try (cases hx;done)
  rename_i s pos hm0
  split at hx<;>try (cases hx;done)
  rename_i c1
  have hxx:=hρ x
  rw[h2] at hxx
  refine I11 (M:=[]) ?_
  unfold vx;simp only[hop]
  generalize hq:ρ' x=q at hxx
  cases hxx with
  |addr off hb=>
   have e1:=hr.toRelH.siter hm0 hb
   simp only[e1]
   split at hx
   ·rename_i hp
    cases hx
    refine ⟨fun _=>?_,fun h=>absurd hp h⟩
    obtain ⟨g1,g2⟩:=hr.put (W:=hs.W) (o2:=.ob (.siter s (pos+(Utf8.decode s pos).2))) (o':=.siter s (pos+(Utf8.decode s pos).2)) (U12 hm0) hb (HS.may_W c1) rfl rfl
    exact hk _ _ _ g2 g1 (.tup (.cons (.val _) (.cons (.val _) (.cons (.val _) .nil)))) ⟨rfl,rfl,rfl,rfl⟩
   ·rename_i hp
    cases hx
    exact ⟨fun h=>absurd h hp,fun _=>hk _ _ _ .refl hr (.tup (.cons (.val _) .nil)) (.refl _)⟩
 ·exact pure hx
end
end Go.V
