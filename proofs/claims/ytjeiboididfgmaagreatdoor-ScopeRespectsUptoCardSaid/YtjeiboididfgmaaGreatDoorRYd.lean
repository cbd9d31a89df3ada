/- An evaluator for closed runs: heaps and operations. No condition. -/
import Derived.Test.YtjeiboididfgmaaGreatDoorRYc
set_option linter.unusedVariables false
set_option linter.unusedSimpArgs false
namespace Go.V
open Go
mutual
theorem gnd_ren (R:NR):∀ (a:AV),gnd a=true->Ren R a a/\∀ {R':NR} {a':AV},Ren R' a a'->a'=a
 |.val v,_=>⟨.val v,fun h=>h.val_inv⟩
 |.nil0,_=>⟨.nil0,fun h=>by cases h;rfl⟩
 |.agg cs,h=>by
  obtain ⟨h1,h2⟩:=gndL_ren R cs (by simpa[gnd] using h)
  exact ⟨.agg h1,fun h=>by cases h with|agg h=>rw[h2 h]⟩
 |.tup cs,h=>by
  obtain ⟨h1,h2⟩:=gndL_ren R cs (by simpa[gnd] using h)
  exact ⟨.tup h1,fun h=>by cases h with|tup h=>rw[h2 h]⟩
 |.list cs,h=>by
  obtain ⟨h1,h2⟩:=gndL_ren R cs (by simpa[gnd] using h)
  exact ⟨.list h1,fun h=>by cases h with|list h=>rw[h2 h]⟩
 |.ref cs,h=>by
  obtain ⟨h1,h2⟩:=gndL_ren R cs (by simpa[gnd] using h)
  exact ⟨.ref h1,fun h=>by cases h with|ref h=>rw[h2 h]⟩
 |.imap es,h=>by
  obtain ⟨h1,h2,h3⟩:=gndP_ren R es (by simpa[gnd] using h)
  exact ⟨.imap h1 h2,fun h=>by cases h with|imap h h'=>rw[h3 h h']⟩
 |.func (.func f) fs cs,h=>by
  simp only[gnd,Bool.and_eq_true] at h
  obtain ⟨h1,h2⟩:=gndL_ren R fs h.1
  obtain ⟨h3,h4⟩:=gndL_ren R cs h.2
  refine ⟨.func rfl h1 h3,fun h=>?_⟩
  cases h with
  |func hf h h'=>
   rename_i f'
   rw[h2 h,h4 h']
   cases f'<;>simp only[FnR] at hf<;>first|(cases hf;done)|rw[hf]
 |.func (.method ..) _ _,h=>by simp[gnd] at h
 |.func (.methodOf ..) _ _,h=>by simp[gnd] at h
 |.func (.via ..) _ _,h=>by simp[gnd] at h
 |.func (.yield ..) _ _,h=>by simp[gnd] at h
 |.iface t a,h=>by
  obtain ⟨h1,h2⟩:=gnd_ren R a (by simpa[gnd] using h)
  exact ⟨.iface h1,fun h=>by cases h with|iface h=>rw[h2 h]⟩
 |.addr ..,h=>by simp[gnd] at h
 |.elem ..,h=>by simp[gnd] at h
 |.mlist ..,h=>by simp[gnd] at h
 |.map ..,h=>by simp[gnd] at h
theorem gndL_ren (R:NR):∀ (a:List AV),gndL a=true->RenL R a a/\∀ {R':NR} {a':List AV},RenL R' a a'->a'=a
 |[],_=>⟨.nil,fun h=>by cases h;rfl⟩
 |a::l,h=>by
  simp only[gndL,Bool.and_eq_true] at h
  obtain ⟨h1,h2⟩:=gnd_ren R a h.1
  obtain ⟨h3,h4⟩:=gndL_ren R l h.2
  exact ⟨.cons h1 h3,fun h=>by cases h with|cons h h'=>rw[h2 h,h4 h']⟩
theorem gndP_ren (R:NR):∀ (es:List (AV×AV)),gndP es=true->RenL R (es.map (·.1)) (es.map (·.1))/\RenL R (es.map (·.2)) (es.map (·.2)) /\
  ∀ {R':NR} {es':List (AV×AV)},RenL R' (es.map (·.1)) (es'.map (·.1))->RenL R' (es.map (·.2)) (es'.map (·.2))->es'=es
 |[],_=>⟨.nil,.nil,fun {R' es'} h _=>by cases es' with|nil=>rfl|cons _ _=>cases h⟩
 |(a,b)::l,h=>by
  simp only[gndP,Bool.and_eq_true] at h
  obtain ⟨h1,h2⟩:=gnd_ren R a h.1.1
  obtain ⟨h3,h4⟩:=gnd_ren R b h.1.2
  obtain ⟨h5,h6,h7⟩:=gndP_ren R l h.2
  refine ⟨.cons h1 h5,.cons h3 h6,fun {R' es'} hk hv=>?_⟩
  cases es' with
  |nil=>cases hk
  |cons e es'=>
   obtain ⟨a',b'⟩:=e
   simp only[List.map_cons] at hk hv
   cases hk with
   |cons k1 k2=>cases hv with
    |cons v1 v2=>rw[h2 k1,h4 v1,h7 k2 v2]
end
def orgOf (k:Nat):EObj->Nat
 |.ob (.row _ _ g _)=>g
 |_=>k
structure RelX (R:NR) (F:Nat->Prop) (h:Hp) (H:HM):Prop extends RelH R 0 h H where
 free:∀ k b c,R k b c->¬ F k
 orgin:∀ k o,hget h k=some o->∃ b c,R (orgOf k o) b c
structure Post (W:Nat->Prop) (R R':NR) (F F':Nat->Prop) (h h':Hp) (H H':HM):Prop where
 sub:∀ k b c,R k b c->R' k b c
 le:∀ k,F' k->F k
 live:∀ k,¬ F k->hget h' k≠none->hget h k≠none
 fr:∀ b,H b≠none->(∀ k c,R k b c->¬ W k)->H' b=H b/\∀ k c,R' k b c->¬ W k
 d:∀ b,H b≠none->H' b≠none
 org:∀ k o b c,hget h' k=some o->R' k b c->H b=none\/∃ k2 o2 c2,hget h k2=some o2/\R k2 b c2/\orgOf k2 o2=orgOf k o
 new:∀ k b c,R' k b c->R k b c\/F k
section
variable {W F F' F'':Nat->Prop} {n:Nat} {R R' R'':NR} {h h' h'':Hp} {H H' H'':HM}
theorem RelX.mono (hr:RelX R F h H) (hf:∀ k,F' k->F k):RelX R F' h H:=⟨hr.toRelH,fun k b c hk hF=>hr.free k b c hk (hf k hF),hr.orgin⟩
theorem Post.refl (hf:∀ k,F' k->F k:=by exact fun _ h=>h):Post W R R F F' h h H H:=
 ⟨fun _ _ _ h=>h,hf,fun _ _ h=>h,fun _ _ h=>⟨rfl,h⟩,fun _ h=>h,fun k o b c h1 h2=>.inr ⟨k,o,c,h1,h2,rfl⟩,fun _ _ _ h=>.inl h⟩
theorem Post.trans (p:Post W R R' F F' h h' H H') (q:Post W R' R'' F' F'' h' h'' H' H''):Post W R R'' F F'' h h'' H H'':=by
 refine ⟨fun k b c hr=>q.sub _ _ _ (p.sub _ _ _ hr),fun k hk=>p.le k (q.le k hk),fun k hk hl=>p.live k hk (q.live k (fun e=>hk (p.le k e)) hl),fun b hb hr=>?_,fun b hb=>q.d b (p.d b hb),fun k o b c hk hr=>?_,fun k b c hr=>(q.new k b c hr).elim (p.new k b c) fun e=>.inr (p.le k e)⟩
 ·obtain ⟨e1,e2⟩:=p.fr b hb hr
  obtain ⟨e3,e4⟩:=q.fr b (by rw[e1];exact hb) e2
  exact ⟨e3.trans e1,e4⟩
 ·rcases q.org k o b c hk hr with e|⟨k2,o2,c2,h1,h2,h3⟩
  ·left
   cases hb:H b with
   |none=>rfl
   |some x=>exact absurd e (p.d b (by rw[hb];simp))
  ·rcases p.org k2 o2 b c2 h1 h2 with e|⟨k3,o3,c3,g1,g2,g3⟩
   ·exact .inl e
   ·exact .inr ⟨k3,o3,c3,g1,g2,g3.trans h3⟩
def ext (R:NR) (n b c:Nat):NR:=fun k b' c'=>R k b' c'\/(k=n/\b'=b/\c'=c)
theorem ext_sub {b c:Nat}:∀ k b' c',R k b' c'->ext R n b c k b' c':=fun _ _ _ h=>.inl h
theorem RelX.push (hr:RelX R F h H) (hn0:F n) (hF:∀ k,F' k->F k/\k≠n) {b c:Nat} {o:EObj} {o':AObj} (hb:H b=none) (ho:RenO (ext R n b c) c o o') (hg:orgOf n o=n) :
  RelX (ext R n b c) F' ((n,o)::h) (H.upd b o')/\Post W R (ext R n b c) F F' h ((n,o)::h) H (H.upd b o'):=by
 have hn:∀ k,k≠n->hget ((n,o)::h) k=hget h k:=fun k hk=>by
  simp only[hget];rw[if_neg (fun e=>hk (Nat.eq_of_beq_eq_true e).symm)]
 have h0:hget ((n,o)::h) n=some o:=by simp only[hget];rw[if_pos (Nat.beq_refl n)]
 have hRn:∀ b' c',¬ R n b' c':=fun b' c' e=>hr.free _ _ _ e hn0
 have hold:∀ k b' c',ext R n b c k b' c'->k≠n->R k b' c':=fun k b' c' he hk=>by
  rcases he with e|⟨e,_⟩
  ·exact e
  ·exact absurd e hk
 have hlive:∀ k o1 b' c',hget h k=some o1->R k b' c'->b'≠b:=by
  intro k o1 b' c' h1 h2 e
  subst e
  obtain ⟨o',e1,_⟩:=hr.toRelH.at h1 h2
  rw[hb] at e1;cases e1
 refine ⟨⟨⟨?_,?_,?_⟩,?_,?_⟩,⟨ext_sub,fun k hk=>(hF k hk).1,?_,?_,?_,?_,fun k b' c' e=>e.elim .inl fun e=>.inr (by rw[e.1];exact hn0)⟩⟩
 ·intro k o1 hk
  by_cases e:k=n
  ·subst e
   rw[h0] at hk;cases hk
   exact ⟨b,c,o',.inr ⟨rfl,rfl,rfl⟩,HM.upd_same _ _ _,ho⟩
  ·rw[hn k e] at hk
   obtain ⟨b',c',o2,e1,e2,e3⟩:=hr.obj k o1 hk
   exact ⟨b',c',o2,.inl e1,by rw[HM.upd_ne _ _ (hlive k o1 b' c' hk e1)];exact e2,e3.mono ext_sub⟩
 ·rintro k b1 c1 b2 c2 (e|⟨e,e',e''⟩) (f|⟨f,f',f''⟩)
  ·exact hr.fn _ _ _ _ _ e f
  ·subst f;exact absurd e (hRn _ _)
  ·subst e;exact absurd f (hRn _ _)
  ·subst e' e'' f' f'';exact ⟨rfl,rfl⟩
 ·intro k k' o1 o2 b1 c1 c2 h1 h2 e f
  by_cases ek:k=n
  ·by_cases ek':k'=n
   ·rw[ek,ek']
   ·rw[hn k' ek'] at h2
    have f2:=hold _ _ _ f ek'
    subst ek
    rcases e with e|⟨_,e,_⟩
    ·exact absurd e (hRn _ _)
    ·exact absurd e (hlive k' o2 b1 c2 h2 f2)
  ·rw[hn k ek] at h1
   have e2:=hold _ _ _ e ek
   by_cases ek':k'=n
   ·subst ek'
    rcases f with f|⟨_,f,_⟩
    ·exact absurd f (hRn _ _)
    ·exact absurd f (hlive k o1 b1 c1 h1 e2)
   ·rw[hn k' ek'] at h2
    exact hr.inj _ _ _ _ _ _ _ h1 h2 e2 (hold _ _ _ f ek')
 ·rintro k b1 c1 (e|⟨e,_⟩) hk
  ·exact hr.free _ _ _ e (hF k hk).1
  ·exact (hF k hk).2 e
 ·intro k o1 hk
  by_cases e:k=n
  ·subst e;rw[h0] at hk;cases hk;rw[hg];exact ⟨b,c,.inr ⟨rfl,rfl,rfl⟩⟩
  ·rw[hn k e] at hk
   obtain ⟨b',c',e1⟩:=hr.orgin k o1 hk
   exact ⟨b',c',.inl e1⟩
 ·intro k hk hl
  rwa [hn k (by rintro rfl;exact hk hn0)] at hl
 ·intro b0 h1 h2
  have hne:b0≠b:=by rintro rfl;exact h1 hb
  refine ⟨HM.upd_ne _ _ hne,?_⟩
  rintro k c1 (e|⟨_,e,_⟩)
  ·exact h2 _ _ e
  ·exact absurd e hne
 ·intro b0 h1
  have hne:b0≠b:=by rintro rfl;exact h1 hb
  rw[HM.upd_ne _ _ hne];exact h1
 ·intro k o1 b1 c1 hk e
  by_cases ek:k=n
  ·subst ek
   rcases e with e|⟨_,e,_⟩
   ·exact absurd e (hRn _ _)
   ·subst e;exact .inl hb
  ·rw[hn k ek] at hk
   exact .inr ⟨k,o1,c1,hk,hold _ _ _ e ek,rfl⟩
theorem RelX.put (hr:RelX R F h H) {k b c:Nat} {o o2:EObj} {o':AObj} (hk:hget h k=some o) (hb:R k b c) (hro:W k) (ho:RenO R c o2 o') (hg:orgOf k o2=orgOf k o) :
  RelX R F (hset h k o2) (H.upd b o')/\Post W R R F F h (hset h k o2) H (H.upd b o'):=by
 have hs:∀ j,hget (hset h k o2) j=if j=k then some o2 else hget h j:=fun j=>by rw[hget_set,hk];rfl
 have h0:hget (hset h k o2) k=some o2:=by rw[hs,if_pos rfl]
 have hn:∀ j,j≠k->hget (hset h k o2) j=hget h j:=fun j hj=>by rw[hs,if_neg hj]
 have hlive:∀ j o1,hget (hset h k o2) j=some o1->∃ o3,hget h j=some o3:=fun j o1 hj=>by
  by_cases e:j=k
  ·subst e;exact ⟨o,hk⟩
  ·rw[hn j e] at hj;exact ⟨_,hj⟩
 refine ⟨⟨⟨?_,hr.fn,?_⟩,hr.free,?_⟩,⟨fun _ _ _ h=>h,fun _ h=>h,?_,?_,?_,?_,fun _ _ _ h=>.inl h⟩⟩
 ·intro j o1 hj
  by_cases e:j=k
  ·subst e;rw[h0] at hj;cases hj
   exact ⟨b,c,o',hb,HM.upd_same _ _ _,ho⟩
  ·rw[hn j e] at hj
   obtain ⟨b',c',o3,e1,e2,e3⟩:=hr.obj j o1 hj
   have hne:b'≠b:=by rintro rfl;exact e (hr.inj _ _ _ _ _ _ _ hj hk e1 hb)
   exact ⟨b',c',o3,e1,by rw[HM.upd_ne _ _ hne];exact e2,e3⟩
 ·intro j j' o1 o3 b1 c1 c2 h1 h2 e f
  obtain ⟨_,h1⟩:=hlive j o1 h1
  obtain ⟨_,h2⟩:=hlive j' o3 h2
  exact hr.inj _ _ _ _ _ _ _ h1 h2 e f
 ·intro j o1 hj
  by_cases e:j=k
  ·subst e;rw[h0] at hj;cases hj;rw[hg];exact hr.orgin _ _ hk
  ·rw[hn j e] at hj;exact hr.orgin j o1 hj
 ·intro j hj hl
  by_cases e:j=k
  ·subst e;rw[hk];simp
  ·rwa [hn j e] at hl
 ·intro b0 h1 h2
  have hne:b0≠b:=by rintro rfl;exact h2 _ _ hb hro
  exact ⟨HM.upd_ne _ _ hne,h2⟩
 ·intro b0 h1
  by_cases e:b0=b
  ·subst e;rw[HM.upd_same];simp
  ·rw[HM.upd_ne _ _ e];exact h1
 ·intro j o1 b1 c1 hj e
  by_cases ej:j=k
  ·subst ej;rw[h0] at hj;cases hj
   exact .inr ⟨j,o,c1,hk,e,hg.symm⟩
  ·rw[hn j ej] at hj;exact .inr ⟨j,o1,c1,hj,e,rfl⟩
theorem RelX.grow (hr:RelX R F h H) (hn0:F n) (hF:∀ k,F' k->F k/\k≠n) {k b c b' cap':Nat} {o o2:EObj} {o':AObj} (hk:hget h k=some o) (hb:R k b c) (hro:W k) (hb':H b'=none\/(b'=b/\cap'=c))
  (ho:RenO (ext R n b' cap') cap' o2 o') (hg:orgOf n o2=orgOf k o) :
  RelX (ext R n b' cap') F' ((n,o2)::hdel h k) (H.upd b' o')/\Post W R (ext R n b' cap') F F' h ((n,o2)::hdel h k) H (H.upd b' o'):=by
 have hRn:∀ b' c',¬ R n b' c':=fun b' c' e=>hr.free _ _ _ e hn0
 have hn:∀ j,j≠n->hget ((n,o2)::hdel h k) j=if j=k then none else hget h j:=fun j hj=>by
  simp only[hget];rw[if_neg (fun e=>hj (Nat.eq_of_beq_eq_true e).symm),hget_del]
 have h0:hget ((n,o2)::hdel h k) n=some o2:=by simp only[hget];rw[if_pos (Nat.beq_refl n)]
 have hn':∀ j o1,j≠n->hget ((n,o2)::hdel h k) j=some o1->j≠k/\hget h j=some o1:=fun j o1 hj e=>by
  rw[hn j hj] at e
  split at e
  ·cases e
  ·exact ⟨‹_›,e⟩
 have hold:∀ k1 b1 c1,ext R n b' cap' k1 b1 c1->k1≠n->R k1 b1 c1:=fun k1 b1 c1 he hk=>by
  rcases he with e|⟨e,_⟩
  ·exact e
  ·exact absurd e hk
 have hlive:∀ j o1 b1 c1,j≠k->hget h j=some o1->R j b1 c1->b1≠b':=by
  intro j o1 b1 c1 hj h1 h2 e
  subst e
  rcases hb' with e|⟨e,_⟩
  ·obtain ⟨o',e1,_⟩:=hr.toRelH.at h1 h2
   rw[e] at e1;cases e1
  ·subst e;exact hj (hr.inj _ _ _ _ _ _ _ h1 hk h2 hb)
 refine ⟨⟨⟨?_,?_,?_⟩,?_,?_⟩,⟨ext_sub,fun k hk=>(hF k hk).1,?_,?_,?_,?_,fun k b' c' e=>e.elim .inl fun e=>.inr (by rw[e.1];exact hn0)⟩⟩
 ·intro j o1 hj
  by_cases e:j=n
  ·subst e;rw[h0] at hj;cases hj
   exact ⟨b',cap',o',.inr ⟨rfl,rfl,rfl⟩,HM.upd_same _ _ _,ho⟩
  ·obtain ⟨hjk,hj⟩:=hn' j o1 e hj
   obtain ⟨b1,c1,o3,e1,e2,e3⟩:=hr.obj j o1 hj
   exact ⟨b1,c1,o3,.inl e1,by rw[HM.upd_ne _ _ (hlive j o1 b1 c1 hjk hj e1)];exact e2,e3.mono ext_sub⟩
 ·rintro k1 b1 c1 b2 c2 (e|⟨e,e',e''⟩) (f|⟨f,f',f''⟩)
  ·exact hr.fn _ _ _ _ _ e f
  ·subst f;exact absurd e (hRn _ _)
  ·subst e;exact absurd f (hRn _ _)
  ·subst e' e'' f' f'';exact ⟨rfl,rfl⟩
 ·intro j j' o1 o3 b1 c1 c2 h1 h2 e f
  by_cases ek:j=n
  ·by_cases ek':j'=n
   ·rw[ek,ek']
   ·obtain ⟨hjk,h2'⟩:=hn' j' o3 ek' h2
    subst ek
    rcases e with e|⟨_,e,_⟩
    ·exact absurd e (hRn _ _)
    ·exact absurd e (hlive j' o3 b1 c2 hjk h2' (hold _ _ _ f ek'))
  ·obtain ⟨hjk,h1'⟩:=hn' j o1 ek h1
   by_cases ek':j'=n
   ·subst ek'
    rcases f with f|⟨_,f,_⟩
    ·exact absurd f (hRn _ _)
    ·exact absurd f (hlive j o1 b1 c1 hjk h1' (hold _ _ _ e ek))
   ·obtain ⟨_,h2'⟩:=hn' j' o3 ek' h2
    exact hr.inj _ _ _ _ _ _ _ h1' h2' (hold _ _ _ e ek) (hold _ _ _ f ek')
 ·rintro k1 b1 c1 (e|⟨e,_⟩) hk1
  ·exact hr.free _ _ _ e (hF k1 hk1).1
  ·exact (hF k1 hk1).2 e
 ·intro j o1 hj
  by_cases e:j=n
  ·subst e;rw[h0] at hj;cases hj;rw[hg]
   obtain ⟨b1,c1,e1⟩:=hr.orgin _ _ hk
   exact ⟨b1,c1,.inl e1⟩
  ·obtain ⟨b1,c1,e1⟩:=hr.orgin j o1 (hn' j o1 e hj).2
   exact ⟨b1,c1,.inl e1⟩
 ·intro j hj hl
  rw[hn j (by rintro rfl;exact hj hn0)] at hl
  split at hl
  ·exact absurd rfl hl
  ·exact hl
 ·intro b0 h1 h2
  have hne:b0≠b':=by
   rintro rfl
   rcases hb' with e|⟨e,_⟩
   ·exact h1 e
   ·subst e;exact h2 _ _ hb hro
  refine ⟨HM.upd_ne _ _ hne,?_⟩
  rintro k1 c1 (e|⟨_,e,_⟩)
  ·exact h2 _ _ e
  ·exact absurd e hne
 ·intro b0 h1
  by_cases e:b0=b'
  ·subst e;rw[HM.upd_same];simp
  ·rw[HM.upd_ne _ _ e];exact h1
 ·intro j o1 b1 c1 hj e
  by_cases ej:j=n
  ·subst ej;rw[h0] at hj;cases hj
   rcases e with e|⟨_,e,_⟩
   ·exact absurd e (hRn _ _)
   ·subst e
    rcases hb' with e|⟨e,_⟩
    ·exact .inl e
    ·subst e;exact .inr ⟨k,o,c,hk,hb,hg.symm⟩
  ·obtain ⟨_,hj⟩:=hn' j o1 ej hj
   exact .inr ⟨j,o1,c1,hj,hold _ _ _ e ej,rfl⟩
end
section
variable {P:Program} {G:GT} {ρ:Operand->AV} {H:HM} {o:Oper} {K K':ARes->HM->Prop}
theorem VX.conv (h:VX P G ρ H o K') (hc:∀ v H',K' (.ret v) H'->∃ v' H1,Drop H' H1/\View G H' H1 v v'/\K (.ret v') H1) (hp:∀ v H',¬ K' (.pan v) H'):VX P G ρ H o K:=fun ρc w h1 h2=>
 (h ρc w h1 h2).mono (fun v w' ⟨a,H',k,r,st,ev⟩=>let ⟨v',H1,d,vw,k'⟩:=hc a H' k;⟨v',H1,k',vw _ _ st r,st.drop d,ev.drop d⟩) (fun v w' ⟨a,H',k,_⟩=>absurd k (hp a H'))
theorem VX.nl (h:VX P G (fun y=>nl (ρ y)) H o K):VX P G ρ H o K:=fun ρc w h1 h2=>h ρc w (fun x hx=>by
 have:=h1 x hx
 show Rep _ _ (Go.V.nl (ρ x)) _
 generalize ρc x=u at this ⊢
 cases e:ρ x<;>rw[e] at this<;>simp only[Go.V.nl]<;>first|exact this|(cases this;exact .nil _ _)) h2
end
end Go.V
