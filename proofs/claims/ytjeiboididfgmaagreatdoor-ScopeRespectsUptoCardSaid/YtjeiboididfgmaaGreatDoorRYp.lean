/- An evaluator for closed runs: yields. No condition. -/
import Derived.Test.YtjeiboididfgmaaGreatDoorRYo
set_option linter.unusedVariables false
set_option linter.unusedSimpArgs false
namespace Go.V
open Go
section
variable {C:Cfg} {R R':NR} {H H':HM} {h h':Hp} {W F F':Nat->Prop}
theorem del_rel (hr:RelX R F h H) {l l' c:Nat} {o:EObj} (hl:hget h l=some o) (hR:R l l' c):RelX R F (hdel h l) (H.del l'):=by
 have hh:∀ k o,hget (hdel h l) k=some o->k≠l/\hget h k=some o:=fun k o e=>by
  rw[hget_del] at e
  split at e
  ·cases e
  ·exact ⟨‹_›,e⟩
 refine ⟨⟨fun k o1 hk=>?_,hr.fn,fun k k' o1 o2 b c c' h1 h2=>hr.inj k k' o1 o2 b c c' (hh k o1 h1).2 (hh k' o2 h2).2⟩,hr.free,fun k o1 hk=>hr.orgin k o1 (hh k o1 hk).2⟩
 obtain ⟨hne,hk⟩:=hh k o1 hk
 obtain ⟨b,c',o',g1,g2,g3⟩:=hr.obj k o1 hk
 refine ⟨b,c',o',g1,?_,g3⟩
 have:b≠l':=by rintro rfl;exact hne (hr.inj _ _ _ _ _ _ _ hk hl g1 hR)
 simp only[HM.del,if_neg this];exact g2
theorem back_rel (hr:RelX R F h H) {l l' c:Nat} {o o2:EObj} {ob:AObj} (hl:hget h l=some o) (hR:R l l' c) (hW:W l) (p:Post W R R' F F' (hdel h l) h' (H.del l') H') (r:RelX R' F' h' H') (hn:H' l'=none)
  (ho:RenO R' c o2 ob) (hg:orgOf l o2=orgOf l o):RelX R' F' ((l,o2)::h') (H'.upd l' ob)/\Post W R R' F F' h ((l,o2)::h') H (H'.upd l' ob):=by
 have hR':=p.sub _ _ _ hR
 have h0:hget ((l,o2)::h') l=some o2:=by simp only[hget];rw[if_pos (Nat.beq_refl l)]
 have hne:∀ k,k≠l->hget ((l,o2)::h') k=hget h' k:=fun k hk=>by
  simp only[hget];rw[if_neg (fun e=>hk (Nat.eq_of_beq_eq_true e).symm)]
 have hb:∀ k o1 b c1,hget h' k=some o1->R' k b c1->b≠l':=by
  intro k o1 b c1 h1 h2 e
  subst e
  obtain ⟨o',e1,_⟩:=r.toRelH.at h1 h2
  rw[hn] at e1;cases e1
 refine ⟨⟨⟨fun k o1 hk=>?_,r.fn,fun k k' o1 o3 b c1 c2 h1 h2 e f=>?_⟩,r.free,fun k o1 hk=>?_⟩,⟨p.sub,p.le,fun k hk hl2=>?_,fun b hb1 hb2=>?_,fun b hb1=>?_,fun k o1 b c1 hk hRk=>?_,p.new⟩⟩
 ·by_cases e:k=l
  ·subst e;rw[h0] at hk;cases hk
   exact ⟨l',c,ob,hR',HM.upd_same _ _ _,ho⟩
  ·rw[hne k e] at hk
   obtain ⟨b,c1,o',g1,g2,g3⟩:=r.obj k o1 hk
   exact ⟨b,c1,o',g1,by rw[HM.upd_ne _ _ (hb k o1 b c1 hk g1)];exact g2,g3⟩
 ·by_cases ek:k=l
  ·by_cases ek':k'=l
   ·rw[ek,ek']
   ·rw[hne k' ek'] at h2
    subst ek
    exact absurd (r.fn _ _ _ _ _ e hR').1 (hb k' o3 b c2 h2 f)
  ·rw[hne k ek] at h1
   by_cases ek':k'=l
   ·subst ek'
    exact absurd (r.fn _ _ _ _ _ f hR').1 (hb k o1 b c1 h1 e)
   ·rw[hne k' ek'] at h2
    exact r.inj _ _ _ _ _ _ _ h1 h2 e f
 ·by_cases e:k=l
  ·subst e;rw[h0] at hk;cases hk
   obtain ⟨b1,c1,e1⟩:=hr.orgin _ _ hl
   rw[hg];exact ⟨b1,c1,p.sub _ _ _ e1⟩
  ·rw[hne k e] at hk;exact r.orgin k o1 hk
 ·by_cases e:k=l
  ·subst e;rw[hl];simp
  ·rw[hne k e] at hl2
   have:=p.live k hk hl2
   rw[hget_del,if_neg e] at this;exact this
 ·have hbl:b≠l':=by rintro rfl;exact hb2 _ _ hR hW
  have hd:(H.del l') b=H b:=by simp only[HM.del,if_neg hbl]
  obtain ⟨e1,e2⟩:=p.fr b (by rw[hd];exact hb1) hb2
  exact ⟨by rw[HM.upd_ne _ _ hbl,e1,hd],e2⟩
 ·by_cases e:b=l'
  ·subst e;rw[HM.upd_same];simp
  ·rw[HM.upd_ne _ _ e]
   exact p.d b (by simp only[HM.del,if_neg e];exact hb1)
 ·by_cases e:k=l
  ·subst e;rw[h0] at hk;cases hk
   obtain ⟨rfl,_⟩:=r.fn _ _ _ _ _ hRk hR'
   exact .inr ⟨k,o,c,hl,hR,hg.symm⟩
  ·rw[hne k e] at hk
   rcases p.org k o1 b c1 hk hRk with e1|⟨k2,o3,c3,g1,g2,g3⟩
   ·left
    have:=hb k o1 b c1 hk hRk
    simpa only[HM.del,if_neg this] using e1
   ·rw[hget_del] at g1
    split at g1
    ·cases g1
    ·exact .inr ⟨k2,o3,c3,g1,g2,g3⟩
theorem setPs_ren:∀ {ps:List Nat} {as as':List AV} {t:Tr} {tm:Nat->AV},(∀ p∈ps,p<4000)->RenL R as as'->(∀ k,Ren R (t.get k) (tm k))->∀ k,Ren R ((Tr.setPs ps as t).get k) (setPs ps as' tm k)
 |[],as,as',t,tm,_,_,ht,k=>by cases as<;>exact ht k
 |p::ps,_,_,t,tm,_,.nil,ht,k=>ht k
 |p::ps,_,_,t,tm,hp,.cons (a:=a) (a':=a') h1 h2,ht,k=>by
  have:=setPs_ren (ps:=ps) (t:=Tr.set 12 t p a) (tm:=upd tm p a') (fun q hq=>hp q (by simp[hq])) h2 (fun j=>by
   rw[Tr.get_set 12 t p a (by have:=hp p (by simp);omega) j]
   unfold upd
   split
   ·exact h1
   ·exact ht j) k
  exact this
theorem cYield_sound (hC:COk C) {n:Nat} (hsc:SoundCode C (run C n)) {l:Nat} {args args':List AV} {hs hs':HS} {v fv':AV} {K:ARes->HM->Prop} (hx:cYield (run C n) l args hs=some (.call v hs')) (hr:RelX R hs.F hs.h H)
  (hf:Ren R (.func (.yield l) [] []) fv') (ha:RenL R args args') (hk:HK hs hs' R H v K):CallV C.P C.G fv' args' H K:=by
 unfold cYield at hx
 split at hx<;>try (cases hx;done)
 rename_i ps asg body m tr hl
 split at hx<;>try (cases hx;done)
 rename_i hck
 obtain ⟨hmay,hlen,hm⟩:=hck
 have hW:=HS.may_W hmay
 cases hf with
 |@func _ f2 _ _ _ _ hfn h1 h2=>
  cases h1;cases h2
  obtain ⟨l',c,rfl,hR⟩:∃ l' c,f2=.yield l'/\R l l' c:=by
   cases f2<;>simp only[FnR] at hfn<;>first|(cases hfn;done)|(obtain ⟨c,e⟩:=hfn;exact ⟨_,c,rfl,e⟩)
  obtain ⟨o',hH,rec,tm,rfl,g1,g2,g3,g4,g5,g6,g7,g8,g9,g10,g11⟩:=hr.toRelH.at hl hR
  cases h1:run C n (.code m true asg ⟨Tr.setPs ps.toList args tr,{ hs with h:=hdel hs.h l }⟩) with
  |none=>rw[h1] at hx;cases hx
  |some o1=>
   rw[h1] at hx
   cases o1 with
   |call v hs=>cases hx
   |code x1 s1=>
    cases x1<;>simp only[cYield1] at hx<;>try (cases hx;done)
    cases h2:run C n (.code m true body s1) with
    |none=>rw[h2] at hx;cases hx
    |some o2=>
     rw[h2] at hx
     cases o2 with
     |call v hs=>cases hx
     |code x s2=>
      simp only[cYield2,Option.some.injEq,TOut.call.injEq] at hx
      obtain ⟨rfl,rfl⟩:=hx
      have hrs:RelS C.P R true ⟨Tr.setPs ps.toList args tr,{ hs with h:=hdel hs.h l }⟩ ⟨setPs ps.toList args' tm,H.del l',[]⟩:=
       ⟨del_rel hr hl hR,setPs_ren (fun p hp=>by have:=g8 p (by simpa using hp);omega) ha g11,fun _=>rfl,fun d hd=>by cases hd⟩
      -- behind the round
      have fin:∀ (R2:NR) (s3:AS) (rec':Loop),PostS C.P R R2 true ⟨Tr.setPs ps.toList args tr,{ hs with h:=hdel hs.h l }⟩ s2 ⟨setPs ps.toList args' tm,H.del l',[]⟩ s3->s3.H l'=none ->
        RenO R2 c (.loop ps asg body (jumpX x) m tr) (.loop rec' tm)->K (.ret (.bool (jumpX x).isNone)) (s3.H.upd l' (.loop rec' tm)):=by
       intro R2 s3 rec' p hn ho
       obtain ⟨a1,a2⟩:=back_rel hr hl hR hW p.post p.rel.heap hn ho rfl
       exact hk R2 _ _ a2 a1 (.val _) ⟨p.same.m,p.same.lv,p.same.ro,p.same.rm⟩
      refine yield_call (n:=m) (ps:=ps.toList) (rec:=rec) (tm:=tm) (assign:=asg) (body:=body)
       (Inv:=fun H1=>H1 l'=none->K (.ret (.bool true)) (H1.upd l' (.loop { rec with state:=.ready,pending:=none } tm)))
       (J:=fun X H1=>H1 l'=none->∀ cc,jumpOf X=some cc->K (.ret (.bool false)) (H1.upd l' (.loop { rec with state:=.done,pending:=some cc } tm)))
       (by simp[g1]) (by rw[ha.length];simpa using hlen) g2 g3 (g6 rfl) g5 (fun p hp=>g8 p (by simpa using hp)) hH g9 g10 ?_ (fun H1 hn hi=>hi hn) (fun H1 X cc hn hj hJ=>hJ hn cc hj)
      refine hsc _ _ _ _ _ _ h1 hm R _ (some l') _ hrs (by intro e;cases e) fun R1 s1' p1=>?_
      refine ⟨p1.rel.d1 rfl,?_⟩
      refine hsc _ _ _ _ _ _ h2 hm R1 s1' (some l') _ p1.rel (by intro e;cases e) fun R2 s3 p2=>?_
      have p:=p1.trans p2
      have hd:=p.rel.d1 rfl
      have tm2:∀ t,Ren R2 (tr.get t) (tm t):=fun t=>(g11 t).mono p.post.sub
      cases x with
      |normal=>exact ⟨hd,s3.H,Drop.refl _,fun hn=>fin R2 s3 _ p hn ⟨_,tm,rfl,g1,g2,g3,rfl,g5,fun _=>rfl,by simp,g8,g9,g10,tm2⟩⟩
      |ret=>exact ⟨hd,s3.H,Drop.refl _,fun hn cc hj=>by cases hj;exact fin R2 s3 _ p hn ⟨_,tm,rfl,g1,g2,g3,rfl,g5,(by intro e;cases e),by simp,g8,g9,g10,tm2⟩⟩
      |exit i=>exact ⟨hd,s3.H,Drop.refl _,fun hn cc hj=>by cases hj;exact fin R2 s3 _ p hn ⟨_,tm,rfl,g1,g2,g3,rfl,g5,(by intro e;cases e),by simp,g8,g9,g10,tm2⟩⟩
      |goto i=>exact ⟨hd,s3.H,Drop.refl _,fun hn cc hj=>by cases hj;exact fin R2 s3 _ p hn ⟨_,tm,rfl,g1,g2,g3,rfl,g5,(by intro e;cases e),by simp,g8,g9,g10,tm2⟩⟩
end
end Go.V
