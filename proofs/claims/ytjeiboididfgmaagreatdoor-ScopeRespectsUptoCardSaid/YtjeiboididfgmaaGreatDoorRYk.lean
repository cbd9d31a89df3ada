/- An evaluator for closed runs: quiet operations among others. No condition. -/
import Derived.Test.YtjeiboididfgmaaGreatDoorRYj
set_option linter.unusedVariables false
set_option linter.unusedSimpArgs false
namespace Go.V
open Go
def HLe (h h':Hp):Prop:=∀ k o2,hget h' k=some o2->∃ o,hget h k=some o/\orgOf k o2=orgOf k o/\∀ (R:NR) (c:Nat) (o':AObj),RenO R c o o'->RenO R c o2 o'
theorem HLe.rel {R:NR} {F:Nat->Prop} {h h':Hp} {H:HM} (hl:HLe h h') (hr:RelX R F h H):RelX R F h' H:=by
 refine ⟨⟨fun k o hk=>?_,hr.fn,fun k k' o o' b c c' h1 h2=>?_⟩,hr.free,fun k o hk=>?_⟩
 ·obtain ⟨o1,e1,_,e3⟩:=hl k o hk
  obtain ⟨b,c,o',g1,g2,g3⟩:=hr.obj k o1 e1
  exact ⟨b,c,o',g1,g2,e3 _ _ _ g3⟩
 ·obtain ⟨o1,e1,_⟩:=hl k o h1
  obtain ⟨o2,e2,_⟩:=hl k' o' h2
  exact hr.inj k k' o1 o2 b c c' e1 e2
 ·obtain ⟨o1,e1,e2,_⟩:=hl k o hk
  rw[e2];exact hr.orgin k o1 e1
theorem HLe.post {W F F':Nat->Prop} {R R':NR} {h0 h h':Hp} {H0 H:HM} (hl:HLe h h') (hp:Post W R R' F F' h0 h H0 H):Post W R R' F F' h0 h' H0 H:=by
 refine ⟨hp.sub,hp.le,fun k hk hn=>?_,hp.fr,hp.d,fun k o b c hk hR=>?_,hp.new⟩
 ·cases e:hget h' k with
  |none=>exact absurd e hn
  |some o2=>
   obtain ⟨o,e1,_⟩:=hl k o2 e
   exact hp.live k hk (by rw[e1];simp)
 ·obtain ⟨o1,e1,e2,_⟩:=hl k o hk
  rw[e2];exact hp.org k o1 b c e1 hR
theorem nodupK_nodup:∀ {es:List (AV×AV)},nodupK es=true->es.Nodup
 |[],_=>List.nodup_nil
 |(k,v)::es,h=>by
  cases k<;>simp only[nodupK] at h<;>try (cases h;done)
  rename_i kk
  simp only[Bool.and_eq_true] at h
  refine List.nodup_cons.2 ⟨fun hm=>?_,nodupK_nodup h.2⟩
  have:=List.all_eq_true.1 h.1.2 _ hm
  simp[h.1.1] at this
theorem perm_of_sub {α:Type}:∀ {l l':List α},l.Nodup->(∀ x∈l,x∈l')->l.length=l'.length->l.Perm l'
 |[],l',_,_,h=>by
  have:l'=[]:=List.eq_nil_of_length_eq_zero (by simpa using h.symm)
  rw[this]
 |x::l,l',hn,hs,h=>by
  obtain ⟨hx,hn⟩:=List.nodup_cons.1 hn
  obtain ⟨a,b,rfl⟩:=List.mem_iff_append.1 (hs x (by simp))
  have hp:(a++x::b).Perm (x::(a++b)):=List.perm_middle
  refine List.Perm.trans (List.Perm.cons x (perm_of_sub hn (fun y hy=>?_) ?_)) hp.symm
  ·have:=hs y (by simp[hy])
   simp only[List.mem_append,List.mem_cons] at this ⊢
   rcases this with h|rfl|h
   ·exact .inl h
   ·exact absurd hy hx
   ·exact .inr h
  ·simp at h ⊢;omega
theorem subH_get {h':Hp}:∀ {h:Hp},subH h' h=true->∀ k o,hget h k=some o->∃ o2,hget h' k=some o2/\orgOf k o=orgOf k o2/\∀ (R:NR) (c:Nat) (o':AObj),RenO R c o2 o'->RenO R c o o'
 |[],_,k,o,e=>by cases e
 |(j,x)::h,hs,k,o,e=>by
  simp only[hget] at e
  split at e
  ·rename_i hj
   cases e
   have:=Nat.eq_of_beq_eq_true hj
   subst this
   cases x with
   |ob x=>
    simp only[subH,Bool.and_eq_true] at hs
    have h1:=hs.1
    split at h1<;>try (cases h1;done)
    rename_i o2 e2
    rw[eqO_eq h1]
    exact ⟨_,e2,rfl,fun _ _ _ h=>h⟩
   |pm es=>
    simp only[subH,Bool.and_eq_true] at hs
    have h1:=hs.1
    split at h1<;>try (cases h1;done)
    rename_i es' e2
    simp only[Bool.and_eq_true,beq_iff_eq] at h1
    refine ⟨_,e2,rfl,fun R c o' hh=>?_⟩
    obtain ⟨es1,es3,p1,p2,p3,p4,p5⟩:=hh
    have hp:es.Perm es':=perm_of_sub (nodupK_nodup h1.1.1) (fun x hx=>by
     have:=List.all_eq_true.1 h1.2 x hx
     unfold inP at this
     obtain ⟨y,hy,hxy⟩:=List.any_eq_true.1 this
     simp only[Bool.and_eq_true] at hxy
     have:x=y:=Prod.ext (eqA_eq hxy.1) (eqA_eq hxy.2)
     rw[this];exact hy) h1.1.2
    exact ⟨es1,es3,p1.trans hp.symm,p2,p3,p4,p5⟩
   |loop x1 x2 x3 x4 x5 x6=>simp only[subH] at hs;cases hs
  ·have hs':subH h' h=true:=by
    cases x<;>simp only[subH,Bool.and_eq_true] at hs<;>first|exact hs.2|cases hs
   exact subH_get hs' k o e
theorem hget_gen:∀ (h:Hp) (k:Nat) (o2:EObj),hget (gen h) k=some o2->∃ o,hget h k=some o/\orgOf k o2=orgOf k o/\∀ (R:NR) (c:Nat) (o':AObj),RenO R c o o'->RenO R c o2 o'
 |[],k,o2,e=>by cases e
 |(j,x)::h,k,o2,e=>by
  have rest:hget (gen h) k=some o2->¬ Nat.beq j k=true->∃ o,hget ((j,x)::h) k=some o/\orgOf k o2=orgOf k o/\∀ (R:NR) (c:Nat) (o':AObj),RenO R c o o'->RenO R c o2 o':=fun e hj=>by
   simp only[hget,if_neg hj];exact hget_gen h k o2 e
  have same:gen ((j,x)::h)=(j,x)::gen h->∃ o,hget ((j,x)::h) k=some o/\orgOf k o2=orgOf k o/\∀ (R:NR) (c:Nat) (o':AObj),RenO R c o o'->RenO R c o2 o':=fun hg=>by
   rw[hg] at e
   simp only[hget] at e
   split at e
   ·rename_i hj;cases e
    exact ⟨_,by simp only[hget];rw[if_pos hj],rfl,fun _ _ _ h=>h⟩
   ·rename_i hj;exact rest e hj
  cases x with
  |ob x=>
   cases x with
   |map es=>
    simp only[gen,hget] at e
    split at e
    ·rename_i hj
     cases e
     refine ⟨_,by simp only[hget];rw[if_pos hj],?_,?_⟩
     ·split<;>rfl
     ·intro R c o' hh
      split
      ·rename_i hc
       simp only[Bool.and_eq_true] at hc
       obtain ⟨es',p1,p2,p3⟩:=hh
       exact ⟨es,es',List.Perm.refl _,hc.2,p1,p2,p3⟩
      ·exact hh
    ·rename_i hj;exact rest e hj
   |_=>exact same rfl
  |_=>exact same rfl
theorem gen_le (h:Hp):HLe h (gen h):=fun k o2 e=>hget_gen h k o2 e
theorem eqS_le {a b:XS} (h:eqS a b=true):a.tr=b.tr/\HLe b.hs.h a.hs.h/\a.hs.n=b.hs.n/\b.hs.Same a.hs:=by
 unfold eqS at h
 simp only[Bool.and_eq_true,beq_iff_eq] at h
 obtain ⟨⟨⟨⟨⟨⟨h1,h2⟩,h3⟩,h4⟩,h5⟩,h6⟩,h7⟩:=h
 unfold eqH at h2
 simp only[Bool.and_eq_true] at h2
 exact ⟨eqT_eq h1,fun k o2 e=>subH_get h2.1 k o2 e,h3,⟨h4,h5,h6,h7⟩⟩
section
variable {C:Cfg} {ih:XTask->Option TOut} {R R' R'':NR} {rd:Bool} {es es' es'':XS} {s s' s'':AS} {o:Oper} {ops:Array Oper} {m:Nat} {Q:AX->AS->Prop} {K:AS->Prop}
theorem PostS.eqS_to {r r':XS} (he:eqS r r'=true) (p:PostS C.P R R' rd es r' s s'):PostS C.P R R' rd es r s s':=by
 obtain ⟨h1,h2,h3,h4⟩:=eqS_le he
 have hF:r.hs.F=r'.hs.F:=by funext k;simp only[HS.F,h3,h4.m]
 refine ⟨?_,⟨?_,fun t=>by rw[h1];exact p.rel.tm t,p.rel.d1,p.rel.d2⟩,p.same.trans h4⟩
 ·rw[hF];exact h2.post p.post
 ·rw[hF];exact h2.rel p.rel.heap
theorem PostS.gen_to {g:Bool} {r:XS} (p:PostS C.P R R' rd es r s s'):PostS C.P R R' rd es (genS g r) s s':=by
 unfold genS
 split
 ·exact ⟨(gen_le _).post p.post,⟨(gen_le _).rel p.rel.heap,p.rel.tm,p.rel.d1,p.rel.d2⟩,⟨p.same.m,p.same.lv,p.same.ro,p.same.rm⟩⟩
 ·exact p
theorem runQ_rel (hC:COk C) (hih:SoundCall C ih) (hm:m<=4000):∀ (l:List Oper) {es es1:XS} {s:AS},runQ C ih ops l es=some es1->(∀ o∈l,operOk m o=true)->RelS C.P R rd es s ->
  ∃ s1,RelS C.P R rd es1 s1/\es1.hs=es.hs/\s1.H=s.H/\s1.defs=s.defs/\∀ t,(∀ o∈l,o.dst≠some t)->s1.tmps t=s.tmps t
 |[],es,es1,s,hx,_,hr=>by
  simp only[runQ] at hx;cases hx
  exact ⟨s,hr,rfl,rfl,rfl,fun _ _=>rfl⟩
 |o::l,es,es1,s,hx,ho,hr=>by
  have hoo:=ho o (by simp)
  simp only[operOk,Bool.and_eq_true] at hoo
  have fin:∀ {v v':AV},Ren R v v'->runQ C ih ops l (es.put o.dst v es.hs)=some es1 ->
    ∃ s1,RelS C.P R rd es1 s1/\es1.hs=es.hs/\s1.H=s.H/\s1.defs=s.defs/\∀ t,(∀ o'∈o::l,o'.dst≠some t)->s1.tmps t=s.tmps t:=by
   intro v v' hv hx
   obtain ⟨s1,h1,h2,h3,h4,h5⟩:=runQ_rel hC hih hm l (s:=s.put o.dst v' s.H) hx (fun o' h'=>ho o' (by simp[h'])) ⟨hr.heap,put_ren hoo.1 hm hr.tm hv,hr.d1,hr.d2⟩
   refine ⟨s1,h1,h2,h3,h4,fun t ht=>?_⟩
   rw[h5 t fun o' h'=>ht o' (by simp[h'])]
   exact X11 (ht o (by simp))
  simp only[runQ] at hx
  split at hx
  ·split at hx<;>try (cases hx;done)
   rename_i v hv
   obtain ⟨v',h1,h2⟩:=xq_sound hih hv hr.heap (ev_ren hC hr.tm)
   exact fin h1 hx
  ·exact fin (.val _) hx
end
end Go.V
