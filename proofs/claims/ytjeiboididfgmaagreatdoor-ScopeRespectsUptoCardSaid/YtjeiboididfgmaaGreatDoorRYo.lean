/- An evaluator for closed runs: functions. No condition. -/
import Derived.Test.YtjeiboididfgmaaGreatDoorRYn
set_option linter.unusedVariables false
set_option linter.unusedSimpArgs false
namespace Go.V
open Go
section
variable {C:Cfg} {R:NR} {H:HM} {h:Hp}
theorem vres_ren {f f':Nat->AV} (hr:RelH R 0 h H) (hf:∀ t,Ren R (f t) (f' t)) {x:ResultVar} {v:AV} (hv:vres C.P (hm h) f x=some v):∃ v',vres C.P H f' x=some v'/\Ren R v v':=by
 cases x with
 |tmp t=>cases hv;exact ⟨_,rfl,hf t⟩
 |cell a t=>
  simp only[vres] at hv ⊢
  split at hv<;>try (cases hv;done)
  rename_i ti cs e1 e2
  obtain ⟨cs',g1,g2⟩:=cellsAt_ren hr (hf a) e2
  simp only[e1,g1]
  exact ldv_ren g2 hv
theorem vresL_ren {f f':Nat->AV} (hr:RelH R 0 h H) (hf:∀ t,Ren R (f t) (f' t)):∀ {l:List ResultVar} {vs:List AV},vresL C.P (hm h) f l=some vs->∃ vs',vresL C.P H f' l=some vs'/\RenL R vs vs'
 |[],_,hv=>by cases hv;exact ⟨[],rfl,.nil⟩
 |x::l,_,hv=>by
  simp only[vresL] at hv ⊢
  split at hv<;>try (cases hv;done)
  rename_i v vs e1 e2
  cases hv
  obtain ⟨v',g1,g2⟩:=vres_ren hr hf e1
  obtain ⟨vs',g3,g4⟩:=vresL_ren hr hf e2
  simp only[g1,g3]
  exact ⟨_,rfl,.cons g2 g4⟩
theorem vresults_ren {fn:Func} {f f':Nat->AV} {v:AV} (hr:RelH R 0 h H) (hf:∀ t,Ren R (f t) (f' t)) (hv:vresults C.P fn (hm h) f=some v):∃ v',vresults C.P fn H f'=some v'/\Ren R v v':=by
 unfold vresults at hv ⊢
 cases e:vresL C.P (hm h) f fn.results.toList with
 |none=>rw[e] at hv;cases hv
 |some vs=>
  rw[e] at hv
  obtain ⟨vs',g1,g2⟩:=vresL_ren hr hf e
  rw[g1]
  cases g2 with
  |nil=>cases hv;exact ⟨_,rfl,.val _⟩
  |cons a1 a2=>cases a2 with
   |nil=>cases hv;exact ⟨_,rfl,a1⟩
   |cons a3 a4=>cases hv;exact ⟨_,rfl,.tup (.cons a1 (.cons a3 a4))⟩
theorem ofList_ren:∀ {as as':List AV} (i:Nat) {t:Tr} {f:Nat->AV},i+as.length<=4000->RenL R as as'->(∀ k,Ren R (t.get k) (f k))->∀ k,Ren R ((Tr.ofList i as t).get k) (if i<=k/\k<i+as'.length then as'.getD (k-i) .unit else f k)
 |[],_,i,t,f,_,.nil,ht,k=>by
  simp only[Tr.ofList,List.length_nil,Nat.add_zero]
  rw[if_neg (by omega)];exact ht k
 |a::as,_,i,t,f,hle,.cons (a':=a') (as':=as') h1 h2,ht,k=>by
  simp only[List.length_cons] at hle
  have:=ofList_ren (i+1) (t:=Tr.set 12 t i a) (f:=upd f i a') (by omega) h2 (fun j=>by
   rw[Tr.get_set 12 t i a (by omega) j]
   unfold upd
   split
   ·exact h1
   ·exact ht j) k
  simp only[Tr.ofList]
  by_cases hk:k=i
  ·subst hk
   rw[if_neg (by omega)] at this
   rw[if_pos ⟨Nat.le_refl _,by simp⟩]
   simpa[upd] using this
  ·by_cases hk2:i+1<=k/\k<i+1+as'.length
   ·rw[if_pos hk2] at this
    rw[if_pos ⟨by omega,by simp;omega⟩]
    have e:k-i=(k-(i+1))+1:=by omega
    rw[e];simpa using this
   ·rw[if_neg hk2] at this
    rw[if_neg (by simp;omega)]
    unfold upd at this
    rwa [if_neg hk] at this
theorem cFunc_sound (hC:COk C) {n:Nat} (hsc:SoundCode C (run C n)) {f:FuncId} {all all':List AV} {hs hs':HS} {v:AV} {K:ARes->HM->Prop} (hx:cFunc C (run C n) f all hs=some (.call v hs')) (hr:RelX R hs.F hs.h H)
  (ha:RenL R all all') (hk:HK hs hs' R H v K):Plain C.P f=true/\CallF C.P C.G f all' H K:=by
 unfold cFunc at hx
 have hx2:cHooked C f all hs=some (.call v hs')\/(match C.clone f with|some (e,sz)=>cClone hs e sz all|none=>cBody C (run C n) f all hs C.P.funcs[f]?)=some (.call v hs'):=by
  unfold orElse' at hx
  split at hx
  ·rename_i a e;cases hx;exact .inl e
  ·exact .inr hx
 clear hx
 rcases hx2 with hx|hx
 ·unfold cHooked at hx
  split at hx<;>try (cases hx;done)
  rename_i g hg
  unfold cHook at hx
  split at hx<;>try (cases hx;done)
  rename_i hgnd
  split at hx<;>cases hx
  rename_i hv
  obtain rfl:=(gndL_ren R all hgnd).2 ha
  obtain ⟨h1,h2⟩:=hC.hook f g _ v hg hv
  obtain ⟨h3,h4⟩:=h2 H
  exact ⟨h3,h4 K (hk _ _ _ .refl hr (gnd_ren R v h1).1 (.refl _))⟩
 ·split at hx
  ·rename_i e sz hcl
   unfold cClone at hx
   split at hx<;>try (cases hx;done)
   rename_i x
   split at hx<;>try (cases hx;done)
   rename_i ys hys
   split at hx<;>try (cases hx;done)
   rename_i hsz
   cases ha with
   |cons h1 h2=>
    cases h2
    obtain ⟨ys',g1,g2⟩:=srcOf_ren hr.toRelH h1 hys
    split at hx
    ·cases hx
     cases g2
     exact hC.clone f e sz hcl _ H [] K g1 (by simp) (by simp) (fun _=>hk _ _ _ .refl hr .nil0 (.refl _)) (fun hne=>absurd rfl hne)
    ·rename_i hne
     split at hx<;>cases hx
     rename_i hl
     refine hC.clone f e sz hcl _ H ys' K g1 (g2.clen hsz) (by rw[g2.length];exact hl.1) (fun e=>?_) fun _ b cap hb=>?_
     ·subst e;cases g2;exact absurd rfl hne
     ·obtain ⟨e1,e2⟩:=hr.push (W:=hs.W) (HS.room_F hl.2) (HS.push_F (o:=.ob (.row e sz hs.n ys))) (c:=cap) (o:=.ob (.row e sz hs.n ys)) (o':=.row e sz cap ys') hb ⟨_,rfl,g2.mono ext_sub⟩ rfl
      refine hk _ _ _ e2 e1 ?_ ⟨rfl,rfl,rfl,rfl⟩
      rw[<-g2.length]
      exact .mlist _ _ (.inr ⟨rfl,rfl,rfl⟩)
  ·unfold cBody at hx
   split at hx<;>try (cases hx;done)
   rename_i fn hfn
   split at hx<;>try (cases hx;done)
   rename_i c hb
   split at hx<;>try (cases hx;done)
   rename_i hck
   simp only[Bool.and_eq_true,decide_eq_true_eq] at hck
   obtain ⟨⟨⟨c1,c2⟩,c3⟩,c4⟩:=hck
   refine ⟨c1,CallF_introD hfn hb c2 (by rw[ha.length];exact c3) ?_⟩
   cases h1:run C n (.code fn.ntmps false c ⟨Tr.ofList 0 all .leaf,hs⟩) with
   |none=>rw[h1] at hx;cases hx
   |some o=>
    rw[h1] at hx
    cases o with
    |call v hs=>cases hx
    |code x1 e1=>
     have hrs:RelS C.P R false ⟨Tr.ofList 0 all .leaf,hs⟩ ⟨fun i=>all'.getD i .unit,H,[]⟩:=by
      refine ⟨hr,fun t=>?_,(by intro e;cases e),fun d hd=>by cases hd⟩
      have:=ofList_ren (R:=R) 0 (t:=.leaf) (f:=fun _=>.unit) (by omega) ha (fun k=>.val _) t
      simp only[Nat.zero_le,true_and,Nat.zero_add,Nat.sub_zero] at this
      split at this
      ·exact this
      ·rename_i hlt
       have e:all'.getD t .unit=.unit:=by rw[List.getD_eq_getElem?_getD,List.getElem?_eq_none (by omega)];rfl
       show Ren R _ (all'.getD t .unit)
       rw[e];exact this
     have fin:finish C fn e1=some (.call v hs')->∀ R' s',PostS C.P R R' false ⟨Tr.ofList 0 all .leaf,hs⟩ e1 ⟨fun i=>all'.getD i .unit,H,[]⟩ s'->FinD C.P C.G fn K .ret s':=by
      intro hfi R' s' p
      unfold finish at hfi
      split at hfi<;>cases hfi
      rename_i hv
      obtain ⟨v',g1,g2⟩:=vresults_ren p.rel.heap.toRelH p.rel.tm hv
      exact ⟨p.rel.d2,v',v',s'.H,g1,Drop.refl _,View.refl _,hk R' s'.H v' p.post p.rel.heap g2 p.same⟩
     refine hsc _ _ _ _ _ _ h1 c4 R _ none _ hrs (fun _=>rfl) fun R' s' p=>?_
     cases x1 with
     |normal=>exact fin hx R' s' p
     |ret=>exact fin hx R' s' p
     |exit i=>cases hx
     |goto l=>cases hx
end
end Go.V
