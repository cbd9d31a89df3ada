/- Regions in drawn order: quiet operations anywhere among others, walked by hand. No condition. The program's scope: mappings; what a renaming has made. No condition. Renaming all bound names: plain laws. No condition. Renaming all bound names: what is made is equal up to renaming, and without an error. No condition. Renaming all bound names: canonical names; twice is as once; no error. No condition. Renaming all bound names: what is made has no error, and its size. No condition. New names: numbered ones, and names like an old one: plain. No condition. Canon and Unique: plain. No condition. -/
import Derived.Test.YtjeiboididfgmaaGreatDoorQD
import Derived.Test.YtjeiboididfgmaaGreatDoorQYmx
import Derived.Test.YtjeiboididfgmaaGreatDoorQX
import Derived.Test.YtjeiboididfgmaaGreatDoorQE
set_option linter.unusedVariables false
set_option linter.unusedSimpArgs false
namespace Go.V
open Go
inductive MT where
 |fin
 |one (i:Nat) (p:Bool) (t:MT)
 |alt (a b:MT)
def MT.covers:MT->Nat->Bool
 |.fin,_=>false
 |.one j _ _,i=>i==j
 |.alt a b,i=>a.covers i||b.covers i
def MT.depth:MT->Nat
 |.fin=>0
 |.one _ _ t=>t.depth+1
 |.alt a b=>max a.depth b.depth
def MT.ok (w:Nat->Nat->Bool) (ops:Array Oper) (q:Nat->Bool):MT->Array Bool->List Nat->Bool
 |.fin,L,_=>(List.range ops.size).all fun i=>q i||L.getD i false
 |.one j p t,L,pd=>decide (j<ops.size)&&!q j&&!L.getD j false&&(p||pd.all fun k=>w j k)&&(cready w ops q (L.setIfInBounds j true)).all t.covers&&t.ok w ops q (L.setIfInBounds j true) (pd.filter fun k=>!w j k)
 |.alt a b,L,pd=>a.ok w ops q L pd&&b.ok w ops q L pd
def ascF:List Nat->Bool
 |i::j::l=>decide (i<j)&&ascF (j::l)
 |_=>true
def mixAll (ops:Array Oper) (qi:List Nat) (t:MT):Bool:=
 mixOkW (wB (masksGo ops.toList [])) ops (fun i=>qi.contains i)&&ascF qi&&qi.all (fun i=>match ops[i]? with
  |some o=>o.dst.isSome
  |none=>false)&&(cready (wB (masksGo ops.toList [])) ops (fun i=>qi.contains i) (Array.replicate ops.size false)).all t.covers&&t.ok (wB (masksGo ops.toList [])) ops (fun i=>qi.contains i) (Array.replicate ops.size false) qi&&decide (t.depth<=ops.size)
def opsAt (ops:Array Oper):List Nat->List Oper
 |[]=>[]
 |i::l=>(ops.toList.drop i).take 1++opsAt ops l
theorem ascF_tail {i:Nat} {l:List Nat} (h:ascF (i::l)=true):ascF l=true:=by
 cases l with
 |nil=>rfl
 |cons j l=>simp only[ascF,Bool.and_eq_true] at h;exact h.2
theorem ascF_lt:∀ {l:List Nat} {i:Nat},ascF (i::l)=true->∀ j∈l,i<j
 |[],_,_,_,h=>by cases h
 |k::l,i,h,j,hj=>by
  simp only[ascF,Bool.and_eq_true,decide_eq_true_eq] at h
  rcases List.mem_cons.1 hj with rfl|hj
  ·exact h.1
  ·exact Nat.lt_trans h.1 (ascF_lt h.2 j hj)
theorem take_one {ops:Array Oper} {i:Nat} {o:Oper} (h:ops[i]?=some o):(ops.toList.drop i).take 1=[o]:=by
 have hl:ops.toList[i]?=some o:=by rw[Array.getElem?_toList];exact h
 obtain ⟨h1,h2⟩:=List.getElem?_eq_some_iff.1 hl
 rw[List.drop_eq_getElem_cons h1,h2];rfl
theorem opsAt_mem {ops:Array Oper}:∀ {l:List Nat} {o:Oper},o∈opsAt ops l->∃ i∈l,ops[i]?=some o
 |[],_,h=>by cases h
 |i::l,o,h=>by
  rcases List.mem_append.1 h with h|h
  ·cases hi:ops[i]? with
   |none=>
    have:ops.toList.length<=i:=by simpa using hi
    rw[List.drop_of_length_le this] at h;simp at h
   |some p=>
    rw[take_one hi] at h
    rw[List.mem_singleton.1 h]
    exact ⟨i,by simp,hi⟩
  ·obtain ⟨j,h1,h2⟩:=opsAt_mem h
   exact ⟨j,by simp[h1],h2⟩
theorem opsAt_of {ops:Array Oper}:∀ {l:List Nat} {i:Nat} {o:Oper},i∈l->ops[i]?=some o->o∈opsAt ops l
 |[],_,_,h,_=>by cases h
 |j::l,i,o,h,ho=>by
  refine List.mem_append.2 ?_
  rcases List.mem_cons.1 h with rfl|h
  ·left;rw[take_one ho];simp
  ·exact .inr (opsAt_of h ho)
theorem opsAt_ord {ops:Array Oper} {q:Nat->Bool} (hf:MixFacts ops q):∀ (l:List Nat),ascF l=true->(∀ i∈l,q i=true)->Ord ops (opsAt ops l)
 |[],_,_=>trivial
 |i::l,ha,hq=>by
  have ih:=opsAt_ord hf l (ascF_tail ha) (fun j hj=>hq j (by simp[hj]))
  have hlt:=ascF_lt ha
  unfold opsAt
  cases hi:ops[i]? with
  |none=>
   have:ops.toList.length<=i:=by simpa using hi
   rw[List.drop_of_length_le this];exact ih
  |some o=>
   rw[take_one hi]
   show Ord ops (o::opsAt ops l)
   have hqi:=hq i (by simp)
   refine ⟨fun o' ho' d hd hl=>?_,fun o' ho' d hd hd'=>?_,ih⟩
   ·rcases List.mem_cons.1 ho' with rfl|ho'
    ·have:=(hf.look i i _ _ d hi hi hqi hd hl).2.1;omega
    ·obtain ⟨j,h1,h2⟩:=opsAt_mem ho'
     have:=(hf.look i j _ _ d hi h2 hqi hd hl).2.1
     have:=hlt j h1;omega
   ·obtain ⟨j,h1,h2⟩:=opsAt_mem ho'
    have:=hf.uniq i j _ _ d hi h2 hqi hd hd'
    have:=hlt j h1;omega
section
variable {P:Program} {G:GT} {n:Nat} {r:Option Nat} {Q:AX->AS->Prop}
def wt (P:Program) (G:GT) (M:List Nat) (ops:Array Oper) (HP:HM->Prop) (N:AS->Prop):MT->AS->Prop
 |.fin,s=>N s
 |.one i p t,s=>vops P G M ops (onN (fun s'=>(p=true->HP s'.H)/\wt P G M ops HP N t s') fun _ _=>False) ((ops.toList.drop i).take 1) s
 |.alt a b,s=>wt P G M ops HP N a s/\wt P G M ops HP N b s
theorem I13 {M:List Nat} {ops:Array Oper} {HP:HM->Prop} {N:AS->Prop} {s:AS} (h:N s):wt P G M ops HP N .fin s:=h
theorem wt_alt {M:List Nat} {ops:Array Oper} {HP:HM->Prop} {N:AS->Prop} {a b:MT} {s:AS} (h1:wt P G M ops HP N a s) (h2:wt P G M ops HP N b s):wt P G M ops HP N (.alt a b) s:=⟨h1,h2⟩
theorem A11 {M:List Nat} {ops:Array Oper} {HP:HM->Prop} {N:AS->Prop} {i:Nat} {p:Bool} {t:MT} {tm:Nat->AV} {H:HM} {ds:List ADef}
  (h:∀ N':AS->Prop,(∀ s',(p=true->HP s'.H)/\wt P G M ops HP N t s'->N' s')->wops P G M ops N' (fun _ _=>False) ((ops.toList.drop i).take 1) tm H ds):wt P G M ops HP N (.one i p t) ⟨tm,H,ds⟩:=h _ fun _ h=>h
theorem wt_branch {M:List Nat} {ops:Array Oper} {HP:HM->Prop} {N:AS->Prop} {w:Nat->Nat->Bool} {q:Nat->Bool} {i:Nat} {s:AS} {L:Array Bool} {pd:List Nat}:∀ {t:MT},t.covers i=true->t.ok w ops q L pd=true->wt P G M ops HP N t s ->
  ∃ p t',t'.depth<t.depth/\(p=true\/(pd.all fun k=>w i k)=true)/\((cready w ops q (L.setIfInBounds i true)).all t'.covers)=true/\t'.ok w ops q (L.setIfInBounds i true) (pd.filter fun k=>!w i k)=true/\wt P G M ops HP N (.one i p t') s
 |.fin,h,_,_=>by cases h
 |.one j p t,h,ho,hw=>by
  obtain rfl:i=j:=by simpa[MT.covers] using h
  simp only[MT.ok,Bool.and_eq_true,Bool.or_eq_true] at ho
  exact ⟨p,t,by simp[MT.depth],ho.1.1.2,ho.1.2,ho.2,hw⟩
 |.alt a b,h,ho,hw=>by
  simp only[MT.covers,Bool.or_eq_true] at h
  simp only[MT.ok,Bool.and_eq_true] at ho
  rcases h with h|h
  ·obtain ⟨p,t',h1,h2⟩:=wt_branch h ho.1 hw.1
   exact ⟨p,t',by simp only[MT.depth];omega,h2⟩
  ·obtain ⟨p,t',h1,h2⟩:=wt_branch h ho.2 hw.2
   exact ⟨p,t',by simp only[MT.depth];omega,h2⟩
theorem wt_done {M:List Nat} {ops:Array Oper} {HP:HM->Prop} {N:AS->Prop} {w:Nat->Nat->Bool} {q:Nat->Bool} {s:AS} {L:Array Bool} {pd:List Nat}:∀ {t:MT},t.ok w ops q L pd=true->wt P G M ops HP N t s->(∀ i,i<ops.size->q i=false->L.getD i false=true)->N s
 |.fin,_,hw,_=>hw
 |.one j p t,ho,_,ha=>by
  simp only[MT.ok,Bool.and_eq_true,decide_eq_true_eq,Bool.not_eq_true'] at ho
  have:=ha j ho.1.1.1.1.1 ho.1.1.1.1.2
  rw[ho.1.1.1.2] at this;cases this
 |.alt a b,ho,hw,ha=>by
  simp only[MT.ok,Bool.and_eq_true] at ho
  exact wt_done ho.1 hw.1 ha
theorem wt_zero {w:Nat->Nat->Bool} {ops:Array Oper} {q:Nat->Bool} {L:Array Bool} {pd:List Nat}:∀ {t:MT},t.depth=0->t.ok w ops q L pd=true->∀ i,i<ops.size->q i=false->L.getD i false=true
 |.fin,_,ho,i,hi,hq=>by
  simp only[MT.ok,List.all_eq_true,List.mem_range,Bool.or_eq_true] at ho
  rcases ho i hi with h|h
  ·rw[hq] at h;cases h
  ·exact h
 |.one _ _ _,h,_,_,_,_=>by simp[MT.depth] at h
 |.alt a b,h,ho,i,hi,hq=>by
  simp only[MT.ok,Bool.and_eq_true] at ho
  simp only[MT.depth] at h
  exact wt_zero (t:=a) (by omega) ho.1 i hi hq
theorem wt_VCh {M:List Nat} {ops:Array Oper} {q:Nat->Bool} {HP:HM->Prop} {N:AS->Prop}:∀ (f:Nat) (t:MT) (L:Array Bool) (pdl:List Nat) (pd:Nat->Bool) (s:AS),t.depth<=f->(∀ k,pd k=true->k∈pdl) ->
  ((cready (wB (masksGo ops.toList [])) ops q L).all t.covers)=true->t.ok (wB (masksGo ops.toList [])) ops q L pdl=true->wt P G M ops HP N t s->VCh P G ops q (fun _=>HP) N f L pd s
 |0,t,L,pdl,pd,s,hd,hp,hc,ho,hw=>by
  have h0:=wt_zero (by omega) ho
  exact ⟨h0,wt_done ho hw h0⟩
 |f+1,t,L,pdl,pd,s,hd,hp,hc,ho,hw=>by
  refine ⟨wt_done ho hw,fun i hi o hio=>?_⟩
  obtain ⟨p,t',h1,h2,h3,h4,h5⟩:=wt_branch (List.all_eq_true.1 hc i hi) ho hw
  have h5':vops P G M ops (onN (fun s'=>(p=true->HP s'.H)/\wt P G M ops HP N t' s') fun _ _=>False) ((ops.toList.drop i).take 1) s:=h5
  rw[take_one hio] at h5'
  have h6:=vops_sound _ _ h5'
  have h7:VOp P G ops (onN (fun s'=>(p=true->HP s'.H)/\wt P G M ops HP N t' s') fun _ _=>False) o (fun s'=>(p=true->HP s'.H)/\wt P G M ops HP N t' s') s:=h6
  have h8:VOp P G ops (onN N fun _ _=>False) o (fun s'=>(p=true->HP s'.H)/\wt P G M ops HP N t' s') s:=by
   unfold VOp at h7 ⊢
   split
   ·rw[if_pos ‹_›] at h7
    exact h7.mono fun x H' hx=>by cases x<;>exact hx
   ·rw[if_neg ‹_›] at h7;exact h7
  refine h8.mono fun s' hs'=>⟨fun k hk=>?_,?_⟩
  ·simp only[Bool.and_eq_true,Bool.not_eq_true'] at hk
   rcases h2 with h2|h2
   ·exact hs'.1 h2
   ·have:=List.all_eq_true.1 h2 k (hp k hk.1)
    rw[hk.2] at this;cases this
  ·refine wt_VCh f t' _ _ _ _ (by omega) (fun k hk=>?_) h3 h4 hs'.2
   simp only[Bool.and_eq_true] at hk
   exact List.mem_filter.2 ⟨hp k hk.1,hk.2⟩
theorem VW_mixE (M:List Nat) (qi:List Nat) (t:MT) (HP:HM->Prop) {ops:Array Oper} {id:Nat} {tm tmI:Nat->AV} {H:HM} {ds:List ADef} (hm:P.follows .mixedOrders=true) (hc:mixAll ops qi t=true) (h0:HP H)
  (hq:∀ H' (N:AS->Prop),HP H'->N ⟨tmI,H',ds⟩->wqs P G M ops N (fun _ _=>False) [] (opsAt ops qi) tm H' ds)
  (h:wt P G M ops HP (fun s'=>Q .normal s') t ⟨tmI,H,ds⟩):VW P G n r (.region id ops true) Q ⟨tm,H,ds⟩:=by
 simp only[mixAll,Bool.and_eq_true,decide_eq_true_eq] at hc
 obtain ⟨⟨⟨⟨⟨c1,c2⟩,c3⟩,c4⟩,c5⟩,c6⟩:=hc
 have hf:=mixFacts c1
 have hord:=opsAt_ord hf qi c2 (fun i hi=>by simpa using hi)
 have facts:∀ H',HP H'->(∀ t,(∀ o∈opsAt ops qi,o.dst≠some t)->tmI t=tm t)/\∀ o∈opsAt ops qi,∃ E:AS,E.tmps=tmI/\E.H=H'/\Yld P G ops E o:=by
  intro H' hp
  have h1:=vqs_sound _ _ (hq H' (fun s=>s.tmps=tmI) hp rfl)
  obtain ⟨E,k1,k2,k3,k4,k5⟩:=VQ_facts _ _ hord h1
  have k1':E.tmps=tmI:=k1
  exact ⟨fun t ht=>by rw[<-k1',k4 t ht],fun o ho=>⟨E,k1',k2,k5 o ho⟩⟩
 have yld:∀ i o,(qi.contains i)=true->ops[i]?=some o->YldH P G ops HP tmI o:=by
  intro i o hi ho
  have him:i∈qi:=by simpa using hi
  have hmem:=opsAt_of him ho
  have hds:o.dst.isSome=true:=by
   have:=List.all_eq_true.1 c3 i him
   rw[ho] at this;exact this
  obtain ⟨d,hd⟩:=Option.isSome_iff_exists.1 hds
  obtain ⟨E,e1,e2,e3⟩:=(facts H h0).2 o hmem
  unfold YldH
  cases hw:wantA ops o tmI with
  |true=>
   refine .inl ⟨rfl,tmI d,fun H' hp=>?_,fun d' hd'=>by rw[hd] at hd';cases hd';rfl⟩
   obtain ⟨E',e1',e2',e3'⟩:=(facts H' hp).2 o hmem
   obtain ⟨et,eH,ed⟩:=E'
   obtain rfl:et=tmI:=e1'
   obtain rfl:eH=H':=e2'
   rcases e3' with ⟨_,v,hv,hdv⟩|⟨hn,_⟩
   ·have:=hdv d hd
    simp only at this
    rw[this];exact hv
   ·rw[show wantA ops o et=true from hw] at hn;cases hn
  |false=>
   refine .inr ⟨rfl,fun d' hd'=>?_⟩
   rcases e3 with ⟨hn,_⟩|⟨_,hn⟩
   ·rw[e1,hw] at hn;cases hn
   ·rw[<-e1];exact hn d' hd'
 refine VW.mono (Q:=onN (fun s'=>Q .normal s') fun _ _=>False) (VW_region_any hm ?_) fun x s hx=>by cases x<;>first|exact hx|exact hx.elim
 have hgf:∀ i:Nat,(Array.replicate ops.size false).getD i false=false:=fun i=>by
  rw[Array.getD_eq_getD_getElem?,Array.getElem?_replicate];split<;>rfl
 refine mix_run hf ops.size ops.size (Array.replicate ops.size false) (Array.replicate ops.size false) (fun i=>qi.contains i) ⟨tm,H,ds⟩ ⟨tmI,H,ds⟩ (by simp) ?_ ?_ (by simp) (fun _ _=>rfl) (fun i o hi _ _=>⟨hi,h0⟩) ?_ yld rfl rfl ?_
 ·have:∀ k,unl (fun i=>(Array.replicate ops.size false).getD i false) k<=k:=fun k=>by
   induction k with
   |zero=>exact Nat.le_refl _
   |succ k ih=>simp only[unl];split<;>omega
  exact this _
 ·intro i o _ hl
  rw[hgf] at hl;cases hl
 ·exact wt_VCh ops.size t _ qi _ _ c6 (fun k hk=>by simpa using hk) c4 c5 h
 ·intro t ht
  have:=(facts H h0).1 t (fun o ho=>by
   obtain ⟨i,h1,h2⟩:=opsAt_mem ho
   exact ht i o (by simpa using h1) (hgf i) h2)
  exact this.symm
theorem VW_mix (M:List Nat) (qi:List Nat) (t:MT) (HP:HM->Prop) {ops:Array Oper} {id:Nat} {y:Code} {tm tmI:Nat->AV} {H:HM} {ds:List ADef} (hm:P.follows .mixedOrders=true) (hc:mixAll ops qi t=true) (h0:HP H)
  (hq:∀ H' (N:AS->Prop),HP H'->N ⟨tmI,H',ds⟩->wqs P G M ops N (fun _ _=>False) [] (opsAt ops qi) tm H' ds)
  (h:wt P G M ops HP (VW P G n r y Q) t ⟨tmI,H,ds⟩):VW P G n r (.seq (.region id ops true) y) Q ⟨tm,H,ds⟩:=
 I10 (VW_mixE M qi t HP hm hc h0 hq h)
end
set_option linter.defProp false
set_option maxRecDepth 100000
open Go.Proofs.Tryz
section
variable {G:GT} {H:HM}
end
def OutX (H0 H:HM) (v:AV) (e sz:Nat) (xs:List AV):Prop:=(xs=[]/\v=.nil0/\H=H0)\/∃ b cap,H0 b=none/\v=.mlist b xs.length cap/\H=H0.upd b (.row e sz cap xs)
theorem OutX.out {H0 H:HM} {v:AV} {e sz:Nat} {xs:List AV} (h:OutX H0 H v e sz xs):OutG H0 H v e sz xs:=by
 rcases h with ⟨h1,h2,rfl⟩|⟨b,cap,h1,h2,rfl⟩
 ·exact .inl ⟨h1,h2,Drop.refl _⟩
 ·exact .inr ⟨b,cap,h1,h2,Drop.refl _⟩
section
variable {G:GT} {H:HM}
theorem cloneS_c {x:AV} {ys:List ByteArray} {K:ARes->HM->Prop} (hs:srcOf H x=some (strs ys)) (hl:ys.length<=lim) (hk:∀ v H',OutX H H' v 9 1 (strs ys)->K (.ret v) H'):CallF prog G 123 [x] H K:=
 (clone_c (T:=23) (e:=9) (sz:=1) func123 rfl (by kernel_rfl) rfl rfl (by kernel_rfl) ti9 (by decide) hs (strs_sz _) (by rw[R10];exact hl)
  (fun h=>hk _ _ (.inl ⟨h,rfl,rfl⟩)) (fun _ b cap hb=>hk _ _ (.inr ⟨b,cap,hb,rfl,rfl⟩))).2
theorem cloneE_c {x:AV} {ys:List Ex} {K:ARes->HM->Prop} (hs:srcOf H x=some (exs ys)) (hl:ys.length<=lim) (hk:∀ v H',OutX H H' v 27 7 (exs ys)->K (.ret v) H'):CallF prog G 124 [x] H K:=
 (clone_c (T:=24) (e:=27) (sz:=7) func124 rfl (by kernel_rfl) rfl rfl (by kernel_rfl) ti27 (by decide) hs (exs_sz _) (by rw[W10];exact hl)
  (fun h=>hk _ _ (.inl ⟨h,rfl,rfl⟩)) (fun _ b cap hb=>hk _ _ (.inr ⟨b,cap,hb,rfl,rfl⟩))).2
theorem cloneA_c {x:AV} {ys:List Ar} {K:ARes->HM->Prop} (hs:srcOf H x=some (ars ys)) (hl:ys.length<=lim) (hk:∀ v H',OutX H H' v 85 9 (ars ys)->K (.ret v) H'):CallF prog G 125 [x] H K:=
 (clone_c (T:=25) (e:=85) (sz:=9) func125 rfl (by kernel_rfl) rfl rfl (by kernel_rfl) ti85 (by decide) hs (ars_sz _) (by rw[V11];exact hl)
  (fun h=>hk _ _ (.inl ⟨h,rfl,rfl⟩)) (fun _ b cap hb=>hk _ _ (.inr ⟨b,cap,hb,rfl,rfl⟩))).2
end
section
variable {α:Type} (nx:α->ByteArray->Bool->ByteArray×α)
end
def bsN (e:Ex):List (ByteArray×Bool):=if e.k=17 then (e.names.take 1).map (·,false) else e.names.map (·,decide (e.k=15))
def bsR:List Ar->List (List (ByteArray×Bool))->List (ByteArray×Bool)
 |x::xs,r::rs=>x.names.map (·,false)++r++bsR xs rs
 |_,_=>[]
def bs:Ex->List (ByteArray×Bool):=Ex.para fun e rs=>bsN e++(rs.take e.l.length).flatten++bsR e.arms (rs.drop e.l.length)
section
variable {α:Type} (nx:α->ByteArray->Bool->ByteArray×α)
end
section
variable {α:Type} {nx:α->ByteArray->Bool->ByteArray×α} {Us:α->Bool->ByteArray->Prop}
theorem parts_left {e:Ex} {i:Nat} (h:i<e.l.length):e.parts[i]?=e.l[i]?:=by
 unfold Ex.parts;rw[List.getElem?_append_left h]
theorem parts_right {e:Ex} {i:Nat} (h:e.l.length<=i):e.parts[i]?=(e.arms[i-e.l.length]?).map Ar.body:=by
 unfold Ex.parts;rw[List.getElem?_append_right h,List.getElem?_map]
theorem own_15 {e:Ex} (h:e.k=15) (i:Nat):ownV e i=[]/\ownH e i=e.names:=by
 refine ⟨?_,by unfold ownH;rw[if_pos h]⟩
 unfold ownV own1;rw[h];rfl
theorem fr_left {e:Ex} {i:Nat} (hi:i<e.l.length):fr e i=(ownV e i,ownH e i):=by unfold fr vOf hOf;rw[if_pos hi,if_pos hi]
end
section
variable {α:Type} {nx:α->ByteArray->Bool->ByteArray×α}
theorem occ_s {e:Ex} (h:(occ e).2.2=true):(occ e).1=e.s:=by
 unfold occ at h ⊢
 split
 ·rfl
 ·rename_i h0
  rw[if_neg h0] at h
  split
  ·rfl
  ·rename_i h1
   rw[if_neg h1] at h;cases h
end
theorem distinctF_zero:∀ (l b:List ByteArray),distinctF b l=0↔(∀ x∈l,isVar x=true/\x∉b)/\l.Nodup
 |[],b=>by simp[distinctF]
 |x::l,b=>by
  unfold distinctF
  have ih:=distinctF_zero l (b++[x])
  by_cases h1:isVar x=true
  ·rw[if_pos h1]
   by_cases h2:has b x=true
   ·rw[if_pos h2]
    refine ⟨fun h=>(by cases h),fun ⟨h,_⟩=>absurd ((W11 b x).1 h2) (h x (by simp)).2⟩
   ·rw[if_neg h2,ih]
    have h2':x∉b:=fun q=>h2 ((W11 b x).2 q)
    simp only[List.mem_cons,List.mem_append,List.not_mem_nil,or_false,List.nodup_cons,not_or]
    constructor
    ·rintro ⟨a1,a2⟩
     refine ⟨fun y hy=>?_,fun q=>(a1 x q).2.2 rfl,a2⟩
     rcases hy with rfl|hy
     ·exact ⟨h1,h2'⟩
     ·exact ⟨(a1 y hy).1,(a1 y hy).2.1⟩
    ·rintro ⟨a1,a2,a3⟩
     exact ⟨fun y hy=>⟨(a1 y (.inr hy)).1,(a1 y (.inr hy)).2,fun e=>a2 (e▸hy)⟩,a3⟩
  ·rw[if_neg h1]
   exact ⟨fun h=>(by cases h),fun ⟨h,_⟩=>absurd (h x (by simp)).1 h1⟩
theorem U13 (l:List ByteArray):distinct l=0↔(∀ x∈l,isVar x=true)/\l.Nodup:=by
 unfold distinct
 rw[distinctF_zero]
 simp
theorem isVar_size {s:ByteArray} (h:isVar s=true):s.size<=12:=by
 unfold isVar word at h
 simp only[Bool.and_eq_true] at h
 have h1:=h.1.1
 rw[<-R11]
 cases hb:bytes s with
 |nil=>simp
 |cons c cs=>
  rw[hb] at h1
  simp only[wordHead,Bool.and_eq_true,decide_eq_true_eq] at h1
  simp;omega
theorem node_iff (e:Ex):nodeErr e=0↔∃ x,shapes[e.k.toNat]?=some x/\(0<=e.k/\e.k<=19)/\(x.Low<=e.n/\e.n<=x.High)/\(cls e.s x.S=true/\cls e.t x.T=true)/\nodeBad x e=false/\namesErr e=0/\(x.Arms=true->armsErr e=0):=by
 unfold nodeErr
 by_cases hk:0<=e.k/\e.k<=19
 ·rw[if_pos (by simpa using hk)]
  cases hx:shapes[e.k.toNat]? with
  |none=>simp
  |some x=>
   simp only[Option.some.injEq]
   constructor
   ·intro h
    refine ⟨x,rfl,hk,?_⟩
    unfold nodeOf at h
    by_cases hn:(decide (x.Low<=e.n)&&decide (e.n<=x.High))=true
    ·rw[if_pos hn] at h
     simp only[Bool.and_eq_true,decide_eq_true_eq] at hn
     by_cases hc:(!cls e.s x.S||!cls e.t x.T)=true
     ·rw[if_pos hc] at h;cases h
     ·rw[if_neg hc] at h
      by_cases hb:nodeBad x e=true
      ·rw[if_pos hb] at h;cases h
      ·rw[if_neg hb] at h
       by_cases hz:namesErr e=0
       ·rw[if_pos hz] at h
        refine ⟨hn,by simpa using hc,by simpa using hb,hz,fun ha=>?_⟩
        rw[if_pos ha] at h;exact h
       ·rw[if_neg hz] at h;exact absurd h hz
    ·rw[if_neg hn] at h;cases h
   ·rintro ⟨x',rfl,_,hn,hc,hb,hz,ha⟩
    unfold nodeOf
    rw[if_pos (by simpa using hn),if_neg (by simp[hc.1,hc.2]),if_neg (by simp[hb]),if_pos hz]
    split
    ·exact ha ‹_›
    ·rfl
 ·rw[if_neg (by simpa using hk)]
  refine ⟨fun h=>(by cases h),fun ⟨x,_,h,_⟩=>absurd h hk⟩
theorem armsF_same (h:Bool):∀ (l m b c:List Ar),eqArms l m=true->b.map Ar.op=c.map Ar.op->(∀ x∈m,distinct x.names=0)->armsF h b l=0->armsF h c m=0
 |[],[],_,_,_,_,_,_=>rfl
 |[],_::_,_,_,q,_,_,_=>by cases q
 |_::_,[],_,_,q,_,_,_=>by cases q
 |x::l,y::m,b,c,q,hbc,hd,hz=>by
  have q':(armF x y&&eqArms l m)=true:=q
  simp only[Bool.and_eq_true,armF,decide_eq_true_eq] at q'
  obtain ⟨⟨q1,q2⟩,q3⟩:=q'
  have he:b.isEmpty=c.isEmpty:=by
   have:=congrArg List.isEmpty hbc
   simpa using this
  have ha:∀ g f,armArity g f x=armArity g f y:=fun g f=>by
   unfold armArity;rw[q1,q2]
  have hn:∀ g f,armName g f x=armName g f y:=fun g f=>by
   unfold armName;rw[q1]
  unfold armsF at hz ⊢
  rw[ha,hn,he,q1,hbc] at hz
  split at hz
  ·cases hz
  ·rename_i c1
   rw[if_neg c1]
   split at hz
   ·cases hz
   ·rename_i c2
    rw[if_neg c2,if_pos (hd y (by simp))]
    split at hz
    ·split at hz
     ·cases hz
     ·rename_i c3
      rw[if_neg c3]
      exact armsF_same h l m _ _ q3 (by rw[List.map_append,List.map_append,hbc];simp[q1]) (fun z hz=>hd z (by simp[hz])) hz
    ·rename_i c3;exact absurd hz c3
section
variable {α:Type} {nx:α->ByteArray->Bool->ByteArray×α} {Us:α->Bool->ByteArray->Prop}
end
theorem bytes_ext {a b:ByteArray} (h:bytes a=bytes b):a=b:=by
 cases a with|mk x=>cases b with|mk y=>
 have:x.toList=y.toList:=h
 congr 1
 exact Array.toList_inj.1 this
theorem bytes_add (a b:ByteArray):bytes (a++b)=bytes a++bytes b:=by
 unfold bytes
 rw[ByteArray.data_append,Array.toList_append]
def ofB (l:List UInt8):ByteArray:=⟨l.toArray⟩
theorem bytes_ofB (l:List UInt8):bytes (ofB l)=l:=rfl
theorem itoa_bytes (n:Nat):bytes (itoa n)=Lib.decDigits n:=by
 show Lib.itoa (n:Int)=_
 unfold Lib.itoa
 rw[if_neg (by omega)];rfl
def digB (c:UInt8):Bool:=byteIs 48 57 c
theorem dig_val {d:Nat} (h:d<10):(UInt8.ofNat (48+d)).toNat=48+d:=by
 rw[UInt8.toNat_ofNat'];omega
theorem dec_digB (u:Nat):∀ c∈Lib.decDigits u,digB c=true:=by
 induction u using Nat.strongRecOn with
 |_ u ih=>
  intro c hc
  rw[Lib.decDigits] at hc
  have hd:∀ d,d<10->digB (UInt8.ofNat (48+d))=true:=fun d h=>by
   unfold digB byteIs
   rw[dig_val h]
   simp only[Bool.and_eq_true,decide_eq_true_eq];omega
  by_cases h:u<10
  ·rw[dif_pos h,List.mem_singleton] at hc
   rw[hc];exact hd u h
  ·rw[dif_neg h] at hc
   rcases List.mem_append.1 hc with hc|hc
   ·exact ih (u / 10) (by omega) c hc
   ·rw[List.mem_singleton] at hc
    rw[hc];exact hd _ (by omega)
theorem dec_ne (u:Nat):Lib.decDigits u≠[]:=by
 rw[Lib.decDigits];split<;>simp
theorem dec_lt {u:Nat} (h:u<10):Lib.decDigits u=[UInt8.ofNat (48+u)]:=by rw[Lib.decDigits,dif_pos h]
theorem dec_ge {u:Nat} (h:¬ u<10):Lib.decDigits u=Lib.decDigits (u / 10)++[UInt8.ofNat (48+u % 10)]:=by conv=>lhs;rw[Lib.decDigits,dif_neg h]
theorem dec_inj (u:Nat):∀ v,Lib.decDigits u=Lib.decDigits v->u=v:=by
 induction u using Nat.strongRecOn with
 |_ u ih=>
  intro v h
  have hv:∀ a b,a<10->b<10->UInt8.ofNat (48+a)=UInt8.ofNat (48+b)->a=b:=fun a b ha hb e=>by
   have:=congrArg UInt8.toNat e
   rw[dig_val ha,dig_val hb] at this;omega
  have h0:∀ w,0<(Lib.decDigits w).length:=fun w=>List.length_pos_iff.2 (dec_ne w)
  by_cases h1:u<10
  ·by_cases h2:v<10
   ·rw[dec_lt h1,dec_lt h2] at h
    exact hv u v h1 h2 (by injection h)
   ·rw[dec_lt h1,dec_ge h2] at h
    have:=congrArg List.length h
    have:=h0 (v / 10)
    simp only[List.length_append,List.length_cons,List.length_nil] at *;omega
  ·by_cases h2:v<10
   ·rw[dec_ge h1,dec_lt h2] at h
    have:=congrArg List.length h
    have:=h0 (u / 10)
    simp only[List.length_append,List.length_cons,List.length_nil] at *;omega
   ·rw[dec_ge h1,dec_ge h2] at h
    obtain ⟨e1,e2⟩:=List.append_inj' h rfl
    have q1:=ih (u / 10) (by omega) (v / 10) e1
    have q2:=hv (u % 10) (v % 10) (by omega) (by omega) (by injection e2)
    omega
theorem dec_len {k u:Nat} (h1:10 ^ k<=u) (h2:u<10 ^ (k+1)):(Lib.decDigits u).length=k+1:=by
 rw[Lib.decDigits_length,Lib.nDigits_unique k u h1 h2]
theorem dec_short (k:Nat):∀ u,u<10 ^ (k+1)->(Lib.decDigits u).length<=k+1:=by
 induction k with
 |zero=>
  intro u h
  rw[Lib.decDigits,dif_pos (by simpa using h)];simp
 |succ k ih=>
  intro u h
  rw[Lib.decDigits]
  split
  ·simp
  ·have:=ih (u / 10) (by rw[Nat.pow_succ] at h;omega)
   simp;omega
open Classical in
noncomputable def firstN (p:Nat->Prop):Nat:=if h:∃ n,p n/\∀ m,m<n->¬ p m then h.choose else 0
theorem firstN_spec {p:Nat->Prop} (h:∃ n,p n):p (firstN p)/\∀ m,m<firstN p->¬ p m:=by
 have h':∃ n,p n/\∀ m,m<n->¬ p m:=by
  obtain ⟨n,hn⟩:=h
  induction n using Nat.strongRecOn with
  |_ n ih=>
   by_cases hm:∃ m,m<n/\p m
   ·obtain ⟨m,h1,h2⟩:=hm
    exact ih m h1 h2
   ·exact ⟨n,hn,fun m h1 h2=>hm ⟨m,h1,h2⟩⟩
 unfold firstN
 rw[dif_pos h']
 exact h'.choose_spec
theorem firstN_le {p:Nat->Prop} {n:Nat} (h:p n):firstN p<=n:=by
 have:=(firstN_spec ⟨n,h⟩).2 n
 by_cases q:n<firstN p
 ·exact absurd h (this q)
 ·omega
theorem pigeon:∀ {l m:List ByteArray},l.Nodup->(∀ x∈l,x∈m)->l.length<=m.length
 |[],_,_,_=>Nat.zero_le _
 |x::l,m,hn,hs=>by
  have hn':=List.nodup_cons.1 hn
  have hx:x∈m:=hs x (by simp)
  obtain ⟨s,r,rfl⟩:=List.append_of_mem hx
  have:=pigeon (l:=l) (m:=s++r) hn'.2 fun y hy=>by
   have hy':=hs y (by simp[hy])
   rw[List.mem_append,List.mem_cons] at hy'
   rw[List.mem_append]
   rcases hy' with q|q|q
   ·exact .inl q
   ·rw[q] at hy;exact absurd hy hn'.1
   ·exact .inr q
  simp only[List.length_append,List.length_cons] at *;omega
theorem free_num (f:Nat->ByteArray) (used:List ByteArray) (lo:Nat) (hi:∀ i j,i<=used.length->j<=used.length->f (lo+i)=f (lo+j)->i=j):∃ i,i<=used.length/\f (lo+i)∉used:=by
 refine Classical.byContradiction fun h=>?_
 have hall:∀ i,i<=used.length->f (lo+i)∈used:=fun i q=>Classical.byContradiction fun q'=>h ⟨i,q,q'⟩
 have:=pigeon (l:=(List.range (used.length+1)).map fun i=>f (lo+i)) (m:=used) ?_ ?_
 ·rw[List.length_map,List.length_range] at this;omega
 ·rw[List.nodup_iff_pairwise_ne,List.pairwise_map]
  refine List.Pairwise.imp_of_mem (fun {a b} ha hb hab q=>hab (hi a b ?_ ?_ q)) List.nodup_range
  ·have:=List.mem_range.1 ha;omega
  ·have:=List.mem_range.1 hb;omega
 ·intro x hx
  obtain ⟨i,hi',rfl⟩:=List.mem_map.1 hx
  exact hall i (by have:=List.mem_range.1 hi';omega)
def stemN (l:List UInt8):Nat:=(l.reverse.dropWhile digB).length
theorem stemN_dig {l:List UInt8} {c:UInt8} (h:digB c=true):stemN (l++[c])=stemN l:=by simp[stemN,h]
theorem stemN_not {l:List UInt8} {c:UInt8} (h:digB c=false):stemN (l++[c])=l.length+1:=by simp[stemN,h]
theorem stemN_le (l:List UInt8):stemN l<=l.length:=by
 unfold stemN
 have:=(List.dropWhile_sublist digB (l:=l.reverse)).length_le
 simpa using this
def stemB (s:ByteArray):ByteArray:=ofB ((bytes s).take (stemN (bytes s)))
def candB (st:ByteArray) (n:Nat):ByteArray:=ofB ((bytes st).take (12-(itoa n).size))++itoa n
theorem candB_bytes (st:ByteArray) (n:Nat):bytes (candB st n)=(bytes st).take (12-(Lib.decDigits n).length)++Lib.decDigits n:=by
 unfold candB
 rw[bytes_add,bytes_ofB,itoa_bytes,<-R11,itoa_bytes]
theorem candB_inj {st:ByteArray} {n m:Nat} (hl:(Lib.decDigits n).length=(Lib.decDigits m).length) (h:candB st n=candB st m):n=m:=by
 have:=congrArg bytes h
 rw[candB_bytes,candB_bytes,hl] at this
 exact dec_inj n m (List.append_cancel_left this)
theorem candB_free (st:ByteArray) (used:List ByteArray) (k:Nat) (h:used.length<9*10 ^ k):∃ n,10 ^ k<=n/\n<=10 ^ k+used.length/\candB st n∉used:=by
 have hl:∀ i,i<=used.length->(Lib.decDigits (10 ^ k+i)).length=k+1:=fun i hi=>dec_len (by omega) (by rw[Nat.pow_succ];omega)
 obtain ⟨i,h1,h2⟩:=free_num (candB st) used (10 ^ k) fun i j hi hj q=>by
  have:=candB_inj (by rw[hl i hi,hl j hj]) q
  omega
 exact ⟨10 ^ k+i,by omega,by omega,h2⟩
noncomputable def freshM (st:ByteArray) (used:List ByteArray):Nat:=firstN fun n=>candB st n∉used
noncomputable def freshB (base:ByteArray) (used:List ByteArray):ByteArray:=if has used base then candB (stemB base) (freshM (stemB base) used) else base
theorem pow_gt:∀ n:Nat,n<9*10 ^ n
 |0=>by decide
 |n+1=>by
  have:=pow_gt n
  rw[Nat.pow_succ];omega
theorem freshM_spec (st:ByteArray) (used:List ByteArray):candB st (freshM st used)∉used/\∀ m,m<freshM st used->candB st m∈used:=by
 obtain ⟨n,_,_,hn⟩:=candB_free st used used.length (pow_gt _)
 obtain ⟨h1,h2⟩:=firstN_spec (p:=fun n=>candB st n∉used) ⟨n,hn⟩
 exact ⟨h1,fun m hm=>Classical.byContradiction fun q=>h2 m hm q⟩
theorem freshM_le (st:ByteArray) (used:List ByteArray) (h:used.length<=100000000):freshM st used<=200000000:=by
 obtain ⟨n,_,h2,hn⟩:=candB_free st used 8 (by omega)
 have:=firstN_le (p:=fun n=>candB st n∉used) hn
 unfold freshM
 omega
theorem freshB_not (base:ByteArray) (used:List ByteArray):freshB base used∉used:=by
 unfold freshB
 split
 ·exact (freshM_spec _ _).1
 ·rename_i h
  exact fun q=>h ((W11 _ _).2 q)
theorem digB_word {c:UInt8} (h:digB c=true):wordByte c=true:=by
 unfold digB at h
 unfold wordByte
 rw[h];simp
theorem isVar_app {s:ByteArray} {c:UInt8} {cs:List UInt8} {n:Nat} (hb:bytes s=c::cs++Lib.decDigits n) (hc:(byteIs 97 122 c||decide ((c.toNat:Int)=95))=true) (hcs:cs.all wordByte=true) (hl:cs.length+(Lib.decDigits n).length<12):isVar s=true:=by
 have hw:wordByte c=true:=by
  unfold wordByte
  rcases Bool.or_eq_true _ _▸hc with h|h
  ·rw[h];simp
  ·rw[h];simp
 have hd:(Lib.decDigits n).all wordByte=true:=List.all_eq_true.2 fun x hx=>digB_word (dec_digB n x hx)
 unfold isVar
 have h1:word s 97 122 true=true:=by
  unfold word
  rw[hb]
  simp only[List.cons_append,wordHead,Bool.and_eq_true,decide_eq_true_eq,List.length_append,List.all_cons,List.all_append,Bool.true_and]
  exact ⟨⟨by omega,hc⟩,hw,hcs,hd⟩
 have h2:has keywords s=false:=by
  rw[Bool.eq_false_iff]
  intro q
  have hm:=(W11 _ _).1 q
  have hk:∀ x∈keywords,∀ y∈(bytes x).getLast?,digB y=false:=by decide
  have hlast:(bytes s).getLast?=(Lib.decDigits n).getLast?:=by
   rw[hb,List.getLast?_append]
   cases hg:(Lib.decDigits n).getLast? with
   |none=>exact absurd (List.getLast?_eq_none_iff.1 hg) (dec_ne n)
   |some y=>rfl
  cases hg:(Lib.decDigits n).getLast? with
  |none=>exact dec_ne n (List.getLast?_eq_none_iff.1 hg)
  |some y=>
   have:=hk s hm y (by rw[hlast,hg];rfl)
   rw[dec_digB n y (List.mem_of_getLast? hg)] at this;cases this
 rw[h1,h2];rfl
theorem isVar_parts {s:ByteArray} (h:isVar s=true):∃ c cs,bytes s=c::cs/\(byteIs 97 122 c||decide ((c.toNat:Int)=95))=true/\digB c=false/\cs.all wordByte=true/\cs.length<12:=by
 unfold isVar word at h
 simp only[Bool.and_eq_true] at h
 obtain ⟨⟨h1,h2⟩,_⟩:=h
 cases hb:bytes s with
 |nil=>rw[hb] at h1;cases h1
 |cons c cs=>
  rw[hb] at h1 h2
  simp only[wordHead,Bool.and_eq_true,decide_eq_true_eq,List.all_cons,Bool.true_and] at h1 h2
  refine ⟨c,cs,rfl,h1.2,?_,h2.2,h1.1⟩
  have:=h1.2
  simp only[Bool.or_eq_true,byteIs,Bool.and_eq_true,decide_eq_true_eq] at this
  simp only[digB,byteIs,Bool.and_eq_false_iff,decide_eq_false_iff_not]
  omega
theorem stemN_pos (c:UInt8) (hc:digB c=false):∀ (n:Nat) (cs:List UInt8),cs.length=n->1<=stemN (c::cs)
 |0,cs,h=>by
  rw[List.eq_nil_of_length_eq_zero h]
  have:stemN ([]++[c])=0+1:=stemN_not hc
  show 1<=stemN ([]++[c])
  rw[this];exact Nat.le_refl _
 |n+1,cs,h=>by
  have hne:cs≠[]:=fun q=>by rw[q] at h;cases h
  have hcs:=List.dropLast_concat_getLast hne
  rw[<-hcs,<-List.cons_append]
  by_cases hd:digB (cs.getLast hne)=true
  ·rw[stemN_dig hd]
   exact stemN_pos c hc n _ (by rw[List.length_dropLast,h];rfl)
  ·rw[stemN_not (by simpa using hd)];omega
theorem stemB_parts {s:ByteArray} (h:isVar s=true):∃ c cs,bytes (stemB s)=c::cs/\(byteIs 97 122 c||decide ((c.toNat:Int)=95))=true/\cs.all wordByte=true/\cs.length<12:=by
 obtain ⟨c,cs,h1,h2,h3,h4,h5⟩:=isVar_parts h
 have hp:=stemN_pos c h3 cs.length cs rfl
 obtain ⟨m,hm⟩:∃ m,stemN (c::cs)=m+1:=⟨stemN (c::cs)-1,by omega⟩
 refine ⟨c,cs.take m,?_,h2,?_,?_⟩
 ·unfold stemB
  rw[bytes_ofB,h1,hm,List.take_succ_cons]
 ·rw[List.all_eq_true] at h4 ⊢
  exact fun x hx=>h4 x (List.mem_of_mem_take hx)
 ·rw[List.length_take];omega
theorem freshB_var {base:ByteArray} {used:List ByteArray} (hv:isVar base=true) (hl:used.length<=100000000):isVar (freshB base used)=true:=by
 unfold freshB
 split
 ·obtain ⟨c,cs,h1,h2,h3,h4⟩:=stemB_parts hv
  have hm:=freshM_le (stemB base) used hl
  generalize freshM (stemB base) used=n at hm
  have hd:=dec_short 8 n (by omega)
  obtain ⟨m,hm⟩:∃ m,12-(Lib.decDigits n).length=m+1:=⟨11-(Lib.decDigits n).length,by omega⟩
  refine isVar_app (c:=c) (cs:=cs.take m) (n:=n) ?_ h2 ?_ ?_
  ·rw[candB_bytes,h1,hm,List.take_succ_cons]
  ·rw[List.all_eq_true] at h3 ⊢
   exact fun x hx=>h3 x (List.mem_of_mem_take hx)
  ·rw[List.length_take];omega
 ·exact hv
theorem armsF_distinct (h:Bool):∀ (l b:List Ar),armsF h b l=0->∀ x∈l,distinct x.names=0
 |[],_,_,_,hx=>by cases hx
 |a::l,b,hz,x,hx=>by
  unfold armsF at hz
  split at hz
  ·cases hz
  ·split at hz
   ·cases hz
   ·split at hz
    ·rename_i hd
     split at hz
     ·cases hz
     ·rcases List.mem_cons.1 hx with rfl|hx
      ·exact hd
      ·exact armsF_distinct h l _ hz x hx
    ·rename_i hd;exact absurd hz hd
theorem W13 {e:Ex} (hn:nodeErr e=0):∀ x∈e.arms,distinct x.names=0:=fun x hx=>by
 obtain ⟨sh,_,_,_,_,hb,_,ha⟩:=(node_iff e).1 hn
 by_cases q:sh.Arms=true
 ·have h1:=ha q
  unfold armsErr at h1
  split at h1
  ·exact armsF_distinct _ _ _ ‹_› x hx
  ·rename_i h2;exact absurd h1 h2
 ·have h1:=hb
  unfold nodeBad at h1
  simp only[Bool.or_eq_false_iff,Bool.and_eq_false_iff,decide_eq_false_iff_not] at h1
  rcases h1.1.2 with h2|h2
  ·rw[Bool.not_eq_false'] at h2;exact absurd h2 q
  ·have:e.arms.length=0:=by omega
   rw[List.eq_nil_of_length_eq_zero this] at hx;cases hx
section
variable {α:Type} {nx:α->ByteArray->Bool->ByteArray×α} {cnt:α->Nat} {T:Nat}
end
end Go.V
