/- Regions in drawn order: quiet operations anywhere among others, walked by hand. No condition. The program's scope: mappings; what a renaming has made. No condition. Renaming all bound names: plain laws. No condition. Renaming all bound names: what is made is equal up to renaming, and without an error. No condition. Renaming all bound names: canonical names; twice is as once; no error. No condition. Renaming all bound names: what is made has no error, and its size. No condition. New names: numbered ones, and names like an old one: plain. No condition. Canon and Unique: plain. No condition. -/
import Derived.Test.YtjeiboididfgmaaGreatDoorRD
import Derived.Test.YtjeiboididfgmaaGreatDoorRYmx
import Derived.Test.YtjeiboididfgmaaGreatDoorRX
import Derived.Test.YtjeiboididfgmaaGreatDoorRE
set_option linter.unusedVariables false
set_option linter.unusedSimpArgs false
namespace Go.V
open Go
inductive MT where
 |fin
 |one (i:Nat) (p:Bool) (t:MT)
 |alt (a b:MT)
def MT.covers:MT->Nat->Bool
 |.fin,_=>false
 |.one j _ _,i=>i==j
 |.alt a b,i=>a.covers i||b.covers i
def MT.depth:MT->Nat
 |.fin=>0
 |.one _ _ t=>t.depth+1
 |.alt a b=>max a.depth b.depth
def MT.ok (w:Nat->Nat->Bool) (ops:Array Oper) (q:Nat->Bool):MT->Array Bool->List Nat->Bool
 |.fin,L,_=>(List.range ops.size).all fun i=>q i||L.getD i false
 |.one j p t,L,pd=>decide (j<ops.size)&&!q j&&!L.getD j false&&(p||pd.all fun k=>w j k)&&(cready w ops q (L.setIfInBounds j true)).all t.covers&&t.ok w ops q (L.setIfInBounds j true) (pd.filter fun k=>!w j k)
 |.alt a b,L,pd=>a.ok w ops q L pd&&b.ok w ops q L pd
def ascF:List Nat->Bool
 |i::j::l=>decide (i<j)&&ascF (j::l)
 |_=>true
def mixAll (ops:Array Oper) (qi:List Nat) (t:MT):Bool:=
 mixOkW (wB (masksGo ops.toList [])) ops (fun i=>qi.contains i)&&ascF qi&&qi.all (fun i=>match ops[i]? with
  |some o=>o.dst.isSome
  |none=>false)&&(cready (wB (masksGo ops.toList [])) ops (fun i=>qi.contains i) (Array.replicate ops.size false)).all t.covers&&t.ok (wB (masksGo ops.toList [])) ops (fun i=>qi.contains i) (Array.replicate ops.size false) qi&&decide (t.depth<=ops.size)
def opsAt (ops:Array Oper):List Nat->List Oper
 |[]=>[]
 |i::l=>(ops.toList.drop i).take 1++opsAt ops l
theorem ascF_tail {i:Nat} {l:List Nat} (h:ascF (i::l)=true):ascF l=true:=by
 cases l with
 |nil=>rfl
 |cons j l=>simp only[ascF,Bool.and_eq_true] at h;exact h.2
theorem ascF_lt:∀ {l:List Nat} {i:Nat},ascF (i::l)=true->∀ j∈l,i<j
 |[],_,_,_,h=>by cases h
 |k::l,i,h,j,hj=>by
  simp only[ascF,Bool.and_eq_true,decide_eq_true_eq] at h
  rcases List.mem_cons.1 hj with rfl|hj
  ·exact h.1
  ·exact Nat.lt_trans h.1 (ascF_lt h.2 j hj)
theorem take_one {ops:Array Oper} {i:Nat} {o:Oper} (h:ops[i]?=some o):(ops.toList.drop i).take 1=[o]:=by
 have hl:ops.toList[i]?=some o:=by rw[Array.getElem?_toList];exact h
 obtain ⟨h1,h2⟩:=List.getElem?_eq_some_iff.1 hl
 rw[List.drop_eq_getElem_cons h1,h2];rfl
theorem opsAt_mem {ops:Array Oper}:∀ {l:List Nat} {o:Oper},o∈opsAt ops l->∃ i∈l,ops[i]?=some o
 |[],_,h=>by cases h
 |i::l,o,h=>by
  rcases List.mem_append.1 h with h|h
  ·cases hi:ops[i]? with
   |none=>
    have:ops.toList.length<=i:=by simpa using hi
    rw[List.drop_of_length_le this] at h;simp at h
   |some p=>
    rw[take_one hi] at h
    rw[List.mem_singleton.1 h]
    exact ⟨i,by simp,hi⟩
  ·obtain ⟨j,h1,h2⟩:=opsAt_mem h
   exact ⟨j,by simp[h1],h2⟩
theorem opsAt_of {ops:Array Oper}:∀ {l:List Nat} {i:Nat} {o:Oper},i∈l->ops[i]?=some o->o∈opsAt ops l
 |[],_,_,h,_=>by cases h
 |j::l,i,o,h,ho=>by
  refine List.mem_append.2 ?_
  rcases List.mem_cons.1 h with rfl|h
  ·left;rw[take_one ho];simp
  ·exact .inr (opsAt_of h ho)
theorem opsAt_ord {ops:Array Oper} {q:Nat->Bool} (hf:MixFacts ops q):∀ (l:List Nat),ascF l=true->(∀ i∈l,q i=true)->Ord ops (opsAt ops l)
 |[],_,_=>trivial
 |i::l,ha,hq=>by
  have ih:=opsAt_ord hf l (ascF_tail ha) (fun j hj=>hq j (by simp[hj]))
  have hlt:=ascF_lt ha
  unfold opsAt
  cases hi:ops[i]? with
  |none=>
   have:ops.toList.length<=i:=by simpa using hi
   rw[List.drop_of_length_le this];exact ih
  |some o=>
   rw[take_one hi]
   show Ord ops (o::opsAt ops l)
   have hqi:=hq i (by simp)
   refine ⟨fun o' ho' d hd hl=>?_,fun o' ho' d hd hd'=>?_,ih⟩
   ·rcases List.mem_cons.1 ho' with rfl|ho'
    ·have:=(hf.look i i _ _ d hi hi hqi hd hl).2.1;omega
    ·obtain ⟨j,h1,h2⟩:=opsAt_mem ho'
     have:=(hf.look i j _ _ d hi h2 hqi hd hl).2.1
     have:=hlt j h1;omega
   ·obtain ⟨j,h1,h2⟩:=opsAt_mem ho'
    have:=hf.uniq i j _ _ d hi h2 hqi hd hd'
    have:=hlt j h1;omega
section
variable {P:Program} {G:GT} {n:Nat} {r:Option Nat} {Q:AX->AS->Prop}
def wt (P:Program) (G:GT) (M:List Nat) (ops:Array Oper) (HP:HM->Prop) (N:AS->Prop):MT->AS->Prop
 |.fin,s=>N s
 |.one i p t,s=>vops P G M ops (onN (fun s'=>(p=true->HP s'.H)/\wt P G M ops HP N t s') fun _ _=>False) ((ops.toList.drop i).take 1) s
 |.alt a b,s=>wt P G M ops HP N a s/\wt P G M ops HP N b s
theorem O12 {M:List Nat} {ops:Array Oper} {HP:HM->Prop} {N:AS->Prop} {s:AS} (h:N s):wt P G M ops HP N .fin s:=h
theorem wt_alt {M:List Nat} {ops:Array Oper} {HP:HM->Prop} {N:AS->Prop} {a b:MT} {s:AS} (h1:wt P G M ops HP N a s) (h2:wt P G M ops HP N b s):wt P G M ops HP N (.alt a b) s:=⟨h1,h2⟩
theorem U10 {M:List Nat} {ops:Array Oper} {HP:HM->Prop} {N:AS->Prop} {i:Nat} {p:Bool} {t:MT} {tm:Nat->AV} {H:HM} {ds:List ADef}
  (h:∀ N':AS->Prop,(∀ s',(p=true->HP s'.H)/\wt P G M ops HP N t s'->N' s')->wops P G M ops N' (fun _ _=>False) ((ops.toList.drop i).take 1) tm H ds):wt P G M ops HP N (.one i p t) ⟨tm,H,ds⟩:=h _ fun _ h=>h
theorem wt_branch {M:List Nat} {ops:Array Oper} {HP:HM->Prop} {N:AS->Prop} {w:Nat->Nat->Bool} {q:Nat->Bool} {i:Nat} {s:AS} {L:Array Bool} {pd:List Nat}:∀ {t:MT},t.covers i=true->t.ok w ops q L pd=true->wt P G M ops HP N t s ->
  ∃ p t',t'.depth<t.depth/\(p=true\/(pd.all fun k=>w i k)=true)/\((cready w ops q (L.setIfInBounds i true)).all t'.covers)=true/\t'.ok w ops q (L.setIfInBounds i true) (pd.filter fun k=>!w i k)=true/\wt P G M ops HP N (.one i p t') s
 |.fin,h,_,_=>by cases h
 |.one j p t,h,ho,hw=>by
  obtain rfl:i=j:=by simpa[MT.covers] using h
  simp only[MT.ok,Bool.and_eq_true,Bool.or_eq_true] at ho
  exact ⟨p,t,by simp[MT.depth],ho.1.1.2,ho.1.2,ho.2,hw⟩
 |.alt a b,h,ho,hw=>by
  simp only[MT.covers,Bool.or_eq_true] at h
  simp only[MT.ok,Bool.and_eq_true] at ho
  rcases h with h|h
  ·obtain ⟨p,t',h1,h2⟩:=wt_branch h ho.1 hw.1
   exact ⟨p,t',by simp only[MT.depth];omega,h2⟩
  ·obtain ⟨p,t',h1,h2⟩:=wt_branch h ho.2 hw.2
   exact ⟨p,t',by simp only[MT.depth];omega,h2⟩
theorem wt_done {M:List Nat} {ops:Array Oper} {HP:HM->Prop} {N:AS->Prop} {w:Nat->Nat->Bool} {q:Nat->Bool} {s:AS} {L:Array Bool} {pd:List Nat}:∀ {t:MT},t.ok w ops q L pd=true->wt P G M ops HP N t s->(∀ i,i<ops.size->q i=false->L.getD i false=true)->N s
 |.fin,_,hw,_=>hw
 |.one j p t,ho,_,ha=>by
  simp only[MT.ok,Bool.and_eq_true,decide_eq_true_eq,Bool.not_eq_true'] at ho
  have:=ha j ho.1.1.1.1.1 ho.1.1.1.1.2
  rw[ho.1.1.1.2] at this;cases this
 |.alt a b,ho,hw,ha=>by
  simp only[MT.ok,Bool.and_eq_true] at ho
  exact wt_done ho.1 hw.1 ha
theorem wt_zero {w:Nat->Nat->Bool} {ops:Array Oper} {q:Nat->Bool} {L:Array Bool} {pd:List Nat}:∀ {t:MT},t.depth=0->t.ok w ops q L pd=true->∀ i,i<ops.size->q i=false->L.getD i false=true
 |.fin,_,ho,i,hi,hq=>by
  simp only[MT.ok,List.all_eq_true,List.mem_range,Bool.or_eq_true] at ho
  rcases ho i hi with h|h
  ·rw[hq] at h;cases h
  ·exact h
 |.one _ _ _,h,_,_,_,_=>by simp[MT.depth] at h
 |.alt a b,h,ho,i,hi,hq=>by
  simp only[MT.ok,Bool.and_eq_true] at ho
  simp only[MT.depth] at h
  exact wt_zero (t:=a) (by omega) ho.1 i hi hq
theorem wt_VCh {M:List Nat} {ops:Array Oper} {q:Nat->Bool} {HP:HM->Prop} {N:AS->Prop}:∀ (f:Nat) (t:MT) (L:Array Bool) (pdl:List Nat) (pd:Nat->Bool) (s:AS),t.depth<=f->(∀ k,pd k=true->k∈pdl) ->
  ((cready (wB (masksGo ops.toList [])) ops q L).all t.covers)=true->t.ok (wB (masksGo ops.toList [])) ops q L pdl=true->wt P G M ops HP N t s->VCh P G ops q (fun _=>HP) N f L pd s
 |0,t,L,pdl,pd,s,hd,hp,hc,ho,hw=>by
  have h0:=wt_zero (by omega) ho
  exact ⟨h0,wt_done ho hw h0⟩
 |f+1,t,L,pdl,pd,s,hd,hp,hc,ho,hw=>by
  refine ⟨wt_done ho hw,fun i hi o hio=>?_⟩
  obtain ⟨p,t',h1,h2,h3,h4,h5⟩:=wt_branch (List.all_eq_true.1 hc i hi) ho hw
  have h5':vops P G M ops (onN (fun s'=>(p=true->HP s'.H)/\wt P G M ops HP N t' s') fun _ _=>False) ((ops.toList.drop i).take 1) s:=h5
  rw[take_one hio] at h5'
  have h6:=vops_sound _ _ h5'
  have h7:VOp P G ops (onN (fun s'=>(p=true->HP s'.H)/\wt P G M ops HP N t' s') fun _ _=>False) o (fun s'=>(p=true->HP s'.H)/\wt P G M ops HP N t' s') s:=h6
  have h8:VOp P G ops (onN N fun _ _=>False) o (fun s'=>(p=true->HP s'.H)/\wt P G M ops HP N t' s') s:=by
   unfold VOp at h7 ⊢
   split
   ·rw[if_pos ‹_›] at h7
    exact h7.mono fun x H' hx=>by cases x<;>exact hx
   ·rw[if_neg ‹_›] at h7;exact h7
  refine h8.mono fun s' hs'=>⟨fun k hk=>?_,?_⟩
  ·simp only[Bool.and_eq_true,Bool.not_eq_true'] at hk
   rcases h2 with h2|h2
   ·exact hs'.1 h2
   ·have:=List.all_eq_true.1 h2 k (hp k hk.1)
    rw[hk.2] at this;cases this
  ·refine wt_VCh f t' _ _ _ _ (by omega) (fun k hk=>?_) h3 h4 hs'.2
   simp only[Bool.and_eq_true] at hk
   exact List.mem_filter.2 ⟨hp k hk.1,hk.2⟩
theorem VW_mixE (M:List Nat) (qi:List Nat) (t:MT) (HP:HM->Prop) {ops:Array Oper} {id:Nat} {tm tmI:Nat->AV} {H:HM} {ds:List ADef} (hm:P.follows .mixedOrders=true) (hc:mixAll ops qi t=true) (h0:HP H)
  (hq:∀ H' (N:AS->Prop),HP H'->N ⟨tmI,H',ds⟩->wqs P G M ops N (fun _ _=>False) [] (opsAt ops qi) tm H' ds)
  (h:wt P G M ops HP (fun s'=>Q .normal s') t ⟨tmI,H,ds⟩):VW P G n r (.region id ops true) Q ⟨tm,H,ds⟩:=by
 simp only[mixAll,Bool.and_eq_true,decide_eq_true_eq] at hc
 obtain ⟨⟨⟨⟨⟨c1,c2⟩,c3⟩,c4⟩,c5⟩,c6⟩:=hc
 have hf:=mixFacts c1
 have hord:=opsAt_ord hf qi c2 (fun i hi=>by simpa using hi)
 have facts:∀ H',HP H'->(∀ t,(∀ o∈opsAt ops qi,o.dst≠some t)->tmI t=tm t)/\∀ o∈opsAt ops qi,∃ E:AS,E.tmps=tmI/\E.H=H'/\Yld P G ops E o:=by
  intro H' hp
  have h1:=vqs_sound _ _ (hq H' (fun s=>s.tmps=tmI) hp rfl)
  obtain ⟨E,k1,k2,k3,k4,k5⟩:=VQ_facts _ _ hord h1
  have k1':E.tmps=tmI:=k1
  exact ⟨fun t ht=>by rw[<-k1',k4 t ht],fun o ho=>⟨E,k1',k2,k5 o ho⟩⟩
 have yld:∀ i o,(qi.contains i)=true->ops[i]?=some o->YldH P G ops HP tmI o:=by
  intro i o hi ho
  have him:i∈qi:=by simpa using hi
  have hmem:=opsAt_of him ho
  have hds:o.dst.isSome=true:=by
   have:=List.all_eq_true.1 c3 i him
   rw[ho] at this;exact this
  obtain ⟨d,hd⟩:=Option.isSome_iff_exists.1 hds
  obtain ⟨E,e1,e2,e3⟩:=(facts H h0).2 o hmem
  unfold YldH
  cases hw:wantA ops o tmI with
  |true=>
   refine .inl ⟨rfl,tmI d,fun H' hp=>?_,fun d' hd'=>by rw[hd] at hd';cases hd';rfl⟩
   obtain ⟨E',e1',e2',e3'⟩:=(facts H' hp).2 o hmem
   obtain ⟨et,eH,ed⟩:=E'
   obtain rfl:et=tmI:=e1'
   obtain rfl:eH=H':=e2'
   rcases e3' with ⟨_,v,hv,hdv⟩|⟨hn,_⟩
   ·have:=hdv d hd
    simp only at this
    rw[this];exact hv
   ·rw[show wantA ops o et=true from hw] at hn;cases hn
  |false=>
   refine .inr ⟨rfl,fun d' hd'=>?_⟩
   rcases e3 with ⟨hn,_⟩|⟨_,hn⟩
   ·rw[e1,hw] at hn;cases hn
   ·rw[<-e1];exact hn d' hd'
 refine VW.mono (Q:=onN (fun s'=>Q .normal s') fun _ _=>False) (VW_region_any hm ?_) fun x s hx=>by cases x<;>first|exact hx|exact hx.elim
 have hgf:∀ i:Nat,(Array.replicate ops.size false).getD i false=false:=fun i=>by
  rw[Array.getD_eq_getD_getElem?,Array.getElem?_replicate];split<;>rfl
 refine mix_run hf ops.size ops.size (Array.replicate ops.size false) (Array.replicate ops.size false) (fun i=>qi.contains i) ⟨tm,H,ds⟩ ⟨tmI,H,ds⟩ (by simp) ?_ ?_ (by simp) (fun _ _=>rfl) (fun i o hi _ _=>⟨hi,h0⟩) ?_ yld rfl rfl ?_
 ·have:∀ k,unl (fun i=>(Array.replicate ops.size false).getD i false) k<=k:=fun k=>by
   induction k with
   |zero=>exact Nat.le_refl _
   |succ k ih=>simp only[unl];split<;>omega
  exact this _
 ·intro i o _ hl
  rw[hgf] at hl;cases hl
 ·exact wt_VCh ops.size t _ qi _ _ c6 (fun k hk=>by simpa using hk) c4 c5 h
 ·intro t ht
  have:=(facts H h0).1 t (fun o ho=>by
   obtain ⟨i,h1,h2⟩:=opsAt_mem ho
   exact ht i o (by simpa using h1) (hgf i) h2)
  exact this.symm
theorem VW_mix (M:List Nat) (qi:List Nat) (t:MT) (HP:HM->Prop) {ops:Array Oper} {id:Nat} {y:Code} {tm tmI:Nat->AV} {H:HM} {ds:List ADef} (hm:P.follows .mixedOrders=true) (hc:mixAll ops qi t=true) (h0:HP H)
  (hq:∀ H' (N:AS->Prop),HP H'->N ⟨tmI,H',ds⟩->wqs P G M ops N (fun _ _=>False) [] (opsAt ops qi) tm H' ds)
  (h:wt P G M ops HP (VW P G n r y Q) t ⟨tmI,H,ds⟩):VW P G n r (.seq (.region id ops true) y) Q ⟨tm,H,ds⟩:=
 I10 (VW_mixE M qi t HP hm hc h0 hq h)
end
set_option linter.defProp false
set_option maxRecDepth 100000
open Go.Proofs.Tryz
abbrev Mp:=List (ByteArray×ByteArray×Bool)
def mV:Mp->AV
 |[]=>.val (.pointer none)
 |m::up=>.ref [.str m.1,.str m.2.1,.bool m.2.2,mV up]
theorem mV_cells (up:Mp):(mV up).cells=[mV up]:=by cases up<;>rfl
theorem mV_one (up:Mp):(mV up).one=true:=by cases up<;>rfl
def getF:Mp->ByteArray->Bool->ByteArray
 |[],s,_=>s
 |m::up,s,h=>if m.2.2==h&&decide (m.1=s) then m.2.1 else getF up s h
section
variable {G:GT} {H:HM}
theorem get_c (up:Mp) (s:ByteArray) (h:Bool):PureF prog G 122 [mV up,.str s,.bool h] H (.str (getF up s h)):=by
 refine P10 (fn:=f122) func122 rfl (by kernel_rfl) (by kernel_rfl) (Nat.le_of_ble_eq_true (by kernel_rfl)) fun K hk=>?_
 refine A10 [] fun N E hN hE=>?_
 simp +decide only[ZS,↓reduceIte]
 refine hN _ ?_
 clear hN hE N E
 refine I10 (J10 ?_)
 refine C11 (fun (up':Mp) s'=>getF up s h=getF up' s h/\s'.tmps 0=mV up'/\s'.tmps 1=.str s/\s'.tmps 2=.bool h/\s'.H=H/\s'.defs=[]) List.length up ?_ ?_
 ·exact ⟨rfl,rfl,rfl,rfl,rfl,rfl⟩
 rintro up' ⟨tm,H',ds⟩ ⟨hh,h0,h1,h2,hH,hds⟩
 obtain rfl:H'=H:=hH
 obtain rfl:ds=[]:=hds
 rw[hh] at hk
 refine B10 1 _ h1 (B10 2 _ h2 ?_)
 cases up' with
 |nil=>
  refine B10 0 (.val (.pointer none)) h0 ?_
  refine I10 (A10 [] fun N E hN hE=>?_)
  simp +decide only[ZS,↓reduceIte]
  refine hN _ ?_
  clear hN hE N E
  refine T10 rfl (fun hc=>?_) (fun hc=>?_)
  ·cases hc
  refine L11 ?_
  refine A10 [] fun N E hN hE=>?_
  simp +decide only[ZS,↓reduceIte]
  refine hN _ ?_
  clear hN hE N E
  refine L10 (K10 6 rfl ?_)
  simp +decide only[ZS,↓reduceIte]
  exact hk
 |cons m up'=>
  obtain ⟨f,t,q⟩:=m
  refine B10 0 (.ref [.str f,.str t,.bool q,mV up']) h0 ?_
  refine I10 (A10 [] fun N E hN hE=>?_)
  simp +decide only[ZS,↓reduceIte]
  refine hN _ ?_
  clear hN hE N E
  refine T10 rfl (fun hc=>?_) (fun hc=>?_)
  ·refine G10 ?_
   refine I10 (J10 ?_)
   refine O11 [] (fun s'=>s'.tmps 26=.bool (q==h&&decide (f=s))/\s'.tmps 0=.ref [.str f,.str t,.bool q,mV up']/\s'.tmps 1=.str s/\s'.tmps 2=.bool h/\s'.H=H'/\s'.defs=[]) (fun N E hN hE=>?_) ?_
   ·clear hE
    try clear hk
    simp +decide only[ZS,↓reduceIte]
    repeat' (refine V10 (fun hb=>?_) (fun hb=>?_)<;>simp +decide only[ZS,↓reduceIte, *])
    all_goals refine hN _ ?_
    all_goals clear hN
    all_goals refine ⟨?_,?_,?_,?_,?_,?_⟩
    all_goals first|rfl|assumption|(simp only[C10];rfl)|(simp +decide only[ZS,↓reduceIte]<;>simp_all;done)|(simp +decide only[ZS,↓reduceIte]<;>simp_all<;>omega)
   rintro ⟨tb1,Hb1,dsb⟩ ⟨fb26,fb0,fb1,fb2,gHb,gdsb⟩
   obtain rfl:H'=Hb1:=gHb.symm
   obtain rfl:dsb=[]:=gdsb
   try simp only[C10] at fb0 fb1 fb2
   refine B10 26 _ fb26 (B10 0 _ fb0 (B10 1 _ fb1 (B10 2 _ fb2 ?_)))
   refine T10 rfl (fun hc=>?_) (fun hc=>?_)
   ·refine A10 [] fun N E hN hE=>?_
    simp +decide only[ZS,↓reduceIte]
    refine hN _ ?_
    clear hN hE N E
    refine L10 (K10 6 rfl ?_)
    simp +decide only[ZS,↓reduceIte]
    rw[show getF ((f,t,q)::up') s h=t by unfold getF;rw[if_pos hc]] at hk;exact hk
   ·refine G10 ?_
    have he:getF ((f,t,q)::up') s h=getF up' s h:=by
     show (if q==h&&decide (f=s) then t else _)=_
     rw[if_neg (by rw[hc];decide)]
    refine R10 [] fun N E hN hE=>?_
    simp +decide only[ZS,↓reduceIte,mV_cells,mV_one]
    refine hN _ ?_
    clear hN hE N E
    exact ⟨up',⟨by rw[hh,he],rfl,rfl,rfl,rfl,rfl⟩,by simp⟩
  ·cases hc
end
def OutX (H0 H:HM) (v:AV) (e sz:Nat) (xs:List AV):Prop:=(xs=[]/\v=.nil0/\H=H0)\/∃ b cap,H0 b=none/\v=.mlist b xs.length cap/\H=H0.upd b (.row e sz cap xs)
theorem OutX.out {H0 H:HM} {v:AV} {e sz:Nat} {xs:List AV} (h:OutX H0 H v e sz xs):OutG H0 H v e sz xs:=by
 rcases h with ⟨h1,h2,rfl⟩|⟨b,cap,h1,h2,rfl⟩
 ·exact .inl ⟨h1,h2,Drop.refl _⟩
 ·exact .inr ⟨b,cap,h1,h2,Drop.refl _⟩
section
variable {G:GT} {H:HM}
theorem cloneS_c {x:AV} {ys:List ByteArray} {K:ARes->HM->Prop} (hs:srcOf H x=some (strs ys)) (hl:ys.length<=lim) (hk:∀ v H',OutX H H' v 9 1 (strs ys)->K (.ret v) H'):CallF prog G 123 [x] H K:=
 (clone_c (T:=23) (e:=9) (sz:=1) func123 rfl (by kernel_rfl) rfl rfl (by kernel_rfl) ti9 (by decide) hs (strs_sz _) (by rw[O10];exact hl)
  (fun h=>hk _ _ (.inl ⟨h,rfl,rfl⟩)) (fun _ b cap hb=>hk _ _ (.inr ⟨b,cap,hb,rfl,rfl⟩))).2
theorem cloneE_c {x:AV} {ys:List Ex} {K:ARes->HM->Prop} (hs:srcOf H x=some (exs ys)) (hl:ys.length<=lim) (hk:∀ v H',OutX H H' v 27 7 (exs ys)->K (.ret v) H'):CallF prog G 124 [x] H K:=
 (clone_c (T:=24) (e:=27) (sz:=7) func124 rfl (by kernel_rfl) rfl rfl (by kernel_rfl) ti27 (by decide) hs (exs_sz _) (by rw[Z10];exact hl)
  (fun h=>hk _ _ (.inl ⟨h,rfl,rfl⟩)) (fun _ b cap hb=>hk _ _ (.inr ⟨b,cap,hb,rfl,rfl⟩))).2
theorem cloneA_c {x:AV} {ys:List Ar} {K:ARes->HM->Prop} (hs:srcOf H x=some (ars ys)) (hl:ys.length<=lim) (hk:∀ v H',OutX H H' v 85 9 (ars ys)->K (.ret v) H'):CallF prog G 125 [x] H K:=
 (clone_c (T:=25) (e:=85) (sz:=9) func125 rfl (by kernel_rfl) rfl rfl (by kernel_rfl) ti85 (by decide) hs (ars_sz _) (by rw[U11];exact hl)
  (fun h=>hk _ _ (.inl ⟨h,rfl,rfl⟩)) (fun _ b cap hb=>hk _ _ (.inr ⟨b,cap,hb,rfl,rfl⟩))).2
end
section
variable {α:Type} (nx:α->ByteArray->Bool->ByteArray×α)
def nmF (h:Bool):List ByteArray->α->List ByteArray×α
 |[],a=>([],a)
 |s::l,a=>((nx a s h).1::(nmF h l (nx a s h).2).1,(nmF h l (nx a s h).2).2)
def nmE (e:Ex) (a:α):List ByteArray×α:=if e.k=17 then ((nmF nx false (e.names.take 1) a).1++e.names.drop 1,(nmF nx false (e.names.take 1) a).2) else nmF nx (decide (e.k=15)) e.names a
def mps (h:Bool):List ByteArray->List ByteArray->Mp->Mp
 |s::l,t::m,up=>mps h l m ((s,t,h)::up)
 |_,_,up=>up
def goL (e:Ex) (ns:List ByteArray) (up:Mp):Nat->List (Mp->α->Ex×α)->α->List Ex×α
 |_,[],a=>([],a)
 |i,r::rs,a=>((r (mps (decide (e.k=15)) (ownV e i++ownH e i) ns up) a).1::(goL e ns up (i+1) rs (r (mps (decide (e.k=15)) (ownV e i++ownH e i) ns up) a).2).1,
  (goL e ns up (i+1) rs (r (mps (decide (e.k=15)) (ownV e i++ownH e i) ns up) a).2).2)
def armR (up:Mp) (x:Ar) (r:Mp->α->Ex×α) (a:α):Ar×α:=
 (.mk x.op (nmF nx false x.names a).1 (r (mps false x.names (nmF nx false x.names a).1 up) (nmF nx false x.names a).2).1,(r (mps false x.names (nmF nx false x.names a).1 up) (nmF nx false x.names a).2).2)
def goR (up:Mp):List Ar->List (Mp->α->Ex×α)->α->List Ar×α
 |x::xs,r::rs,a=>((armR nx up x r a).1::(goR up xs rs (armR nx up x r a).2).1,(goR up xs rs (armR nx up x r a).2).2)
 |_,_,a=>([],a)
def sF (e:Ex) (up:Mp):ByteArray:=if (occ e).2.2 then getF up (occ e).1 (occ e).2.1 else e.s
def renF:Ex->Mp->α->Ex×α:=Ex.para fun e rs up a=>
 (.mk e.k e.n (sF e up) e.t (nmE nx e a).1 (goL e (nmE nx e a).1 up 0 (rs.take e.l.length) (nmE nx e a).2).1
  (goR nx up e.arms (rs.drop e.l.length) (goL e (nmE nx e a).1 up 0 (rs.take e.l.length) (nmE nx e a).2).2).1,
  (goR nx up e.arms (rs.drop e.l.length) (goL e (nmE nx e a).1 up 0 (rs.take e.l.length) (nmE nx e a).2).2).2)
def lF (e:Ex) (up:Mp) (a:α):List Ex×α:=goL e (nmE nx e a).1 up 0 (e.l.map (renF nx)) (nmE nx e a).2
def rF (e:Ex) (up:Mp) (a:α):List Ar×α:=goR nx up e.arms (e.arms.map fun x=>renF nx x.body) (lF nx e up a).2
theorem Z12 (e:Ex) (up:Mp) (a:α):renF nx e up a=(.mk e.k e.n (sF e up) e.t (nmE nx e a).1 (lF nx e up a).1 (rF nx e up a).1,(rF nx e up a).2):=by
 have h1:(e.parts.map (renF nx)).take e.l.length=e.l.map (renF nx):=by
  unfold Ex.parts
  rw[List.map_append,List.take_append_of_le_length (by simp),List.take_of_length_le (by simp)]
 have h2:(e.parts.map (renF nx)).drop e.l.length=e.arms.map fun x=>renF nx x.body:=by
  unfold Ex.parts
  rw[List.map_append,List.drop_append_of_le_length (by simp),List.drop_of_length_le (by simp),List.nil_append,List.map_map];rfl
 conv=>lhs;unfold renF;rw[Ex.para_eq]
 show (Ex.mk e.k e.n (sF e up) e.t (nmE nx e a).1 (goL e (nmE nx e a).1 up 0 ((e.parts.map (renF nx)).take e.l.length) (nmE nx e a).2).1
  (goR nx up e.arms ((e.parts.map (renF nx)).drop e.l.length) (goL e (nmE nx e a).1 up 0 ((e.parts.map (renF nx)).take e.l.length) (nmE nx e a).2).2).1,
  (goR nx up e.arms ((e.parts.map (renF nx)).drop e.l.length) (goL e (nmE nx e a).1 up 0 ((e.parts.map (renF nx)).take e.l.length) (nmE nx e a).2).2).2)=_
 rw[h1,h2];rfl
end
def fm (h:Bool) (up:Mp):List ByteArray:=(up.filter fun m=>m.2.2==h).map (·.1)
def tt (h:Bool) (up:Mp):List ByteArray:=(up.filter fun m=>m.2.2==h).map (·.2.1)
theorem fm_cons (h:Bool) (s t:ByteArray) (q:Bool) (up:Mp):fm h ((s,t,q)::up)=if q=h then s::fm h up else fm h up:=by
 unfold fm
 rw[List.filter_cons]
 cases q<;>cases h<;>rfl
theorem tt_cons (h:Bool) (s t:ByteArray) (q:Bool) (up:Mp):tt h ((s,t,q)::up)=if q=h then t::tt h up else tt h up:=by
 unfold tt
 rw[List.filter_cons]
 cases q<;>cases h<;>rfl
theorem getF_cons (s t x:ByteArray) (q h:Bool) (up:Mp):getF ((s,t,q)::up) x h=if q=h/\s=x then t else getF up x h:=by
 show (if q==h&&decide (s=x) then t else getF up x h)=_
 by_cases h1:q=h
 ·by_cases h2:s=x
  ·rw[if_pos (by simp[h1,h2]),if_pos ⟨h1,h2⟩]
  ·rw[if_neg (by simp[h2]),if_neg (fun p=>h2 p.2)]
 ·rw[if_neg (by simp[h1]),if_neg (fun p=>h1 p.1)]
theorem getF_out {x:ByteArray} {h:Bool}:∀ {up:Mp},x∉fm h up->getF up x h=x
 |[],_=>rfl
 |(s,t,q)::up,hx=>by
  rw[fm_cons] at hx
  rw[getF_cons]
  by_cases hq:q=h
  ·rw[if_pos hq] at hx
   have h1:s≠x:=fun e=>hx (by simp[e])
   rw[if_neg (fun p=>h1 p.2)]
   exact getF_out fun p=>hx (by simp[p])
  ·rw[if_neg hq] at hx
   rw[if_neg (fun p=>hq p.1)]
   exact getF_out hx
theorem getF_in {x:ByteArray} {h:Bool}:∀ {up:Mp},x∈fm h up->getF up x h∈tt h up
 |[],hx=>by cases hx
 |(s,t,q)::up,hx=>by
  rw[fm_cons] at hx
  rw[getF_cons,tt_cons]
  by_cases hq:q=h
  ·rw[if_pos hq] at hx
   rw[if_pos hq]
   by_cases h1:s=x
   ·rw[if_pos ⟨hq,h1⟩];simp
   ·rw[if_neg (fun p=>h1 p.2)]
    rcases List.mem_cons.1 hx with e|hx
    ·exact absurd e.symm h1
    ·exact List.mem_cons_of_mem _ (getF_in hx)
  ·rw[if_neg hq] at hx ⊢
   rw[if_neg (fun p=>hq p.1)]
   exact getF_in hx
theorem getF_same {x:ByteArray} {h:Bool}:∀ {up:Mp},(tt h up).Nodup->(x∉fm h up->x∉tt h up)->sameLs (fm h up) (tt h up) x (getF up x h)=true
 |[],_,_=>decide_eq_true rfl
 |(s,t,q)::up,hn,hx=>by
  rw[fm_cons,tt_cons] at hx
  rw[tt_cons] at hn
  rw[getF_cons,tt_cons,fm_cons]
  by_cases hq:q=h
  ·rw[if_pos hq] at hn
   rw[if_pos hq,if_pos hq] at hx
   rw[if_pos hq,if_pos hq]
   have hn':=List.nodup_cons.1 hn
   by_cases h1:s=x
   ·rw[if_pos ⟨hq,h1⟩]
    simp[sameLs,h1]
   ·rw[if_neg (fun p=>h1 p.2)]
    have h2:t≠getF up x h:=fun e=>by
     by_cases hm:x∈fm h up
     ·exact hn'.1 (e▸getF_in hm)
     ·rw[getF_out hm] at e
      exact hx (by simp[Ne.symm h1,hm]) (by simp[e])
    unfold sameLs
    rw[if_neg (by simp[h1,h2])]
    exact getF_same hn'.2 fun p q'=>hx (by simp[Ne.symm h1,p]) (by simp[q'])
  ·rw[if_neg hq] at hn
   rw[if_neg hq,if_neg hq] at hx
   rw[if_neg hq,if_neg hq,if_neg (fun p=>hq p.1)]
   exact getF_same hn hx
theorem fm_mps (q h:Bool):∀ (l ns:List ByteArray) (up:Mp),l.length<=ns.length->fm h (mps q l ns up)=if q=h then l.reverse++fm h up else fm h up
 |[],ns,up,_=>by cases ns<;>simp[mps]
 |s::l,[],up,hl=>by simp at hl
 |s::l,t::ns,up,hl=>by
  rw[mps,fm_mps q h l ns _ (by simpa using hl),fm_cons]
  by_cases e:q=h
  ·simp[e]
  ·simp[e]
theorem tt_mps (q h:Bool):∀ (l ns:List ByteArray) (up:Mp),l.length<=ns.length->tt h (mps q l ns up)=if q=h then (ns.take l.length).reverse++tt h up else tt h up
 |[],ns,up,_=>by cases ns<;>simp[mps]
 |s::l,[],up,hl=>by simp at hl
 |s::l,t::ns,up,hl=>by
  rw[mps,tt_mps q h l ns _ (by simpa using hl),tt_cons]
  by_cases e:q=h
  ·simp[e]
  ·simp[e]
def bsN (e:Ex):List (ByteArray×Bool):=if e.k=17 then (e.names.take 1).map (·,false) else e.names.map (·,decide (e.k=15))
def bsR:List Ar->List (List (ByteArray×Bool))->List (ByteArray×Bool)
 |x::xs,r::rs=>x.names.map (·,false)++r++bsR xs rs
 |_,_=>[]
def bs:Ex->List (ByteArray×Bool):=Ex.para fun e rs=>bsN e++(rs.take e.l.length).flatten++bsR e.arms (rs.drop e.l.length)
theorem bs_eq (e:Ex):bs e=bsN e++(e.l.map bs).flatten++bsR e.arms (e.arms.map fun x=>bs x.body):=by
 have h1:(e.parts.map bs).take e.l.length=e.l.map bs:=by
  unfold Ex.parts
  rw[List.map_append,List.take_append_of_le_length (by simp),List.take_of_length_le (by simp)]
 have h2:(e.parts.map bs).drop e.l.length=e.arms.map fun x=>bs x.body:=by
  unfold Ex.parts
  rw[List.map_append,List.drop_append_of_le_length (by simp),List.drop_of_length_le (by simp),List.nil_append,List.map_map];rfl
 conv=>lhs;unfold bs;rw[Ex.para_eq]
 show bsN e++((e.parts.map bs).take e.l.length).flatten++bsR e.arms ((e.parts.map bs).drop e.l.length)=_
 rw[h1,h2]
section
variable {α:Type} (nx:α->ByteArray->Bool->ByteArray×α)
def endS:List (ByteArray×Bool)->α->α
 |[],a=>a
 |(s,h)::l,a=>endS l (nx a s h).2
def outs:List (ByteArray×Bool)->α->List (ByteArray×Bool)
 |[],_=>[]
 |(s,h)::l,a=>((nx a s h).1,h)::outs l (nx a s h).2
theorem L12 (m:List (ByteArray×Bool)):∀ (l:List (ByteArray×Bool)) (a:α),endS nx (l++m) a=endS nx m (endS nx l a)
 |[],_=>rfl
 |(s,h)::l,a=>L12 m l _
theorem outs_app (m:List (ByteArray×Bool)):∀ (l:List (ByteArray×Bool)) (a:α),outs nx (l++m) a=outs nx l a++outs nx m (endS nx l a)
 |[],_=>rfl
 |(s,h)::l,a=>by rw[List.cons_append,outs,outs_app m l,outs,endS,List.cons_append]
theorem nmF_outs (h:Bool):∀ (l:List ByteArray) (a:α),(nmF nx h l a).1.map (·,h)=outs nx (l.map (·,h)) a/\(nmF nx h l a).2=endS nx (l.map (·,h)) a
 |[],_=>⟨rfl,rfl⟩
 |s::l,a=>by
  obtain ⟨h1,h2⟩:=nmF_outs h l (nx a s h).2
  rw[nmF,List.map_cons,List.map_cons,outs,endS]
  exact ⟨by rw[h1],h2⟩
theorem nmF_len2 (h:Bool):∀ (l:List ByteArray) (a:α),(nmF nx h l a).1.length=l.length
 |[],_=>rfl
 |x::l,a=>by rw[nmF,List.length_cons,List.length_cons,nmF_len2 h l]
theorem nmE_len (e:Ex) (a:α):(nmE nx e a).1.length=e.names.length:=by
 unfold nmE
 split
 ·simp only[List.length_append,nmF_len2,List.length_take,List.length_drop];omega
 ·rw[nmF_len2]
theorem goL_outs (e:Ex) (ns:List ByteArray) (up:Mp):∀ (ps:List Ex) (j:Nat) (a:α),(∀ p∈ps,∀ up a,bs (renF nx p up a).1=outs nx (bs p) a/\(renF nx p up a).2=endS nx (bs p) a) ->
  ((goL e ns up j (ps.map (renF nx)) a).1.map bs).flatten=outs nx (ps.map bs).flatten a/\(goL e ns up j (ps.map (renF nx)) a).2=endS nx (ps.map bs).flatten a
 |[],_,_,_=>⟨rfl,rfl⟩
 |p::ps,j,a,h=>by
  obtain ⟨q1,q2⟩:=h p (by simp) (mps (decide (e.k=15)) (ownV e j++ownH e j) ns up) a
  obtain ⟨i1,i2⟩:=goL_outs e ns up ps (j+1) (renF nx p (mps (decide (e.k=15)) (ownV e j++ownH e j) ns up) a).2 (fun q hq=>h q (by simp[hq]))
  simp only[List.map_cons,goL,List.flatten_cons]
  rw[outs_app,L12,<-q2,<-q1,<-i1]
  exact ⟨rfl,i2⟩
theorem goR_outs (up:Mp):∀ (xs:List Ar) (a:α),(∀ x∈xs,∀ up a,bs (renF nx x.body up a).1=outs nx (bs x.body) a/\(renF nx x.body up a).2=endS nx (bs x.body) a) ->
  bsR (goR nx up xs (xs.map fun x=>renF nx x.body) a).1 ((goR nx up xs (xs.map fun x=>renF nx x.body) a).1.map fun x=>bs x.body)=outs nx (bsR xs (xs.map fun x=>bs x.body)) a/\(goR nx up xs (xs.map fun x=>renF nx x.body) a).2=endS nx (bsR xs (xs.map fun x=>bs x.body)) a
 |[],_,_=>⟨rfl,rfl⟩
 |x::xs,a,h=>by
  obtain ⟨n1,n2⟩:=nmF_outs nx false x.names a
  obtain ⟨q1,q2⟩:=h x (by simp) (mps false x.names (nmF nx false x.names a).1 up) (nmF nx false x.names a).2
  obtain ⟨i1,i2⟩:=goR_outs up xs (armR nx up x (renF nx x.body) a).2 (fun q hq=>h q (by simp[hq]))
  have ha:(armR nx up x (renF nx x.body) a).2=endS nx (x.names.map (·,false)++bs x.body) a:=by
   rw[L12,<-n2];exact q2
  simp only[List.map_cons,goR,bsR]
  refine ⟨?_,?_⟩
  ·rw[outs_app,<-ha,<-i1,outs_app,<-n1,<-n2,<-q1];rfl
  ·rw[L12,<-ha];exact i2
theorem ren_bs (e:Ex):∀ (up:Mp) (a:α),bs (renF nx e up a).1=outs nx (bs e) a/\(renF nx e up a).2=endS nx (bs e) a:=by
 induction e using Ex.ind with
 |step e ih=>
  intro up a
  have hN:bsN (renF nx e up a).1=outs nx (bsN e) a/\(nmE nx e a).2=endS nx (bsN e) a:=by
   have hk:(renF nx e up a).1.k=e.k:=by rw[Z12];rfl
   have hnm:(renF nx e up a).1.names=(nmE nx e a).1:=by rw[Z12];rfl
   unfold bsN
   rw[hk,hnm]
   unfold nmE
   by_cases h17:e.k=17
   ·rw[if_pos h17,if_pos h17,if_pos h17]
    obtain ⟨n1,n2⟩:=nmF_outs nx false (e.names.take 1) a
    refine ⟨?_,n2⟩
    rw[<-n1]
    congr 1
    show List.take 1 ((nmF nx false (e.names.take 1) a).1++e.names.drop 1)=_
    have hl:=nmF_len2 nx false (e.names.take 1) a
    rw[List.length_take] at hl
    cases hn:e.names with
    |nil=>rfl
    |cons s l=>
     rw[hn] at hl
     rw[List.take_append_of_le_length (by rw[hl];simp),List.take_of_length_le (by rw[hl];simp)]
   ·rw[if_neg h17,if_neg h17,if_neg h17]
    exact nmF_outs nx (decide (e.k=15)) e.names a
  have hL:=goL_outs nx e (nmE nx e a).1 up e.l 0 (nmE nx e a).2 (fun p hp=>ih p (by unfold Ex.parts;simp[hp]))
  have hR:=goR_outs nx up e.arms (lF nx e up a).2 (fun x hx=>ih x.body (by unfold Ex.parts;simp only[List.mem_append,List.mem_map];exact .inr ⟨x,hx,rfl⟩))
  have e1:(renF nx e up a).1.l=(lF nx e up a).1:=by rw[Z12];rfl
  have e2:(renF nx e up a).1.arms=(rF nx e up a).1:=by rw[Z12];rfl
  have e3:(renF nx e up a).2=(rF nx e up a).2:=by rw[Z12]
  have hl2:(lF nx e up a).2=endS nx (bsN e++(e.l.map bs).flatten) a:=by
   rw[L12,<-hN.2];exact hL.2
  rw[bs_eq (renF nx e up a).1,bs_eq e,e1,e2,e3,outs_app,outs_app,<-hN.1,<-hN.2,<-hl2,L12,<-hl2]
  refine ⟨?_,hR.2⟩
  rw[<-hR.1]
  congr 1
  congr 1
  exact hL.1
end
theorem nodup_rev {l:List ByteArray} (h:l.Nodup):l.reverse.Nodup:=by
 unfold List.Nodup
 rw[List.pairwise_reverse]
 exact List.Pairwise.imp (fun h=>h.symm) h
structure Nice {α:Type} (nx:α->ByteArray->Bool->ByteArray×α) (Us:α->Bool->ByteArray->Prop):Prop where
 new:∀ a s h,¬ Us a h (nx a s h).1
 keep:∀ a s h q x,Us a q x->Us (nx a s h).2 q x
 mark:∀ a s h,Us (nx a s h).2 h (nx a s h).1
section
variable {α:Type} {nx:α->ByteArray->Bool->ByteArray×α} {Us:α->Bool->ByteArray->Prop}
theorem Nice.holds (N:Nice nx Us):∀ (l:List (ByteArray×Bool)) (a:α) (q:Bool) (x:ByteArray),Us a q x->Us (endS nx l a) q x
 |[],_,_,_,h=>h
 |(s,h)::l,a,q,x,hx=>N.holds l _ q x (N.keep a s h q x hx)
theorem Nice.outl (N:Nice nx Us):∀ (l:List (ByteArray×Bool)) (a:α),(∀ x∈outs nx l a,¬ Us a x.2 x.1/\Us (endS nx l a) x.2 x.1)/\(outs nx l a).Nodup
 |[],_=>⟨fun _ h=>(by cases h),List.nodup_nil⟩
 |(s,h)::l,a=>by
  obtain ⟨h1,h2⟩:=N.outl l (nx a s h).2
  refine ⟨fun x hx=>?_,List.nodup_cons.2 ⟨fun hm=>?_,h2⟩⟩
  ·rcases List.mem_cons.1 hx with rfl|hx
   ·exact ⟨N.new a s h,N.holds l _ _ _ (N.mark a s h)⟩
   ·exact ⟨fun q=>(h1 x hx).1 (N.keep a s h _ _ q),(h1 x hx).2⟩
  ·exact (h1 _ hm).1 (N.mark a s h)
theorem Nice.names (N:Nice nx Us) (h:Bool) (l:List ByteArray) (a:α):(∀ x∈(nmF nx h l a).1,¬ Us a h x/\Us (nmF nx h l a).2 h x)/\(nmF nx h l a).1.Nodup/\∀ q x,Us a q x->Us (nmF nx h l a).2 q x:=by
 obtain ⟨n1,n2⟩:=nmF_outs nx h l a
 obtain ⟨h1,h2⟩:=N.outl (l.map (·,h)) a
 rw[<-n1] at h1 h2
 rw[n2]
 refine ⟨fun x hx=>h1 (x,h) (List.mem_map.2 ⟨x,hx,rfl⟩),?_,fun q x hx=>N.holds _ _ _ _ hx⟩
 exact List.Pairwise.imp (fun hne=>fun e=>hne (by rw[e])) (List.pairwise_map.1 h2)
theorem goL_get (e:Ex) (ns:List ByteArray) (up:Mp):∀ (ps:List Ex) (j:Nat) (a:α) (i:Nat) (x:Ex),ps[i]?=some x ->
  ∃ l,(goL e ns up j (ps.map (renF nx)) a).1[i]?=some (renF nx x (mps (decide (e.k=15)) (ownV e (j+i)++ownH e (j+i)) ns up) (endS nx l a)).1
 |[],_,_,_,_,h=>by cases h
 |p::ps,j,a,0,x,h=>by
  simp only[List.getElem?_cons_zero,Option.some.injEq] at h
  subst h
  exact ⟨[],rfl⟩
 |p::ps,j,a,i+1,x,h=>by
  obtain ⟨l,hl⟩:=goL_get e ns up ps (j+1) (renF nx p (mps (decide (e.k=15)) (ownV e j++ownH e j) ns up) a).2 i x (by simpa using h)
  refine ⟨bs p++l,?_⟩
  rw[L12,<-(ren_bs nx p (mps (decide (e.k=15)) (ownV e j++ownH e j) ns up) a).2,show j+(i+1)=j+1+i by omega]
  simp only[List.map_cons,goL,List.getElem?_cons_succ]
  exact hl
theorem goR_get (up:Mp):∀ (xs:List Ar) (a:α) (i:Nat) (x:Ar),xs[i]?=some x->∃ l,(goR nx up xs (xs.map fun x=>renF nx x.body) a).1[i]?=some (armR nx up x (renF nx x.body) (endS nx l a)).1
 |[],_,_,_,h=>by cases h
 |y::xs,a,0,x,h=>by
  simp only[List.getElem?_cons_zero,Option.some.injEq] at h
  subst h
  exact ⟨[],rfl⟩
 |y::xs,a,i+1,x,h=>by
  obtain ⟨l,hl⟩:=goR_get up xs (armR nx up y (renF nx y.body) a).2 i x (by simpa using h)
  refine ⟨(y.names.map (·,false)++bs y.body)++l,?_⟩
  have ha:(armR nx up y (renF nx y.body) a).2=endS nx (y.names.map (·,false)++bs y.body) a:=by
   rw[L12,<-(nmF_outs nx false y.names a).2]
   exact (ren_bs nx y.body _ _).2
  rw[L12,<-ha]
  simp only[List.map_cons,goR,List.getElem?_cons_succ]
  exact hl
theorem lF_len (e:Ex) (up:Mp) (a:α):(lF nx e up a).1.length=e.l.length:=by
 have:∀ (ns:List ByteArray) (rs:List (Mp->α->Ex×α)) (j:Nat) (a:α),(goL e ns up j rs a).1.length=rs.length:=fun ns rs=>by
  induction rs with
  |nil=>intro j a;rfl
  |cons r rs ih=>intro j a;rw[goL,List.length_cons,List.length_cons,ih]
 unfold lF
 rw[this,List.length_map]
theorem goR_length (up:Mp):∀ (xs:List Ar) (a:α),(goR nx up xs (xs.map fun x=>renF nx x.body) a).1.length=xs.length
 |[],_=>rfl
 |x::xs,a=>by rw[List.map_cons,goR,List.length_cons,List.length_cons,goR_length up xs]
theorem rF_len (e:Ex) (up:Mp) (a:α):(rF nx e up a).1.length=e.arms.length:=goR_length up _ _
theorem take_len (l m:List ByteArray) (k:Nat) (h:l.length=m.length):l.take (m.take k).length=l.take k:=by
 rw[List.length_take,<-h]
 by_cases hk:k<=l.length
 ·rw[Nat.min_eq_left hk]
 ·rw[Nat.min_eq_right (by omega),List.take_of_length_le (Nat.le_refl _),List.take_of_length_le (by omega)]
theorem Nice.node (N:Nice nx Us) (e:Ex) (a:α) (m:Nat) (hm:e.k=17->m<=1):(∀ x∈(nmE nx e a).1.take m,¬ Us a (decide (e.k=15)) x/\Us (nmE nx e a).2 (decide (e.k=15)) x)/\((nmE nx e a).1.take m).Nodup/\∀ q x,Us a q x->Us (nmE nx e a).2 q x:=by
 unfold nmE
 by_cases h17:e.k=17
 ·rw[if_pos h17]
  obtain ⟨n1,n2,n3⟩:=N.names false (e.names.take 1) a
  have h15:decide (e.k=15)=false:=by rw[h17];rfl
  rw[h15]
  have ht:((nmF nx false (e.names.take 1) a).1++e.names.drop 1).take m=(nmF nx false (e.names.take 1) a).1.take m:=by
   have hl:=nmF_len2 nx false (e.names.take 1) a
   have:=hm h17
   cases hn:e.names with
   |nil=>simp[nmF]
   |cons s l=>
    rw[List.take_append_of_le_length]
    rw[nmF_len2];simp;omega
  simp only
  rw[ht]
  exact ⟨fun x hx=>n1 x (List.mem_of_mem_take hx),n2.sublist (List.take_sublist _ _),n3⟩
 ·rw[if_neg h17]
  obtain ⟨n1,n2,n3⟩:=N.names (decide (e.k=15)) e.names a
  exact ⟨fun x hx=>n1 x (List.mem_of_mem_take hx),n2.sublist (List.take_sublist _ _),n3⟩
theorem ren_k (e:Ex) (up:Mp) (a:α):(renF nx e up a).1.k=e.k:=by rw[Z12];rfl
theorem ren_names (e:Ex) (up:Mp) (a:α):(renF nx e up a).1.names=(nmE nx e a).1:=by rw[Z12];rfl
theorem ren_l (e:Ex) (up:Mp) (a:α):(renF nx e up a).1.l=(lF nx e up a).1:=by rw[Z12];rfl
theorem ren_arms (e:Ex) (up:Mp) (a:α):(renF nx e up a).1.arms=(rF nx e up a).1:=by rw[Z12];rfl
theorem parts_left {e:Ex} {i:Nat} (h:i<e.l.length):e.parts[i]?=e.l[i]?:=by
 unfold Ex.parts;rw[List.getElem?_append_left h]
theorem parts_right {e:Ex} {i:Nat} (h:e.l.length<=i):e.parts[i]?=(e.arms[i-e.l.length]?).map Ar.body:=by
 unfold Ex.parts;rw[List.getElem?_append_right h,List.getElem?_map]
theorem own_le (e:Ex) (i:Nat):(ownV e i).length<=e.names.length:=by
 unfold ownV;split
 ·rw[List.length_take];omega
 ·split
  ·rw[List.length_take];omega
  ·exact Nat.zero_le _
theorem own_15 {e:Ex} (h:e.k=15) (i:Nat):ownV e i=[]/\ownH e i=e.names:=by
 refine ⟨?_,by unfold ownH;rw[if_pos h]⟩
 unfold ownV own1;rw[h];rfl
theorem own_n15 {e:Ex} (h:e.k≠15) (i:Nat):ownH e i=[]:=by unfold ownH;rw[if_neg h]
theorem fr_left {e:Ex} {i:Nat} (hi:i<e.l.length):fr e i=(ownV e i,ownH e i):=by unfold fr vOf hOf;rw[if_pos hi,if_pos hi]
theorem fm_own {e:Ex} {i:Nat} (hi:i<e.l.length) {ns:List ByteArray} (up:Mp) (hn:ns.length=e.names.length) (h:Bool):fm h (mps (decide (e.k=15)) (ownV e i++ownH e i) ns up)=(selN h (fr e i)).reverse++fm h up:=by
 rw[fr_left hi]
 by_cases h15:e.k=15
 ·obtain ⟨hv,hh⟩:=own_15 h15 i
  rw[fm_mps _ _ _ _ _ (by rw[hv,hh,hn];simp),decide_eq_true h15,hv,hh]
  cases h<;>simp[selN]
 ·have hh:=own_n15 h15 i
  have hs:=own_le e i
  rw[fm_mps _ _ _ _ _ (by rw[hh,hn];simpa using hs),decide_eq_false h15,hh]
  cases h<;>simp[selN]
theorem tt_own {e:Ex} {i:Nat} (hi:i<e.l.length) {ns:List ByteArray} (up:Mp) (hn:ns.length=e.names.length) (h:Bool):tt h (mps (decide (e.k=15)) (ownV e i++ownH e i) ns up)=(ns.take (selN h (fr e i)).length).reverse++tt h up:=by
 rw[fr_left hi]
 by_cases h15:e.k=15
 ·obtain ⟨hv,hh⟩:=own_15 h15 i
  rw[tt_mps _ _ _ _ _ (by rw[hv,hh,hn];simp),decide_eq_true h15,hv,hh]
  cases h<;>simp[selN]
 ·have hh:=own_n15 h15 i
  have hs:=own_le e i
  rw[tt_mps _ _ _ _ _ (by rw[hh,hn];simpa using hs),decide_eq_false h15,hh]
  cases h<;>simp[selN]
theorem Nice.part (N:Nice nx Us) {e:Ex} (up:Mp) (a:α) {i:Nat} {x:Ex} (hx:e.parts[i]?=some x) :
  ∃ up' l,(renF nx e up a).1.parts[i]?=some (renF nx x up' (endS nx l a)).1/\(∀ h,fm h up'=(selN h (fr e i)).reverse++fm h up)/\(∀ h,tt h up'=(selN h (fr (renF nx e up a).1 i)).reverse++tt h up) /\
   (∀ h,(selN h (fr (renF nx e up a).1 i)).Nodup/\∀ y∈selN h (fr (renF nx e up a).1 i),¬ Us a h y/\Us (endS nx l a) h y):=by
 have hnE:=nmE_len nx e a
 have hll:=lF_len (nx:=nx) e up a
 have h2:(nmE nx e a).2=endS nx (bsN e) a:=by
  unfold nmE bsN
  split
  ·exact (nmF_outs nx _ _ _).2
  ·exact (nmF_outs nx _ _ _).2
 by_cases hi:i<e.l.length
 ·rw[parts_left hi] at hx
  obtain ⟨l,hl⟩:=goL_get (nx:=nx) e (nmE nx e a).1 up e.l 0 (nmE nx e a).2 i x hx
  rw[Nat.zero_add] at hl
  refine ⟨mps (decide (e.k=15)) (ownV e i++ownH e i) (nmE nx e a).1 up,bsN e++l,?_,?_,?_,?_⟩
  ·rw[parts_left (by rw[ren_l,hll];exact hi),ren_l,L12,<-h2];exact hl
  ·intro h
   exact fm_own hi up hnE h
  ·intro h
   have hi':i<(renF nx e up a).1.l.length:=by rw[ren_l,hll];exact hi
   have hfr:fr (renF nx e up a).1 i=(ownV (renF nx e up a).1 i,ownH (renF nx e up a).1 i):=by unfold fr vOf hOf;rw[if_pos hi',if_pos hi']
   rw[hfr,tt_own hi up hnE,fr_left hi]
   congr 2
   cases h with
   |true=>
    show (nmE nx e a).1.take (ownH e i).length=ownH (renF nx e up a).1 i
    unfold ownH
    rw[ren_k,ren_names]
    split
    ·rw[<-hnE,List.take_of_length_le (Nat.le_refl _)]
    ·rfl
   |false=>
    show (nmE nx e a).1.take (ownV e i).length=ownV (renF nx e up a).1 i
    unfold ownV own1
    rw[ren_k,ren_names]
    split
    ·exact take_len _ _ _ hnE
    ·split
     ·exact take_len _ _ _ hnE
     ·rfl
  ·intro h
   have hi':i<(renF nx e up a).1.l.length:=by rw[ren_l,hll];exact hi
   have hfr:fr (renF nx e up a).1 i=(ownV (renF nx e up a).1 i,ownH (renF nx e up a).1 i):=by unfold fr vOf hOf;rw[if_pos hi',if_pos hi']
   rw[hfr,L12,<-h2]
   have hendS:∀ q y,Us (nmE nx e a).2 q y->Us (endS nx l (nmE nx e a).2) q y:=fun q y=>N.holds l _ q y
   cases h with
   |true=>
    show (ownH (renF nx e up a).1 i).Nodup/\∀ y∈ownH (renF nx e up a).1 i,_
    unfold ownH
    rw[ren_k,ren_names]
    by_cases h15:e.k=15
    ·rw[if_pos h15]
     obtain ⟨n1,n2,_⟩:=N.node e a e.names.length (fun q=>by omega)
     rw[<-hnE,List.take_of_length_le (Nat.le_refl _),decide_eq_true h15] at n1
     rw[<-hnE,List.take_of_length_le (Nat.le_refl _)] at n2
     exact ⟨n2,fun y hy=>⟨(n1 y hy).1,hendS _ _ (n1 y hy).2⟩⟩
    ·rw[if_neg h15]
     exact ⟨List.nodup_nil,fun y hy=>by cases hy⟩
   |false=>
    show (ownV (renF nx e up a).1 i).Nodup/\∀ y∈ownV (renF nx e up a).1 i,_
    unfold ownV
    rw[ren_names,ren_k]
    have hcase:∀ m,e.k≠15->(e.k=17->m<=1)->((nmE nx e a).1.take m).Nodup/\∀ y∈(nmE nx e a).1.take m,¬ Us a false y/\Us (endS nx l (nmE nx e a).2) false y:=fun m h15 h17=>by
     obtain ⟨n1,n2,_⟩:=N.node e a m h17
     rw[decide_eq_false h15] at n1
     exact ⟨n2,fun y hy=>⟨(n1 y hy).1,hendS _ _ (n1 y hy).2⟩⟩
    have ho:own1 (renF nx e up a).1 i=own1 e i:=by unfold own1;rw[ren_k]
    rw[ho]
    by_cases h1:own1 e i=true
    ·rw[if_pos h1]
     exact hcase 1 (fun q=>by rw[own1,q] at h1;simp at h1) (fun _=>Nat.le_refl _)
    ·rw[if_neg h1]
     by_cases h7:e.k=7
     ·rw[if_pos h7]
      exact hcase (2-i) (by omega) (fun q=>by omega)
     ·rw[if_neg h7]
      exact ⟨List.nodup_nil,fun y hy=>by cases hy⟩
 ·have hi2:e.l.length<=i:=by omega
  rw[parts_right hi2] at hx
  obtain ⟨y,hy,rfl⟩:=Option.map_eq_some_iff.1 hx
  obtain ⟨l,hl⟩:=goR_get (nx:=nx) up e.arms (lF nx e up a).2 (i-e.l.length) y hy
  have h3:(lF nx e up a).2=endS nx (bsN e++(e.l.map bs).flatten) a:=by
   rw[L12,<-h2]
   exact (goL_outs nx e (nmE nx e a).1 up e.l 0 (nmE nx e a).2 (fun p _=>ren_bs nx p)).2
  rw[h3,<-L12] at hl
  obtain ⟨L0,hL0⟩:∃ L0,bsN e++(e.l.map bs).flatten++l=L0:=⟨_,rfl⟩
  rw[hL0] at hl
  obtain ⟨n1,n2⟩:=nmF_outs nx false y.names (endS nx L0 a)
  have hi3:(renF nx e up a).1.l.length<=i:=by rw[ren_l,hll];exact hi2
  have harm:(renF nx e up a).1.arms[i-(renF nx e up a).1.l.length]?=some (armR nx up y (renF nx y.body) (endS nx L0 a)).1:=by
   rw[ren_l,hll,ren_arms];unfold rF;rw[h3];exact hl
  have hlen:=nmF_len2 nx false y.names (endS nx L0 a)
  have f1:fr e i=(y.names,[]):=by
   unfold fr vOf hOf;rw[if_neg hi,if_neg hi,hy]
  have f2:fr (renF nx e up a).1 i=((nmF nx false y.names (endS nx L0 a)).1,[]):=by
   unfold fr vOf hOf;rw[if_neg (by omega),if_neg (by omega),harm];rfl
  refine ⟨mps false y.names (nmF nx false y.names (endS nx L0 a)).1 up,L0++y.names.map (·,false),?_,?_,?_,?_⟩
  ·rw[parts_right hi3,harm,L12,<-n2];rfl
  ·intro h
   rw[fm_mps _ _ _ _ _ (by omega),f1]
   cases h<;>simp[selN]
  ·intro h
   rw[tt_mps _ _ _ _ _ (by omega),f2,<-hlen,List.take_of_length_le (Nat.le_refl _)]
   cases h<;>simp[selN]
  ·intro h
   rw[f2,L12,<-n2]
   obtain ⟨m1,m2,m3⟩:=N.names false y.names (endS nx L0 a)
   cases h with
   |true=>exact ⟨List.nodup_nil,fun y hy=>by cases hy⟩
   |false=>exact ⟨m2,fun y hy=>⟨fun q=>(m1 y hy).1 (N.holds _ _ _ _ q),(m1 y hy).2⟩⟩
theorem ren_like (e:Ex) (up:Mp) (a:α):Like e (renF nx e up a).1:=by
 have hs:(renF nx e up a).1.s=sF e up:=by rw[Z12];rfl
 refine ⟨(ren_k e up a).symm,by rw[Z12];rfl,by rw[Z12];rfl,by rw[ren_names,nmE_len],by rw[ren_l,lF_len],by rw[ren_arms,rF_len],fun q=>?_,fun q=>?_,?_⟩
 ·rw[hs];unfold sF;rw[q];rfl
 ·rw[ren_names];unfold nmE;rw[if_pos q]
  cases e.names<;>rfl
 ·rw[ren_arms]
  unfold rF
  have:∀ (xs:List Ar) (a:α),eqArms xs (goR nx up xs (xs.map fun x=>renF nx x.body) a).1=true:=fun xs=>by
   induction xs with
   |nil=>intro a;rfl
   |cons x xs ih=>
    intro a
    show (armF x (armR nx up x (renF nx x.body) a).1&&eqArms xs _)=true
    rw[ih]
    have hl:=nmF_len2 nx false x.names a
    show (decide (x.op=x.op)&&decide ((x.names.length:Int)=((nmF nx false x.names a).1.length:Int))&&true)=true
    rw[hl];simp
  exact this _ _
theorem Nice.alpha (N:Nice nx Us) (e:Ex):∀ (up:Mp) (a:α) (L M:List Nm),Fr L M->(∀ h,fm h up=env h L)->(∀ h,tt h up=env h M)->(∀ h,(tt h up).Nodup)->(∀ h x,x∈tt h up->Us a h x) ->
  (∀ h x,FI h x e->x∉fm h up->Us a h x/\x∉tt h up)->alphaF e (renF nx e up a).1 (L.zip M)=true:=by
 induction e using Ex.ind with
 |step e ih=>
  intro up a L M hF h1 h2 h3 h4 h5
  have hlk:=ren_like (nx:=nx) e up a
  rw[alpha_iff]
  refine ⟨hlk,fun q=>?_,fun i x y hx hy=>?_⟩
  ·have ho:(occ (renF nx e up a).1).1=getF up (occ e).1 (occ e).2.1:=by
    have hs:(renF nx e up a).1.s=sF e up:=by rw[Z12];rfl
    have hs2:sF e up=getF up (occ e).1 (occ e).2.1:=by unfold sF;rw[if_pos q]
    rw[<-hs2,<-hs]
    unfold occ at q ⊢
    rw[ren_k]
    split
    ·rfl
    ·rename_i hk
     rw[if_neg hk] at q
     split
     ·rfl
     ·rename_i hk2
      rw[if_neg hk2] at q;cases q
   rw[same_env _ _ _ _ _ hF,ho,<-h1,<-h2]
   refine getF_same (h3 _) fun hn=>?_
   refine (h5 _ _ ((FI_eq _ _ e).2 (.inl ?_)) hn).2
   rw[<-q]
  ·obtain ⟨up',l,p1,p2,p3,p4⟩:=N.part (e:=e) up a hx
   rw[p1] at hy
   injection hy with hy
   subst hy
   refine ih x (List.mem_of_getElem? hx) up' _ _ _ (hF.cons hlk i) (fun h=>?_) (fun h=>?_) (fun h=>?_) (fun h z hz=>?_) (fun h z hz hn=>?_)
   ·rw[p2,h1];rfl
   ·rw[p3,h2];rfl
   ·rw[p3,List.nodup_append]
    refine ⟨nodup_rev (p4 h).1,h3 h,fun x hx y hy e=>?_⟩
    rw[e] at hx
    exact ((p4 h).2 y (List.mem_reverse.1 hx)).1 (h4 h y hy)
   ·rw[p3] at hz
    rcases List.mem_append.1 hz with hz|hz
    ·exact ((p4 h).2 z (List.mem_reverse.1 hz)).2
    ·exact N.holds _ _ _ _ (h4 h z hz)
   ·rw[p2] at hn
    simp only[List.mem_append,List.mem_reverse,not_or] at hn
    have hf:=h5 h z ((FI_eq h z e).2 (.inr ⟨i,x,hx,hz,hn.1⟩)) hn.2
    refine ⟨N.holds _ _ _ _ hf.1,?_⟩
    rw[p3]
    simp only[List.mem_append,List.mem_reverse,not_or]
    exact ⟨fun q=>((p4 h).2 z q).1 hf.1,hf.2⟩
end
section
variable {α:Type} {nx:α->ByteArray->Bool->ByteArray×α}
theorem occ_s {e:Ex} (h:(occ e).2.2=true):(occ e).1=e.s:=by
 unfold occ at h ⊢
 split
 ·rfl
 ·rename_i h0
  rw[if_neg h0] at h
  split
  ·rfl
  ·rename_i h1
   rw[if_neg h1] at h;cases h
end
theorem distinctF_zero:∀ (l b:List ByteArray),distinctF b l=0↔(∀ x∈l,isVar x=true/\x∉b)/\l.Nodup
 |[],b=>by simp[distinctF]
 |x::l,b=>by
  unfold distinctF
  have ih:=distinctF_zero l (b++[x])
  by_cases h1:isVar x=true
  ·rw[if_pos h1]
   by_cases h2:has b x=true
   ·rw[if_pos h2]
    refine ⟨fun h=>(by cases h),fun ⟨h,_⟩=>absurd ((P11 b x).1 h2) (h x (by simp)).2⟩
   ·rw[if_neg h2,ih]
    have h2':x∉b:=fun q=>h2 ((P11 b x).2 q)
    simp only[List.mem_cons,List.mem_append,List.not_mem_nil,or_false,List.nodup_cons,not_or]
    constructor
    ·rintro ⟨a1,a2⟩
     refine ⟨fun y hy=>?_,fun q=>(a1 x q).2.2 rfl,a2⟩
     rcases hy with rfl|hy
     ·exact ⟨h1,h2'⟩
     ·exact ⟨(a1 y hy).1,(a1 y hy).2.1⟩
    ·rintro ⟨a1,a2,a3⟩
     exact ⟨fun y hy=>⟨(a1 y (.inr hy)).1,(a1 y (.inr hy)).2,fun e=>a2 (e▸hy)⟩,a3⟩
  ·rw[if_neg h1]
   exact ⟨fun h=>(by cases h),fun ⟨h,_⟩=>absurd (h x (by simp)).1 h1⟩
theorem K11 (l:List ByteArray):distinct l=0↔(∀ x∈l,isVar x=true)/\l.Nodup:=by
 unfold distinct
 rw[distinctF_zero]
 simp
theorem isVar_size {s:ByteArray} (h:isVar s=true):s.size<=12:=by
 unfold isVar word at h
 simp only[Bool.and_eq_true] at h
 have h1:=h.1.1
 rw[<-A12]
 cases hb:bytes s with
 |nil=>simp
 |cons c cs=>
  rw[hb] at h1
  simp only[wordHead,Bool.and_eq_true,decide_eq_true_eq] at h1
  simp;omega
theorem O13 (e:Ex):nodeErr e=0↔∃ x,shapes[e.k.toNat]?=some x/\(0<=e.k/\e.k<=19)/\(x.Low<=e.n/\e.n<=x.High)/\(cls e.s x.S=true/\cls e.t x.T=true)/\nodeBad x e=false/\namesErr e=0/\(x.Arms=true->armsErr e=0):=by
 unfold nodeErr
 by_cases hk:0<=e.k/\e.k<=19
 ·rw[if_pos (by simpa using hk)]
  cases hx:shapes[e.k.toNat]? with
  |none=>simp
  |some x=>
   simp only[Option.some.injEq]
   constructor
   ·intro h
    refine ⟨x,rfl,hk,?_⟩
    unfold nodeOf at h
    by_cases hn:(decide (x.Low<=e.n)&&decide (e.n<=x.High))=true
    ·rw[if_pos hn] at h
     simp only[Bool.and_eq_true,decide_eq_true_eq] at hn
     by_cases hc:(!cls e.s x.S||!cls e.t x.T)=true
     ·rw[if_pos hc] at h;cases h
     ·rw[if_neg hc] at h
      by_cases hb:nodeBad x e=true
      ·rw[if_pos hb] at h;cases h
      ·rw[if_neg hb] at h
       by_cases hz:namesErr e=0
       ·rw[if_pos hz] at h
        refine ⟨hn,by simpa using hc,by simpa using hb,hz,fun ha=>?_⟩
        rw[if_pos ha] at h;exact h
       ·rw[if_neg hz] at h;exact absurd h hz
    ·rw[if_neg hn] at h;cases h
   ·rintro ⟨x',rfl,_,hn,hc,hb,hz,ha⟩
    unfold nodeOf
    rw[if_pos (by simpa using hn),if_neg (by simp[hc.1,hc.2]),if_neg (by simp[hb]),if_pos hz]
    split
    ·exact ha ‹_›
    ·rfl
 ·rw[if_neg (by simpa using hk)]
  refine ⟨fun h=>(by cases h),fun ⟨x,_,h,_⟩=>absurd h hk⟩
theorem armsF_same (h:Bool):∀ (l m b c:List Ar),eqArms l m=true->b.map Ar.op=c.map Ar.op->(∀ x∈m,distinct x.names=0)->armsF h b l=0->armsF h c m=0
 |[],[],_,_,_,_,_,_=>rfl
 |[],_::_,_,_,q,_,_,_=>by cases q
 |_::_,[],_,_,q,_,_,_=>by cases q
 |x::l,y::m,b,c,q,hbc,hd,hz=>by
  have q':(armF x y&&eqArms l m)=true:=q
  simp only[Bool.and_eq_true,armF,decide_eq_true_eq] at q'
  obtain ⟨⟨q1,q2⟩,q3⟩:=q'
  have he:b.isEmpty=c.isEmpty:=by
   have:=congrArg List.isEmpty hbc
   simpa using this
  have ha:∀ g f,armArity g f x=armArity g f y:=fun g f=>by
   unfold armArity;rw[q1,q2]
  have hn:∀ g f,armName g f x=armName g f y:=fun g f=>by
   unfold armName;rw[q1]
  unfold armsF at hz ⊢
  rw[ha,hn,he,q1,hbc] at hz
  split at hz
  ·cases hz
  ·rename_i c1
   rw[if_neg c1]
   split at hz
   ·cases hz
   ·rename_i c2
    rw[if_neg c2,if_pos (hd y (by simp))]
    split at hz
    ·split at hz
     ·cases hz
     ·rename_i c3
      rw[if_neg c3]
      exact armsF_same h l m _ _ q3 (by rw[List.map_append,List.map_append,hbc];simp[q1]) (fun z hz=>hd z (by simp[hz])) hz
    ·rename_i c3;exact absurd hz c3
theorem bsR_mem {y:ByteArray×Bool}:∀ {xs:List Ar} {x:Ar},x∈xs->(y∈x.names.map (·,false)\/y∈bs x.body)->y∈bsR xs (xs.map fun x=>bs x.body)
 |[],_,h,_=>by cases h
 |z::xs,x,h,hy=>by
  rw[List.map_cons,bsR,List.mem_append,List.mem_append]
  rcases List.mem_cons.1 h with rfl|h
  ·exact .inl hy
  ·exact .inr (bsR_mem h hy)
theorem bs_arm {e:Ex} {x:Ar} (hx:x∈e.arms) {y:ByteArray} (hy:y∈x.names):(y,false)∈bs e:=by
 rw[bs_eq,List.mem_append]
 exact .inr (bsR_mem hx (.inl (List.mem_map.2 ⟨y,hy,rfl⟩)))
theorem bs_part {e p:Ex} (hp:p∈e.parts) {q:ByteArray×Bool} (hq:q∈bs p):q∈bs e:=by
 rw[bs_eq,List.mem_append,List.mem_append]
 unfold Ex.parts at hp
 rcases List.mem_append.1 hp with h|h
 ·exact .inl (.inr (List.mem_flatten.2 ⟨_,List.mem_map.2 ⟨p,h,rfl⟩,hq⟩))
 ·obtain ⟨x,hx,rfl⟩:=List.mem_map.1 h
  exact .inr (bsR_mem hx (.inr hq))
theorem bs_own {e:Ex} {y:ByteArray} {m:Nat} (h17:e.k=17->m<=1) (hy:y∈e.names.take m):(y,decide (e.k=15))∈bs e:=by
 rw[bs_eq,List.mem_append,List.mem_append]
 refine .inl (.inl ?_)
 unfold bsN
 by_cases h:e.k=17
 ·rw[if_pos h,h]
  refine List.mem_map.2 ⟨y,?_,rfl⟩
  exact List.Sublist.mem hy (List.take_sublist_take_left (h17 h))
 ·rw[if_neg h]
  exact List.mem_map.2 ⟨y,List.mem_of_mem_take hy,rfl⟩
theorem bs_fr {e:Ex} {i:Nat} {h:Bool} {y:ByteArray} (hy:y∈selN h (fr e i)):(y,h)∈bs e:=by
 by_cases hi:i<e.l.length
 ·rw[fr_left hi] at hy
  cases h with
  |true=>
   have hy':y∈ownH e i:=hy
   unfold ownH at hy'
   split at hy'
   ·rename_i h15
    have:=bs_own (e:=e) (y:=y) (m:=e.names.length) (fun q=>by omega) (by rw[List.take_of_length_le (Nat.le_refl _)];exact hy')
    rwa [decide_eq_true h15] at this
   ·cases hy'
  |false=>
   have hy':y∈ownV e i:=hy
   unfold ownV at hy'
   split at hy'
   ·rename_i h1
    have:=bs_own (e:=e) (y:=y) (m:=1) (fun _=>Nat.le_refl _) hy'
    rwa [decide_eq_false (fun q=>by rw[own1,q] at h1;simp at h1)] at this
   ·split at hy'
    ·rename_i h7
     have:=bs_own (e:=e) (y:=y) (m:=2-i) (fun q=>by omega) hy'
     rwa [decide_eq_false (fun q=>by omega)] at this
    ·cases hy'
 ·cases h with
  |true=>
   have:fr e i=(vOf e i,[]):=by unfold fr hOf;rw[if_neg hi]
   rw[this] at hy;cases hy
  |false=>
   have hy':y∈vOf e i:=hy
   unfold vOf at hy'
   rw[if_neg hi] at hy'
   split at hy'
   ·rename_i x hx
    exact bs_arm (List.mem_of_getElem? hx) hy'
   ·cases hy'
section
variable {α:Type} {nx:α->ByteArray->Bool->ByteArray×α} {Us:α->Bool->ByteArray->Prop}
theorem Nice.noErr (N:Nice nx Us) (e:Ex):∀ (up:Mp) (a:α),checked e=0->Fit e->(∀ h x,x∈tt h up->isVar x=true)->(∀ p∈bs (renF nx e up a).1,isVar p.1=true)->checked (renF nx e up a).1=0/\Fit (renF nx e up a).1:=by
 induction e using Ex.ind with
 |step e ih=>
  intro up a hc hf hu hv
  obtain ⟨hn,hp⟩:=(M11 e).1 hc
  have hlk:=ren_like (nx:=nx) e up a
  have hs:(renF nx e up a).1.s=sF e up:=by rw[Z12];rfl
  have hval:∀ s h,isVar s=true->isVar (getF up s h)=true:=fun s h q=>by
   by_cases hm:s∈fm h up
   ·exact hu h _ (getF_in hm)
   ·rw[getF_out hm];exact q
  have hparts:∀ p∈(renF nx e up a).1.parts,checked p=0/\Fit p:=fun p hpm=>by
   obtain ⟨i,hi,rfl⟩:=List.getElem_of_mem hpm
   have hi2:i<e.parts.length:=by rw[hlk.parts];exact hi
   have hx:=List.getElem?_eq_getElem hi2
   obtain ⟨up',l,p1,p2,p3,p4⟩:=N.part (e:=e) up a hx
   rw[List.getElem?_eq_getElem hi] at p1
   injection p1 with p1
   have hxm:=List.getElem_mem hi2
   rw[p1]
   refine ih _ hxm up' _ (hp _ hxm) (hf.part hxm) (fun h x hx=>?_) (fun q hq=>?_)
   ·rw[p3] at hx
    rcases List.mem_append.1 hx with hx|hx
    ·exact hv _ (bs_fr (List.mem_reverse.1 hx))
    ·exact hu h x hx
   ·rw[<-p1] at hq
    exact hv q (bs_part hpm hq)
  obtain ⟨x,hx,hk,hlh,hcl,hb,hz,ha⟩:=(O13 e).1 hn
  have hdist:∀ y∈(renF nx e up a).1.arms,distinct y.names=0:=fun y hy=>by
   rw[K11]
   refine ⟨fun z hz=>hv _ (bs_arm hy hz),?_⟩
   obtain ⟨i,hi,rfl⟩:=List.getElem_of_mem hy
   have hi2:i<e.arms.length:=by rw[hlk.arms];exact hi
   have hx':e.parts[e.l.length+i]?=some e.arms[i].body:=by rw[parts_right (by omega),Nat.add_sub_cancel_left,List.getElem?_eq_getElem hi2];rfl
   obtain ⟨_,_,_,_,_,p4⟩:=N.part (e:=e) up a hx'
   have f1:fr (renF nx e up a).1 (e.l.length+i)=((renF nx e up a).1.arms[i].names,[]):=by
    unfold fr vOf hOf;rw[<-hlk.l,if_neg (by omega),if_neg (by omega),Nat.add_sub_cancel_left,List.getElem?_eq_getElem hi]
   have:=(p4 false).1
   rw[f1] at this;exact this
  have hcls:cls (sF e up) x.S=true:=by
   unfold sF
   split
   ·rename_i q
    have h1:x.S=1/\(occ e).1=e.s:=by
     unfold occ at q ⊢
     split at q
     ·rename_i h
      rw[if_pos h]
      rcases h with h|h|h
      ·rw[h] at hx;cases hx;exact ⟨rfl,rfl⟩
      ·rw[h] at hx;cases hx;exact ⟨rfl,rfl⟩
      ·rw[h] at hx;cases hx;exact ⟨rfl,rfl⟩
     ·rename_i h0
      split at q
      ·rename_i h
       rw[if_neg h0,if_pos h]
       rw[h] at hx;cases hx;exact ⟨rfl,rfl⟩
      ·cases q
    have h2:=hcl.1
    rw[h1.1] at h2 ⊢
    have h3:isVar e.s=true:=h2
    show isVar _=true
    exact hval _ _ (by rw[h1.2];exact h3)
   ·exact hcl.1
  have hnames:namesErr (renF nx e up a).1=0:=by
   have hnm:=ren_names (nx:=nx) e up a
   unfold namesErr at hz ⊢
   rw[ren_k]
   by_cases h17:e.k=17
   ·rw[if_pos h17] at hz
    rw[if_pos h17]
    have hd:distinct ((renF nx e up a).1.names.take 1)=0:=by
     rw[K11]
     refine ⟨fun y hy=>?_,?_⟩
     ·exact hv _ (bs_own (e:=(renF nx e up a).1) (m:=1) (fun _=>Nat.le_refl _) hy)
     ·rw[hnm]
      exact (N.node e a 1 (fun _=>Nat.le_refl _)).2.1
    rw[if_pos hd,<-hlk.labels h17]
    split at hz
    ·exact hz
    ·rename_i q;exact absurd hz q
   ·rw[if_neg h17,K11]
    have ht:(renF nx e up a).1.names.take (renF nx e up a).1.names.length=(renF nx e up a).1.names:=List.take_of_length_le (Nat.le_refl _)
    refine ⟨fun y hy=>?_,?_⟩
    ·exact hv _ (bs_own (e:=(renF nx e up a).1) (m:=(renF nx e up a).1.names.length) (fun q=>absurd (by rw[<-q,ren_k]) h17) (by rw[ht];exact hy))
    ·have:=(N.node e a (renF nx e up a).1.names.length (fun q=>absurd q h17)).2.1
     rw[<-hnm,ht] at this;exact this
  refine ⟨(M11 _).2 ⟨(O13 _).2 ⟨x,by rw[ren_k];exact hx,by rw[ren_k];exact hk,by rw[<-hlk.n];exact hlh,⟨by rw[hs];exact hcls,by rw[<-hlk.t];exact hcl.2⟩,?_,hnames,fun q=>?_⟩,fun p hp=>(hparts p hp).1⟩,(Fit.eq _).2 ⟨?_,fun p hp=>(hparts p hp).2⟩⟩
  ·unfold nodeBad nodeMany nodeParts at hb ⊢
   rw[ren_k,<-hlk.names,<-hlk.l,<-hlk.arms];exact hb
  ·have h1:=ha q
   unfold armsErr at h1 ⊢
   rw[ren_k,<-hlk.arms]
   split at h1
   ·rename_i hz1
    rw[if_pos (armsF_same _ _ _ [] [] hlk.arm rfl hdist hz1)];exact h1
   ·rename_i hz1;exact absurd h1 hz1
  ·obtain ⟨g1,g2,g3,g4,g5,g6,g7⟩:=hf.one
   have h12:∀ s,isVar s=true->s.size<=bnd:=fun s q=>Nat.le_trans (isVar_size q) (by decide)
   refine ⟨?_,by rw[<-hlk.t];exact g2,by rw[<-hlk.names];exact g3,by rw[<-hlk.l];exact g4,by rw[<-hlk.arms];exact g5,fun y hy=>?_,fun y hy=>?_⟩
   ·rw[hs]
    unfold sF
    split
    ·by_cases hm:(occ e).1∈fm (occ e).2.1 up
     ·exact h12 _ (hu _ _ (getF_in hm))
     ·rw[getF_out hm]
      unfold occ
      split
      ·exact g1
      ·split
       ·exact g1
       ·decide
    ·exact g1
   ·by_cases h17:e.k=17
    ·rw[<-List.take_append_drop 1 (renF nx e up a).1.names,List.mem_append] at hy
     rcases hy with hy|hy
     ·exact h12 _ (hv _ (bs_own (e:=(renF nx e up a).1) (m:=1) (fun _=>Nat.le_refl _) hy))
     ·rw[<-hlk.labels h17] at hy
      exact g6 y (List.mem_of_mem_drop hy)
    ·exact h12 _ (hv _ (bs_own (e:=(renF nx e up a).1) (m:=(renF nx e up a).1.names.length) (fun q=>absurd (by rw[<-q,ren_k]) h17) (by rw[List.take_of_length_le (Nat.le_refl _)];exact hy)))
   ·have hdv:=(K11 _).1 (hdist y hy)
    obtain ⟨i,hi,rfl⟩:=List.getElem_of_mem hy
    have hi2:i<e.arms.length:=by rw[hlk.arms];exact hi
    have hem:=eqArms_at hlk.arm hi2 hi
    simp only[armF,Bool.and_eq_true,decide_eq_true_eq] at hem
    obtain ⟨k1,k2,_⟩:=g7 e.arms[i] (List.getElem_mem hi2)
    exact ⟨by rw[<-hem.1];exact k1,by omega,fun z hz=>h12 _ (hdv.1 z hz)⟩
end
theorem alpha_wid (a:Ex):∀ (b:Ex) (L M:List Nm),alphaF a b (L.zip M)=true->a.nodes=b.nodes/\a.wid=b.wid:=by
 induction a using Ex.ind with
 |step a ih=>
  intro b L M hab
  obtain ⟨h1,_,h3⟩:=(alpha_iff a b L M).1 hab
  have hm:∀ f:Ex->Nat,(∀ i x y,a.parts[i]?=some x->b.parts[i]?=some y->f x=f y)->a.parts.map f=b.parts.map f:=fun f hf=>by
   refine List.ext_getElem? fun i=>?_
   rw[List.getElem?_map,List.getElem?_map]
   by_cases hi:i<a.parts.length
   ·have hib:i<b.parts.length:=by rw[<-h1.parts];exact hi
    have hx:=List.getElem?_eq_getElem hi
    have hy:=List.getElem?_eq_getElem hib
    rw[hx,hy]
    show some (f _)=some (f _)
    rw[hf i _ _ hx hy]
   ·rw[List.getElem?_eq_none (by omega),List.getElem?_eq_none (by rw[<-h1.parts];omega)]
  have harm:∀ l m:List Ar,eqArms l m=true->(l.map fun x=>x.names.length)=m.map fun x=>x.names.length:=fun l=>by
   induction l with
   |nil=>intro m h;cases m with|nil=>rfl|cons=>cases h
   |cons x l ihl=>
    intro m h
    cases m with
    |nil=>cases h
    |cons y m=>
     have h':(armF x y&&eqArms l m)=true:=h
     simp only[Bool.and_eq_true,armF,decide_eq_true_eq] at h'
     rw[List.map_cons,List.map_cons,ihl m h'.2]
     congr 1;omega
  refine ⟨?_,?_⟩
  ·rw[Ex.nodes_eq,Ex.nodes_eq,hm Ex.nodes fun i x y hx hy=>(ih x (List.mem_of_getElem? hx) y _ _ (h3 i x y hx hy)).1]
  ·rw[Ex.wid_eq,Ex.wid_eq,hm Ex.wid fun i x y hx hy=>(ih x (List.mem_of_getElem? hx) y _ _ (h3 i x y hx hy)).2,harm _ _ h1.arm,h1.names]
theorem bs_len (e:Ex):(bs e).length<=e.wid:=by
 induction e using Ex.ind with
 |step e ih=>
  have hR:∀ xs:List Ar,(∀ x∈xs,(bs x.body).length<=x.body.wid)->(bsR xs (xs.map fun x=>bs x.body)).length<=(xs.map fun x=>x.names.length).sum+(xs.map fun x=>x.body.wid).sum:=fun xs=>by
   induction xs with
   |nil=>intro _;exact Nat.zero_le _
   |cons x xs ihx=>
    intro h
    have h1:=ihx fun y hy=>h y (by simp[hy])
    have h2:=h x (by simp)
    simp only[List.map_cons,bsR,List.length_append,List.length_map,List.sum_cons]
    omega
  have hL:∀ ps:List Ex,(∀ p∈ps,(bs p).length<=p.wid)->((ps.map bs).flatten).length<=(ps.map Ex.wid).sum:=fun ps=>by
   induction ps with
   |nil=>intro _;exact Nat.zero_le _
   |cons p ps ihp=>
    intro h
    have h1:=ihp fun y hy=>h y (by simp[hy])
    have h2:=h p (by simp)
    simp only[List.map_cons,List.flatten_cons,List.length_append,List.sum_cons]
    omega
  have h1:=hR e.arms fun x hx=>ih x.body (by unfold Ex.parts;simp only[List.mem_append,List.mem_map];exact .inr ⟨x,hx,rfl⟩)
  have h2:=hL e.l fun p hp=>ih p (by unfold Ex.parts;simp[hp])
  have h3:(bsN e).length<=e.names.length:=by
   unfold bsN
   split
   ·rw[List.length_map,List.length_take];omega
   ·rw[List.length_map];omega
  rw[bs_eq,Ex.wid_eq]
  unfold Ex.parts
  rw[List.map_append,List.sum_append,List.map_map,List.length_append,List.length_append]
  have h4:(e.arms.map (Ex.wid∘Ar.body)).sum=(e.arms.map fun x=>x.body.wid).sum:=rfl
  omega
theorem bytes_ext {a b:ByteArray} (h:bytes a=bytes b):a=b:=by
 cases a with|mk x=>cases b with|mk y=>
 have:x.toList=y.toList:=h
 congr 1
 exact Array.toList_inj.1 this
theorem bytes_add (a b:ByteArray):bytes (a++b)=bytes a++bytes b:=by
 unfold bytes
 rw[ByteArray.data_append,Array.toList_append]
def ofB (l:List UInt8):ByteArray:=⟨l.toArray⟩
theorem bytes_ofB (l:List UInt8):bytes (ofB l)=l:=rfl
theorem itoa_bytes (n:Nat):bytes (itoa n)=Lib.decDigits n:=by
 show Lib.itoa (n:Int)=_
 unfold Lib.itoa
 rw[if_neg (by omega)];rfl
def digB (c:UInt8):Bool:=byteIs 48 57 c
theorem dig_val {d:Nat} (h:d<10):(UInt8.ofNat (48+d)).toNat=48+d:=by
 rw[UInt8.toNat_ofNat'];omega
theorem dec_digB (u:Nat):∀ c∈Lib.decDigits u,digB c=true:=by
 induction u using Nat.strongRecOn with
 |_ u ih=>
  intro c hc
  rw[Lib.decDigits] at hc
  have hd:∀ d,d<10->digB (UInt8.ofNat (48+d))=true:=fun d h=>by
   unfold digB byteIs
   rw[dig_val h]
   simp only[Bool.and_eq_true,decide_eq_true_eq];omega
  by_cases h:u<10
  ·rw[dif_pos h,List.mem_singleton] at hc
   rw[hc];exact hd u h
  ·rw[dif_neg h] at hc
   rcases List.mem_append.1 hc with hc|hc
   ·exact ih (u / 10) (by omega) c hc
   ·rw[List.mem_singleton] at hc
    rw[hc];exact hd _ (by omega)
theorem dec_ne (u:Nat):Lib.decDigits u≠[]:=by
 rw[Lib.decDigits];split<;>simp
theorem dec_lt {u:Nat} (h:u<10):Lib.decDigits u=[UInt8.ofNat (48+u)]:=by rw[Lib.decDigits,dif_pos h]
theorem dec_ge {u:Nat} (h:¬ u<10):Lib.decDigits u=Lib.decDigits (u / 10)++[UInt8.ofNat (48+u % 10)]:=by conv=>lhs;rw[Lib.decDigits,dif_neg h]
theorem dec_inj (u:Nat):∀ v,Lib.decDigits u=Lib.decDigits v->u=v:=by
 induction u using Nat.strongRecOn with
 |_ u ih=>
  intro v h
  have hv:∀ a b,a<10->b<10->UInt8.ofNat (48+a)=UInt8.ofNat (48+b)->a=b:=fun a b ha hb e=>by
   have:=congrArg UInt8.toNat e
   rw[dig_val ha,dig_val hb] at this;omega
  have h0:∀ w,0<(Lib.decDigits w).length:=fun w=>List.length_pos_iff.2 (dec_ne w)
  by_cases h1:u<10
  ·by_cases h2:v<10
   ·rw[dec_lt h1,dec_lt h2] at h
    exact hv u v h1 h2 (by injection h)
   ·rw[dec_lt h1,dec_ge h2] at h
    have:=congrArg List.length h
    have:=h0 (v / 10)
    simp only[List.length_append,List.length_cons,List.length_nil] at *;omega
  ·by_cases h2:v<10
   ·rw[dec_ge h1,dec_lt h2] at h
    have:=congrArg List.length h
    have:=h0 (u / 10)
    simp only[List.length_append,List.length_cons,List.length_nil] at *;omega
   ·rw[dec_ge h1,dec_ge h2] at h
    obtain ⟨e1,e2⟩:=List.append_inj' h rfl
    have q1:=ih (u / 10) (by omega) (v / 10) e1
    have q2:=hv (u % 10) (v % 10) (by omega) (by omega) (by injection e2)
    omega
theorem dec_len {k u:Nat} (h1:10 ^ k<=u) (h2:u<10 ^ (k+1)):(Lib.decDigits u).length=k+1:=by
 rw[Lib.decDigits_length,Lib.nDigits_unique k u h1 h2]
theorem dec_short (k:Nat):∀ u,u<10 ^ (k+1)->(Lib.decDigits u).length<=k+1:=by
 induction k with
 |zero=>
  intro u h
  rw[Lib.decDigits,dif_pos (by simpa using h)];simp
 |succ k ih=>
  intro u h
  rw[Lib.decDigits]
  split
  ·simp
  ·have:=ih (u / 10) (by rw[Nat.pow_succ] at h;omega)
   simp;omega
open Classical in
noncomputable def firstN (p:Nat->Prop):Nat:=if h:∃ n,p n/\∀ m,m<n->¬ p m then h.choose else 0
theorem firstN_spec {p:Nat->Prop} (h:∃ n,p n):p (firstN p)/\∀ m,m<firstN p->¬ p m:=by
 have h':∃ n,p n/\∀ m,m<n->¬ p m:=by
  obtain ⟨n,hn⟩:=h
  induction n using Nat.strongRecOn with
  |_ n ih=>
   by_cases hm:∃ m,m<n/\p m
   ·obtain ⟨m,h1,h2⟩:=hm
    exact ih m h1 h2
   ·exact ⟨n,hn,fun m h1 h2=>hm ⟨m,h1,h2⟩⟩
 unfold firstN
 rw[dif_pos h']
 exact h'.choose_spec
theorem firstN_le {p:Nat->Prop} {n:Nat} (h:p n):firstN p<=n:=by
 have:=(firstN_spec ⟨n,h⟩).2 n
 by_cases q:n<firstN p
 ·exact absurd h (this q)
 ·omega
theorem pigeon:∀ {l m:List ByteArray},l.Nodup->(∀ x∈l,x∈m)->l.length<=m.length
 |[],_,_,_=>Nat.zero_le _
 |x::l,m,hn,hs=>by
  have hn':=List.nodup_cons.1 hn
  have hx:x∈m:=hs x (by simp)
  obtain ⟨s,r,rfl⟩:=List.append_of_mem hx
  have:=pigeon (l:=l) (m:=s++r) hn'.2 fun y hy=>by
   have hy':=hs y (by simp[hy])
   rw[List.mem_append,List.mem_cons] at hy'
   rw[List.mem_append]
   rcases hy' with q|q|q
   ·exact .inl q
   ·rw[q] at hy;exact absurd hy hn'.1
   ·exact .inr q
  simp only[List.length_append,List.length_cons] at *;omega
theorem free_num (f:Nat->ByteArray) (used:List ByteArray) (lo:Nat) (hi:∀ i j,i<=used.length->j<=used.length->f (lo+i)=f (lo+j)->i=j):∃ i,i<=used.length/\f (lo+i)∉used:=by
 refine Classical.byContradiction fun h=>?_
 have hall:∀ i,i<=used.length->f (lo+i)∈used:=fun i q=>Classical.byContradiction fun q'=>h ⟨i,q,q'⟩
 have:=pigeon (l:=(List.range (used.length+1)).map fun i=>f (lo+i)) (m:=used) ?_ ?_
 ·rw[List.length_map,List.length_range] at this;omega
 ·rw[List.nodup_iff_pairwise_ne,List.pairwise_map]
  refine List.Pairwise.imp_of_mem (fun {a b} ha hb hab q=>hab (hi a b ?_ ?_ q)) List.nodup_range
  ·have:=List.mem_range.1 ha;omega
  ·have:=List.mem_range.1 hb;omega
 ·intro x hx
  obtain ⟨i,hi',rfl⟩:=List.mem_map.1 hx
  exact hall i (by have:=List.mem_range.1 hi';omega)
def nthC (p:ByteArray) (n:Nat):ByteArray:=p++itoa n
theorem nthC_inj {p:ByteArray} {n m:Nat} (h:nthC p n=nthC p m):n=m:=by
 have:=congrArg bytes h
 unfold nthC at this
 rw[bytes_add,bytes_add,itoa_bytes,itoa_bytes] at this
 exact dec_inj n m (List.append_cancel_left this)
noncomputable def nextN (p:ByteArray) (w:List ByteArray) (c:Nat):Nat:=firstN fun n=>c<=n/\nthC p n∉w
theorem nextN_spec (p:ByteArray) (w:List ByteArray) (c:Nat):c<=nextN p w c/\nthC p (nextN p w c)∉w/\∀ n,c<=n->n<nextN p w c->nthC p n∈w:=by
 obtain ⟨i,_,h⟩:=free_num (nthC p) w c fun i j _ _ q=>by have:=nthC_inj q;omega
 obtain ⟨h1,h2⟩:=firstN_spec (p:=fun n=>c<=n/\nthC p n∉w) ⟨c+i,by omega,h⟩
 refine ⟨h1.1,h1.2,fun n q1 q2=>Classical.byContradiction fun q3=>h2 n q2 ⟨q1,q3⟩⟩
def stemN (l:List UInt8):Nat:=(l.reverse.dropWhile digB).length
theorem stemN_dig {l:List UInt8} {c:UInt8} (h:digB c=true):stemN (l++[c])=stemN l:=by simp[stemN,h]
theorem stemN_not {l:List UInt8} {c:UInt8} (h:digB c=false):stemN (l++[c])=l.length+1:=by simp[stemN,h]
theorem stemN_le (l:List UInt8):stemN l<=l.length:=by
 unfold stemN
 have:=(List.dropWhile_sublist digB (l:=l.reverse)).length_le
 simpa using this
def stemB (s:ByteArray):ByteArray:=ofB ((bytes s).take (stemN (bytes s)))
def candB (st:ByteArray) (n:Nat):ByteArray:=ofB ((bytes st).take (12-(itoa n).size))++itoa n
theorem candB_bytes (st:ByteArray) (n:Nat):bytes (candB st n)=(bytes st).take (12-(Lib.decDigits n).length)++Lib.decDigits n:=by
 unfold candB
 rw[bytes_add,bytes_ofB,itoa_bytes,<-A12,itoa_bytes]
theorem candB_inj {st:ByteArray} {n m:Nat} (hl:(Lib.decDigits n).length=(Lib.decDigits m).length) (h:candB st n=candB st m):n=m:=by
 have:=congrArg bytes h
 rw[candB_bytes,candB_bytes,hl] at this
 exact dec_inj n m (List.append_cancel_left this)
theorem candB_free (st:ByteArray) (used:List ByteArray) (k:Nat) (h:used.length<9*10 ^ k):∃ n,10 ^ k<=n/\n<=10 ^ k+used.length/\candB st n∉used:=by
 have hl:∀ i,i<=used.length->(Lib.decDigits (10 ^ k+i)).length=k+1:=fun i hi=>dec_len (by omega) (by rw[Nat.pow_succ];omega)
 obtain ⟨i,h1,h2⟩:=free_num (candB st) used (10 ^ k) fun i j hi hj q=>by
  have:=candB_inj (by rw[hl i hi,hl j hj]) q
  omega
 exact ⟨10 ^ k+i,by omega,by omega,h2⟩
noncomputable def freshM (st:ByteArray) (used:List ByteArray):Nat:=firstN fun n=>candB st n∉used
noncomputable def freshB (base:ByteArray) (used:List ByteArray):ByteArray:=if has used base then candB (stemB base) (freshM (stemB base) used) else base
theorem pow_gt:∀ n:Nat,n<9*10 ^ n
 |0=>by decide
 |n+1=>by
  have:=pow_gt n
  rw[Nat.pow_succ];omega
theorem freshM_spec (st:ByteArray) (used:List ByteArray):candB st (freshM st used)∉used/\∀ m,m<freshM st used->candB st m∈used:=by
 obtain ⟨n,_,_,hn⟩:=candB_free st used used.length (pow_gt _)
 obtain ⟨h1,h2⟩:=firstN_spec (p:=fun n=>candB st n∉used) ⟨n,hn⟩
 exact ⟨h1,fun m hm=>Classical.byContradiction fun q=>h2 m hm q⟩
theorem freshM_le (st:ByteArray) (used:List ByteArray) (h:used.length<=100000000):freshM st used<=200000000:=by
 obtain ⟨n,_,h2,hn⟩:=candB_free st used 8 (by omega)
 have:=firstN_le (p:=fun n=>candB st n∉used) hn
 unfold freshM
 omega
theorem freshB_not (base:ByteArray) (used:List ByteArray):freshB base used∉used:=by
 unfold freshB
 split
 ·exact (freshM_spec _ _).1
 ·rename_i h
  exact fun q=>h ((P11 _ _).2 q)
theorem digB_word {c:UInt8} (h:digB c=true):wordByte c=true:=by
 unfold digB at h
 unfold wordByte
 rw[h];simp
theorem isVar_app {s:ByteArray} {c:UInt8} {cs:List UInt8} {n:Nat} (hb:bytes s=c::cs++Lib.decDigits n) (hc:(byteIs 97 122 c||decide ((c.toNat:Int)=95))=true) (hcs:cs.all wordByte=true) (hl:cs.length+(Lib.decDigits n).length<12):isVar s=true:=by
 have hw:wordByte c=true:=by
  unfold wordByte
  rcases Bool.or_eq_true _ _▸hc with h|h
  ·rw[h];simp
  ·rw[h];simp
 have hd:(Lib.decDigits n).all wordByte=true:=List.all_eq_true.2 fun x hx=>digB_word (dec_digB n x hx)
 unfold isVar
 have h1:word s 97 122 true=true:=by
  unfold word
  rw[hb]
  simp only[List.cons_append,wordHead,Bool.and_eq_true,decide_eq_true_eq,List.length_append,List.all_cons,List.all_append,Bool.true_and]
  exact ⟨⟨by omega,hc⟩,hw,hcs,hd⟩
 have h2:has keywords s=false:=by
  rw[Bool.eq_false_iff]
  intro q
  have hm:=(P11 _ _).1 q
  have hk:∀ x∈keywords,∀ y∈(bytes x).getLast?,digB y=false:=by decide
  have hlast:(bytes s).getLast?=(Lib.decDigits n).getLast?:=by
   rw[hb,List.getLast?_append]
   cases hg:(Lib.decDigits n).getLast? with
   |none=>exact absurd (List.getLast?_eq_none_iff.1 hg) (dec_ne n)
   |some y=>rfl
  cases hg:(Lib.decDigits n).getLast? with
  |none=>exact dec_ne n (List.getLast?_eq_none_iff.1 hg)
  |some y=>
   have:=hk s hm y (by rw[hlast,hg];rfl)
   rw[dec_digB n y (List.mem_of_getLast? hg)] at this;cases this
 rw[h1,h2];rfl
theorem isVar_parts {s:ByteArray} (h:isVar s=true):∃ c cs,bytes s=c::cs/\(byteIs 97 122 c||decide ((c.toNat:Int)=95))=true/\digB c=false/\cs.all wordByte=true/\cs.length<12:=by
 unfold isVar word at h
 simp only[Bool.and_eq_true] at h
 obtain ⟨⟨h1,h2⟩,_⟩:=h
 cases hb:bytes s with
 |nil=>rw[hb] at h1;cases h1
 |cons c cs=>
  rw[hb] at h1 h2
  simp only[wordHead,Bool.and_eq_true,decide_eq_true_eq,List.all_cons,Bool.true_and] at h1 h2
  refine ⟨c,cs,rfl,h1.2,?_,h2.2,h1.1⟩
  have:=h1.2
  simp only[Bool.or_eq_true,byteIs,Bool.and_eq_true,decide_eq_true_eq] at this
  simp only[digB,byteIs,Bool.and_eq_false_iff,decide_eq_false_iff_not]
  omega
theorem stemN_pos (c:UInt8) (hc:digB c=false):∀ (n:Nat) (cs:List UInt8),cs.length=n->1<=stemN (c::cs)
 |0,cs,h=>by
  rw[List.eq_nil_of_length_eq_zero h]
  have:stemN ([]++[c])=0+1:=stemN_not hc
  show 1<=stemN ([]++[c])
  rw[this];exact Nat.le_refl _
 |n+1,cs,h=>by
  have hne:cs≠[]:=fun q=>by rw[q] at h;cases h
  have hcs:=List.dropLast_concat_getLast hne
  rw[<-hcs,<-List.cons_append]
  by_cases hd:digB (cs.getLast hne)=true
  ·rw[stemN_dig hd]
   exact stemN_pos c hc n _ (by rw[List.length_dropLast,h];rfl)
  ·rw[stemN_not (by simpa using hd)];omega
theorem stemB_parts {s:ByteArray} (h:isVar s=true):∃ c cs,bytes (stemB s)=c::cs/\(byteIs 97 122 c||decide ((c.toNat:Int)=95))=true/\cs.all wordByte=true/\cs.length<12:=by
 obtain ⟨c,cs,h1,h2,h3,h4,h5⟩:=isVar_parts h
 have hp:=stemN_pos c h3 cs.length cs rfl
 obtain ⟨m,hm⟩:∃ m,stemN (c::cs)=m+1:=⟨stemN (c::cs)-1,by omega⟩
 refine ⟨c,cs.take m,?_,h2,?_,?_⟩
 ·unfold stemB
  rw[bytes_ofB,h1,hm,List.take_succ_cons]
 ·rw[List.all_eq_true] at h4 ⊢
  exact fun x hx=>h4 x (List.mem_of_mem_take hx)
 ·rw[List.length_take];omega
theorem freshB_var {base:ByteArray} {used:List ByteArray} (hv:isVar base=true) (hl:used.length<=100000000):isVar (freshB base used)=true:=by
 unfold freshB
 split
 ·obtain ⟨c,cs,h1,h2,h3,h4⟩:=stemB_parts hv
  have hm:=freshM_le (stemB base) used hl
  generalize freshM (stemB base) used=n at hm
  have hd:=dec_short 8 n (by omega)
  obtain ⟨m,hm⟩:∃ m,12-(Lib.decDigits n).length=m+1:=⟨11-(Lib.decDigits n).length,by omega⟩
  refine isVar_app (c:=c) (cs:=cs.take m) (n:=n) ?_ h2 ?_ ?_
  ·rw[candB_bytes,h1,hm,List.take_succ_cons]
  ·rw[List.all_eq_true] at h3 ⊢
   exact fun x hx=>h3 x (List.mem_of_mem_take hx)
  ·rw[List.length_take];omega
 ·exact hv
theorem armsF_distinct (h:Bool):∀ (l b:List Ar),armsF h b l=0->∀ x∈l,distinct x.names=0
 |[],_,_,_,hx=>by cases hx
 |a::l,b,hz,x,hx=>by
  unfold armsF at hz
  split at hz
  ·cases hz
  ·split at hz
   ·cases hz
   ·split at hz
    ·rename_i hd
     split at hz
     ·cases hz
     ·rcases List.mem_cons.1 hx with rfl|hx
      ·exact hd
      ·exact armsF_distinct h l _ hz x hx
    ·rename_i hd;exact absurd hz hd
theorem bsR_of {y:ByteArray×Bool}:∀ {xs:List Ar},y∈bsR xs (xs.map fun x=>bs x.body)->∃ x∈xs,y∈x.names.map (·,false)\/y∈bs x.body
 |[],h=>by cases h
 |x::xs,h=>by
  rw[List.map_cons,bsR,List.mem_append,List.mem_append] at h
  rcases h with h|h
  ·exact ⟨x,by simp,h⟩
  ·obtain ⟨z,hz,q⟩:=bsR_of h
   exact ⟨z,by simp[hz],q⟩
theorem M12 {e:Ex} (hn:nodeErr e=0):∀ x∈e.arms,distinct x.names=0:=fun x hx=>by
 obtain ⟨sh,_,_,_,_,hb,_,ha⟩:=(O13 e).1 hn
 by_cases q:sh.Arms=true
 ·have h1:=ha q
  unfold armsErr at h1
  split at h1
  ·exact armsF_distinct _ _ _ ‹_› x hx
  ·rename_i h2;exact absurd h1 h2
 ·have h1:=hb
  unfold nodeBad at h1
  simp only[Bool.or_eq_false_iff,Bool.and_eq_false_iff,decide_eq_false_iff_not] at h1
  rcases h1.1.2 with h2|h2
  ·rw[Bool.not_eq_false'] at h2;exact absurd h2 q
  ·have:e.arms.length=0:=by omega
   rw[List.eq_nil_of_length_eq_zero this] at hx;cases hx
theorem bsN_var {e:Ex} (hn:nodeErr e=0):∀ p∈bsN e,isVar p.1=true:=fun p hp=>by
 obtain ⟨sh,_,_,_,_,hb,hz,_⟩:=(O13 e).1 hn
 unfold namesErr at hz
 unfold bsN at hp
 by_cases h17:e.k=17
 ·rw[if_pos h17] at hz hp
  obtain ⟨y,hy,rfl⟩:=List.mem_map.1 hp
  split at hz
  ·rename_i hd
   exact ((K11 _).1 hd).1 y hy
  ·rename_i hd;exact absurd hz hd
 ·rw[if_neg h17] at hz hp
  obtain ⟨y,hy,rfl⟩:=List.mem_map.1 hp
  exact ((K11 _).1 hz).1 y hy
theorem bs_var (e:Ex):checked e=0->∀ p∈bs e,isVar p.1=true:=by
 induction e using Ex.ind with
 |step e ih=>
  intro hc p hp
  obtain ⟨hn,hps⟩:=(M11 e).1 hc
  rw[bs_eq,List.mem_append,List.mem_append] at hp
  rcases hp with (hp|hp)|hp
  ·exact bsN_var hn p hp
  ·obtain ⟨r,hr,hp⟩:=List.mem_flatten.1 hp
   obtain ⟨x,hx,rfl⟩:=List.mem_map.1 hr
   have hm:x∈e.parts:=by unfold Ex.parts;simp[hx]
   exact ih x hm (hps x hm) p hp
  ·obtain ⟨x,hx,hp⟩:=bsR_of hp
   rcases hp with hp|hp
   ·obtain ⟨y,hy,rfl⟩:=List.mem_map.1 hp
    exact ((K11 _).1 (M12 hn x hx)).1 y hy
   ·have hm:x.body∈e.parts:=by unfold Ex.parts;simp only[List.mem_append,List.mem_map];exact .inr ⟨x,hx,rfl⟩
    exact ih x.body hm (hps _ hm) p hp
section
variable {α:Type} {nx:α->ByteArray->Bool->ByteArray×α} {cnt:α->Nat} {T:Nat}
theorem outs_var (hcnt:∀ a s h,cnt (nx a s h).2=cnt a+1) (hv:∀ a s h,cnt a<T->isVar s=true->isVar (nx a s h).1=true):∀ (l:List (ByteArray×Bool)) (a:α),cnt a+l.length<=T->(∀ p∈l,isVar p.1=true)->∀ p∈outs nx l a,isVar p.1=true
 |[],_,_,_,_,h=>by cases h
 |(s,h)::l,a,hT,hl,p,hp=>by
  rw[List.length_cons] at hT
  rw[outs] at hp
  rcases List.mem_cons.1 hp with rfl|hp
  ·exact hv a s h (by omega) (hl (s,h) (by simp))
  ·exact outs_var hcnt hv l _ (by rw[hcnt];omega) (fun q hq=>hl q (by simp[hq])) p hp
theorem Nice.good {Us:α->Bool->ByteArray->Prop} (N:Nice nx Us) (hcnt:∀ a s h,cnt (nx a s h).2=cnt a+1) (hv:∀ a s h,cnt a<T->isVar s=true->isVar (nx a s h).1=true) {e:Ex} (hc:checked e=0) (hf:Fit e) {a:α} (hT:cnt a+e.wid<=T) (hfr:∀ h x,FI h x e->Us a h x) :
  alphaF e (renF nx e [] a).1 []=true/\checked (renF nx e [] a).1=0/\Fit (renF nx e [] a).1/\(renF nx e [] a).1.nodes=e.nodes/\(renF nx e [] a).1.wid=e.wid:=by
 have h1:alphaF e (renF nx e [] a).1 (([]:List Nm).zip [])=true:=N.alpha e [] a [] [] trivial (fun _=>rfl) (fun _=>rfl) (fun _=>List.nodup_nil) (fun _ _ h=>by cases h) fun h x hx _=>⟨hfr h x hx,by simp[tt]⟩
 have h2:=N.noErr e [] a hc hf (fun _ _ h=>by cases h) (fun p hp=>by
  rw[(ren_bs nx e [] a).1] at hp
  exact outs_var hcnt hv (bs e) a (by have:=bs_len e;omega) (bs_var e hc) p hp)
 have h3:=alpha_wid e _ [] [] h1
 exact ⟨h1,h2.1,h2.2,h3.1.symm,h3.2.symm⟩
end
def letter (h:Bool):ByteArray:=if h then ⟨#[104]⟩ else ⟨#[118]⟩
def skips (p:ByteArray) (w:List ByteArray) (n:Nat):Nat:=((List.range n).filter fun i=>has w (nthC p i)).length
theorem skips_succ (p:ByteArray) (w:List ByteArray) (n:Nat):skips p w (n+1)=skips p w n+if has w (nthC p n) then 1 else 0:=by
 unfold skips
 rw[List.range_succ,List.filter_append,List.length_append]
 congr 1
 rw[List.filter_cons]
 split<;>rfl
theorem skips_le (p:ByteArray) (w:List ByteArray) (n:Nat):skips p w n<=w.length:=by
 unfold skips
 rw[<-List.length_map (f:=nthC p)]
 refine pigeon ?_ fun x hx=>?_
 ·rw[List.nodup_iff_pairwise_ne,List.pairwise_map]
  refine List.Pairwise.imp (fun {a b} q e=>q (nthC_inj e)) (List.nodup_range.sublist List.filter_sublist)
 ·obtain ⟨i,hi,rfl⟩:=List.mem_map.1 hx
  exact (P11 _ _).1 (List.mem_filter.1 hi).2
def CS (F:Bool->List ByteArray):Type:={ a:(Bool->Nat)×Nat // ∀ h,a.1 h<=a.2+skips (letter h) (F h) (a.1 h) }
def CS.zero (F:Bool->List ByteArray):CS F:=⟨(fun _=>0,0),fun h=>Nat.zero_le _⟩
def CS.num {F:Bool->List ByteArray} (a:CS F) (h:Bool):Nat:=a.1.1 h
def CS.cnt {F:Bool->List ByteArray} (a:CS F):Nat:=a.1.2
theorem CS.le {F:Bool->List ByteArray} (a:CS F) (h:Bool):a.num h<=a.cnt+(F h).length:=Nat.le_trans (a.2 h) (Nat.add_le_add_left (skips_le _ _ _) _)
noncomputable def CS.step {F:Bool->List ByteArray} (a:CS F) (h:Bool):CS F:=
 ⟨(fun q=>if q=h then nextN (letter h) (F h) (a.num h)+1 else a.num q,a.cnt+1),fun q=>by
  show (if q=h then nextN (letter h) (F h) (a.num h)+1 else a.num q)<=a.cnt+1+skips (letter q) (F q) (if q=h then nextN (letter h) (F h) (a.num h)+1 else a.num q)
  by_cases e:q=h
  ·rw[if_pos e,e]
   obtain ⟨s1,_,s3⟩:=nextN_spec (letter h) (F h) (a.num h)
   have key:∀ d,a.num h+d<=nextN (letter h) (F h) (a.num h)->a.num h+d<=a.cnt+skips (letter h) (F h) (a.num h+d):=fun d=>by
    induction d with
    |zero=>intro _;exact a.2 h
    |succ d ih=>
     intro hd
     have h1:=ih (by omega)
     have h2:=s3 (a.num h+d) (by omega) (by omega)
     rw[<-Nat.add_assoc,skips_succ,if_pos ((P11 _ _).2 h2)];omega
   have h1:=key (nextN (letter h) (F h) (a.num h)-a.num h) (by omega)
   rw[show a.num h+(nextN (letter h) (F h) (a.num h)-a.num h)=nextN (letter h) (F h) (a.num h) by omega] at h1
   rw[skips_succ];omega
  ·rw[if_neg e]
   have:a.num q<=a.cnt+skips (letter q) (F q) (a.num q):=a.2 q
   omega⟩
noncomputable def nxC (F:Bool->List ByteArray) (a:CS F) (s:ByteArray) (h:Bool):ByteArray×CS F:=(nthC (letter h) (nextN (letter h) (F h) (a.num h)),a.step h)
theorem CS.step_num {F:Bool->List ByteArray} (a:CS F) (h q:Bool):(a.step h).num q=if q=h then nextN (letter h) (F h) (a.num h)+1 else a.num q:=rfl
theorem nxC_cnt (F:Bool->List ByteArray) (a:CS F) (s:ByteArray) (h:Bool):(nxC F a s h).2.cnt=a.cnt+1:=rfl
theorem nxC_le (F:Bool->List ByteArray) (a:CS F) (h:Bool):nextN (letter h) (F h) (a.num h)<=a.cnt+(F h).length:=by
 have:=(a.step h).le h
 rw[CS.step_num,if_pos rfl] at this
 have h2:(a.step h).cnt=a.cnt+1:=rfl
 omega
theorem nxC_nice (F:Bool->List ByteArray):Nice (nxC F) fun a h x=>x∈F h\/∃ n,n<a.num h/\x=nthC (letter h) n:=by
 refine ⟨fun a s h q=>?_,fun a s h q x hx=>?_,fun a s h=>?_⟩
 ·obtain ⟨s1,s2,_⟩:=nextN_spec (letter h) (F h) (a.num h)
  rcases q with q|⟨n,hn,e⟩
  ·exact s2 q
  ·have:=nthC_inj (show nthC (letter h) _=nthC (letter h) n from e)
   omega
 ·rcases hx with hx|⟨n,hn,e⟩
  ·exact .inl hx
  ·refine .inr ⟨n,?_,e⟩
   show n<(a.step h).num q
   rw[CS.step_num]
   split
   ·rename_i h1
    obtain ⟨s1,_,_⟩:=nextN_spec (letter h) (F h) (a.num h)
    rw[h1] at hn;omega
   ·exact hn
 ·refine .inr ⟨nextN (letter h) (F h) (a.num h),?_,rfl⟩
  show _<(a.step h).num h
  rw[CS.step_num,if_pos rfl];omega
theorem nxC_var {F:Bool->List ByteArray} (hF:∀ h,(F h).length<=1000000000) (a:CS F) (s:ByteArray) (h:Bool) (hc:a.cnt<1000000000):isVar (nxC F a s h).1=true:=by
 have hn:=nxC_le F a h
 have:=hF h
 have hd:=dec_short 9 (nextN (letter h) (F h) (a.num h)) (by omega)
 show isVar (nthC (letter h) _)=true
 cases h with
 |true=>exact isVar_app (c:=104) (cs:=[]) (by rw[nthC,bytes_add,itoa_bytes];rfl) (by decide) rfl (by simp;omega)
 |false=>exact isVar_app (c:=118) (cs:=[]) (by rw[nthC,bytes_add,itoa_bytes];rfl) (by decide) rfl (by simp;omega)
def FH (e:Ex) (h:Bool):List ByteArray:=if h then handlersOf e else freeOf e
theorem FH_mem {e:Ex} (hc:checked e=0) (h:Bool) (x:ByteArray):x∈FH e h↔FI h x e:=by
 cases h with
 |true=>exact handlersOf_mem x e hc
 |false=>exact freeOf_mem x e hc
theorem FH_len (e:Ex) (h:Bool):(FH e h).length<=e.nodes:=by
 cases h with
 |true=>exact handlersOf_len e
 |false=>exact freeOf_len e
noncomputable def canonG (F:Bool->List ByteArray) (e:Ex):Ex:=(renF (nxC F) e [] (CS.zero F)).1
noncomputable def canonF (e:Ex):Ex:=canonG (FH e) e
theorem canon_good {e:Ex} (he:Okk e):alphaF e (canonF e) []=true/\checked (canonF e)=0/\Fit (canonF e)/\(canonF e).nodes=e.nodes/\(canonF e).wid=e.wid:=by
 have hb:=bnd_lt
 obtain ⟨h1,h2,h3,h4⟩:=he
 refine (nxC_nice (FH e)).good (cnt:=CS.cnt) (T:=1000000000) (nxC_cnt (FH e)) (fun a s h hc _=>nxC_var (fun h=>Nat.le_trans (FH_len e h) (by omega)) a s h hc) h2 h1 (show 0+e.wid<=_ by omega) fun h x hx=>.inl ((FH_mem h2 h x).2 hx)
abbrev GS:=Bool->List ByteArray
noncomputable def pickU (E l:List ByteArray) (s:ByteArray):ByteArray:=if has l s then freshB s (l++E) else s
noncomputable def nxU (E:List ByteArray) (a:GS) (s:ByteArray) (h:Bool):ByteArray×GS:=(pickU E (a h) s,fun q=>if q=h then a h++[pickU E (a h) s] else a q)
theorem pickU_not (E l:List ByteArray) (s:ByteArray):pickU E l s∉l:=by
 unfold pickU
 split
 ·exact fun q=>freshB_not s (l++E) (List.mem_append_left _ q)
 ·rename_i h
  exact fun q=>h ((P11 _ _).2 q)
def GS.cnt (a:GS):Nat:=(a false).length+(a true).length
theorem nxU_cnt (E:List ByteArray) (a:GS) (s:ByteArray) (h:Bool):GS.cnt (nxU E a s h).2=GS.cnt a+1:=by
 unfold GS.cnt nxU
 cases h<;>simp<;>omega
theorem nxU_nice (E:List ByteArray):Nice (nxU E) fun a h x=>x∈a h:=by
 refine ⟨fun a s h=>pickU_not E (a h) s,fun a s h q x hx=>?_,fun a s h=>?_⟩
 ·show x∈(if q=h then a h++[pickU E (a h) s] else a q)
  split
  ·rename_i e
   rw[<-e];exact List.mem_append_left _ hx
  ·exact hx
 ·show pickU E (a h) s∈(if h=h then a h++[pickU E (a h) s] else a h)
  rw[if_pos rfl];simp
theorem nxU_var {E:List ByteArray} (hE:E.length<=20000000) (a:GS) (s:ByteArray) (h:Bool) (hc:GS.cnt a<60000000) (hs:isVar s=true):isVar (nxU E a s h).1=true:=by
 show isVar (pickU E (a h) s)=true
 unfold pickU
 split
 ·refine freshB_var hs ?_
  rw[List.length_append]
  unfold GS.cnt at hc
  cases h<;>omega
 ·exact hs
noncomputable def uniqG (E:List ByteArray) (e:Ex):Ex:=(renF (nxU E) e [] (freeK e)).1
theorem freeK_nodup (e:Ex) (h:Bool):(freeK e h).Nodup:=walk_nodup h e [] [] List.nodup_nil
theorem freeK_le {e:Ex} (hc:checked e=0) (h:Bool):(freeK e h).length<=e.nodes:=
 Nat.le_trans (pigeon (freeK_nodup e h) fun x hx=>(FH_mem hc h x).2 ((freeK_mem e h x).1 hx)) (FH_len e h)
theorem uniq_good {E:List ByteArray} (hE:E.length<=20000000) {e:Ex} (he:Okk e):alphaF e (uniqG E e) []=true/\checked (uniqG E e)=0/\Fit (uniqG E e)/\(uniqG E e).nodes=e.nodes/\(uniqG E e).wid=e.wid:=by
 obtain ⟨h1,h2,h3,h4⟩:=he
 have f1:=freeK_le h2 false
 have f2:=freeK_le h2 true
 have hb:bnd=16777216:=rfl
 refine (nxU_nice E).good (cnt:=GS.cnt) (T:=60000000) (nxU_cnt E) (fun a s h hc hs=>nxU_var hE a s h hc hs) h2 h1 (show (freeK e false).length+(freeK e true).length+e.wid<=_ by omega) fun h x hx=>(freeK_mem e h x).2 hx
end Go.V
