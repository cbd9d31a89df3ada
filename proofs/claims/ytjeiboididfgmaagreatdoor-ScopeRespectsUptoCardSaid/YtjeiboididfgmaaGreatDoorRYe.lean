/- An evaluator for closed runs: operations. No condition. -/
import Derived.Test.YtjeiboididfgmaaGreatDoorRYg
set_option linter.unusedVariables false
set_option linter.unusedSimpArgs false
namespace Go.V
open Go
def HS.F (hs:HS):Nat->Prop:=fun k=>hs.n<=k/\k<hs.m
def HS.W (hs:HS):Nat->Prop:=fun k=>hs.ro<=k/\k<hs.rm
structure HS.Same (hs hs':HS):Prop where
 m:hs'.m=hs.m
 lv:hs'.lv=hs.lv
 ro:hs'.ro=hs.ro
 rm:hs'.rm=hs.rm
theorem HS.Same.refl (hs:HS):hs.Same hs:=⟨rfl,rfl,rfl,rfl⟩
theorem HS.Same.trans {a b c:HS} (h:a.Same b) (h':b.Same c):a.Same c:=⟨h'.m.trans h.m,h'.lv.trans h.lv,h'.ro.trans h.ro,h'.rm.trans h.rm⟩
theorem HS.room_F {hs:HS} (h:hs.room=true):hs.F hs.n:=⟨Nat.le_refl _,by unfold HS.room at h;simpa using h⟩
theorem HS.may_W {hs:HS} {k:Nat} (h:hs.may k=true):hs.W k:=by
 unfold HS.may at h
 simp only[Bool.and_eq_true] at h
 exact ⟨by simpa using h.1,by simpa using h.2⟩
theorem HS.push_F {hs:HS} {o:EObj}:∀ k,(hs.push o).F k->hs.F k/\k≠hs.n:=by
 rintro k ⟨h1,h2⟩
 simp only[HS.push] at h1 h2
 exact ⟨⟨by omega,h2⟩,by omega⟩
abbrev HK (hs hs':HS) (R:NR) (H:HM) (v:AV) (K:ARes->HM->Prop):Prop:=∀ R' H' v',Post hs.W R R' hs.F hs'.F hs.h hs'.h H H'->RelX R' hs'.F hs'.h H'->Ren R' v v'->hs.Same hs'->K (.ret v') H'
def SoundCall (C:Cfg) (ih:XTask->Option TOut):Prop:=∀ fv args hs v hs',ih (.call fv args hs)=some (.call v hs')->∀ (R:NR) (H:HM) (fv':AV) (args':List AV) (K:ARes->HM->Prop),
 RelX R hs.F hs.h H->Ren R fv fv'->RenL R args args'->HK hs hs' R H v K->CallV C.P C.G fv' args' H K
section
variable {C:Cfg} {ih:XTask->Option TOut} {ρ ρ':Operand->AV} {hs hs':HS} {o:Oper} {v:AV} {R:NR} {H:HM} {K:ARes->HM->Prop}
theorem vfast_vval (P:Program) (ρ:Operand->AV) (H:HM) (o:Oper):vfast P ρ H o=vval P ρ H o:=by
 unfold vfast
 split
 ·rename_i x h;simp only[vval,h]
 ·rename_i x h;simp only[vval,h]
 ·rename_i c a b h;simp only[vval,h]
  generalize ρ c=x
  cases x<;>first|rfl|(rename_i v;cases v<;>rfl)
 ·rename_i t x h;simp only[vval,h]
  generalize tiOf P t=a;generalize cellsAt H (ρ x)=b
  cases a<;>cases b<;>rfl
 ·rename_i x h;simp only[vval,h]
  generalize ρ x=a
  cases a<;>rfl
 ·rename_i op t x y t2 h;simp only[vval,h]
 ·rename_i op t x h;simp only[vval,h]
  generalize ρ x=a
  cases op<;>cases a<;>first|rfl|(rename_i v;cases v<;>rfl)
 ·rename_i s d x h;simp only[vval,h]
  generalize ρ x=a;generalize tdAt P s=b;generalize tdAt P d=c
  cases b<;>first|rfl|(cases c<;>first|rfl|(rename_i c;cases c<;>first|rfl|(cases a<;>first|rfl|(rename_i v;cases v<;>rfl))))
 ·rename_i t x i h;simp only[vval,h]
  generalize ρ x=a;generalize (tiOf P t).bind (fieldOf · i)=b
  cases b<;>first|rfl|(rename_i b;obtain ⟨b1,b2,b3⟩:=b;cases a<;>rfl)
 ·rename_i t x i h;simp only[vval,h]
  generalize ρ x=a;generalize (tiOf P t).bind (fieldOf · i)=b
  cases b<;>first|rfl|(rename_i b;obtain ⟨b1,b2,b3⟩:=b;cases b3<;>cases a<;>rfl)
 ·rename_i t x i h;simp only[vval,h]
  generalize ρ x=a;generalize ρ i=b;generalize tdAt P t=c
  cases c<;>first|rfl|(rename_i c;cases c<;>first|rfl|(cases a<;>first|rfl|(cases b<;>first|rfl|(rename_i v;cases v<;>rfl))))
 ·rename_i t x i h;simp only[vval,h]
  generalize ρ x=a;generalize ρ i=b;generalize tdAt P t=c
  cases c<;>first|rfl|(rename_i c;cases c<;>first|rfl|(cases a<;>first|rfl|(rename_i v;cases v<;>first|rfl|(cases b<;>first|rfl|(rename_i v;cases v<;>rfl)))))
 ·rename_i t x k ok h;simp only[vval,h]
  generalize tdAt P t=a;generalize entriesOf H (ρ x)=b;generalize keyOf (ρ k)=c
  cases a<;>first|rfl|(rename_i a;cases a<;>first|rfl|(cases b<;>first|rfl|(cases c<;>rfl)))
 ·rename_i x i h;simp only[vval,h]
  generalize ρ x=a
  cases a<;>rfl
 ·rename_i t parts h;simp only[vval,h]
  generalize tiOf P t=a
  cases a<;>first|rfl|(rename_i a;unfold vbld;simp only)
 ·rfl
theorem nl_ren {a a':AV} (h:Ren R a a'):Ren R (nl a) (nl a'):=by
 cases h<;>simp only[nl]
 case val v=>exact .val v
 case agg h=>exact .agg h
 case tup h=>exact .tup h
 case list h=>exact .list h
 case ref h=>exact .ref h
 case addr off h=>exact .addr off h
 case elem i sz off h=>exact .elem i sz off h
 case nil0=>exact .list .nil
 case mlist n c0 h=>exact .mlist n c0 h
 case map h=>exact .map h
 case imap h1 h2=>exact .imap h1 h2
 case func hf h1 h2=>exact .func hf h1 h2
 case iface h=>exact .iface h
theorem nodup_one {u:Value} {v v':AV} (hu:sameKeyV u u=true):∀ {es:List (AV×AV)},nodupK es=true->(.val u,v)∈es->(.val u,v')∈es->v=v'
 |[],_,h,_=>by cases h
 |(k,x)::es,hn,h1,h2=>by
  cases k<;>simp only[nodupK] at hn<;>try (cases hn;done)
  rename_i kk
  simp only[Bool.and_eq_true] at hn
  have hall:∀ y,(.val u,y)∈es->kk≠u:=by
   intro y hy e
   subst e
   have:=List.all_eq_true.1 hn.1.2 _ hy
   simp[hu] at this
  rcases List.mem_cons.1 h1 with e1|e1<;>rcases List.mem_cons.1 h2 with e2|e2
  ·cases e1;cases e2;rfl
  ·cases e1;exact absurd rfl (hall _ e2)
  ·cases e2;exact absurd rfl (hall _ e1)
  ·exact nodup_one hu hn.2 e1 e2
theorem assoc_mem {k:Value} {v:AV}:∀ {es:List (AV×AV)},assoc k es=some v->∃ u,(.val u,v)∈es/\sameKeyV k u=true
 |[],h=>by cases h
 |(a,x)::es,h=>by
  cases a<;>simp only[assoc] at h
  case val u=>
   split at h
   ·cases h;exact ⟨u,by simp,by assumption⟩
   ·obtain ⟨u',h1,h2⟩:=assoc_mem h;exact ⟨u',by simp[h1],h2⟩
  all_goals (obtain ⟨u',h1,h2⟩:=assoc_mem h;exact ⟨u',by simp[h1],h2⟩)
theorem assoc_none {k:Value}:∀ {es:List (AV×AV)},assoc k es=none->∀ u v,(.val u,v)∈es->sameKeyV k u=false
 |[],_,_,_,h=>by cases h
 |(a,x)::es,h,u,v,hm=>by
  rcases List.mem_cons.1 hm with e|e
  ·cases e
   simp only[assoc] at h
   split at h
   ·cases h
   ·rename_i hs;simpa using hs
  ·cases a<;>simp only[assoc] at h
   case val u'=>
    split at h
    ·cases h
    ·exact assoc_none h u v e
   all_goals exact assoc_none h u v e
theorem assoc_perm {k:Value} {d:TD} {es es1:List (AV×AV)} (hp:es1.Perm es) (hn:nodupK es1=true) (hk:keyFits d k=true) (hok:keysOk d es=true):assoc k es1=assoc k es:=by
 have fits:∀ u v,(.val u,v)∈es->keyFits d u=true:=fun u v h=>by
  have:=List.all_eq_true.1 hok _ h
  simpa using this
 cases h:assoc k es with
 |none=>
  cases h1:assoc k es1 with
  |none=>rfl
  |some v=>
   obtain ⟨u,hm,hs⟩:=assoc_mem h1
   have:=assoc_none h u v (hp.mem_iff.1 hm)
   rw[hs] at this;cases this
 |some v=>
  obtain ⟨u,hm,hs⟩:=assoc_mem h
  obtain rfl:=(sameKeyV_eq hk (fits u v hm)).1 hs
  cases h1:assoc k es1 with
  |none=>
   have:=assoc_none h1 k v (hp.mem_iff.2 hm)
   rw[hs] at this;cases this
  |some v'=>
   obtain ⟨u',hm',hs'⟩:=assoc_mem h1
   obtain rfl:=(sameKeyV_eq hk (fits u' v' (hp.mem_iff.1 hm'))).1 hs'
   rw[nodup_one hs hn hm' (hp.mem_iff.2 hm)]
theorem keysOk_perm {d:TD} {es es1:List (AV×AV)} (hp:es1.Perm es) (hok:keysOk d es=true):keysOk d es1=true:=by
 unfold keysOk at *
 rw[List.all_eq_true] at *
 exact fun e he=>hok e (hp.mem_iff.1 he)
theorem xpure_sound (hx:xpure C ρ hs o=some (v,hs')) (hr:RelH R 0 hs.h H) (hρ:∀ x,Ren R (ρ x) (ρ' x)):hs'=hs/\∃ v',Ren R v v'/\VQuiet C.P C.G ρ' H o v':=by
 unfold xpure at hx
 split at hx
 ·rename_i hp
  split at hx
  ·rename_i w hw
   cases hx
   refine ⟨rfl,?_⟩
   rw[vfast_vval] at hw
   by_cases hsl:∃ t x lo hi mx,o.op=.slice t x lo hi mx
   ·obtain ⟨t,x,lo,hi,mx,e⟩:=hsl
    have e2:opnds o.op ρ=fun y=>nl (ρ y):=by rw[e];rfl
    rw[e2] at hw
    obtain ⟨v',h1,h2⟩:=vval_ren (ρ':=fun y=>nl (ρ' y)) hr (fun x=>nl_ren (hρ x)) hp hw
    exact ⟨v',h2,fun K hk=>VX.nl (vval_quiet h1 K hk)⟩
   ·have e2:opnds o.op ρ=ρ:=by
     unfold opnds
     split
     ·exact absurd ⟨_,_,_,_,_,‹_›⟩ hsl
     ·rfl
    rw[e2] at hw
    obtain ⟨v',h1,h2⟩:=vval_ren hr hρ hp hw
    exact ⟨v',h2,vval_quiet h1⟩
  ·unfold cut0 at hx
   split at hx<;>try (cases hx;done)
   ·rename_i t x hi mx hop
    split at hx<;>cases hx
    rename_i h1 h2 h3 h4
    have r2:=hρ x
    have r3:=hρ hi
    have r4:=hρ mx
    rw[h2] at r2;rw[h3] at r3;rw[h4] at r4
    generalize hq:ρ' x=q at r2
    cases r2 with
    |mlist n c0 hb=>exact ⟨rfl,.nil0,.nil0,fun K hk=>VX_slice0 hop h1 hq r3.val_inv r4.val_inv hk⟩
   ·rename_i t x hi hop
    split at hx<;>try (cases hx;done)
    rename_i e sz k m cp kk i h1 h2 h3
    split at hx<;>try (cases hx;done)
    rename_i t2 sz2 g xs hm0
    split at hx<;>cases hx
    rename_i hc
    have r2:=hρ x
    have r3:=hρ hi
    rw[h2] at r2;rw[h3] at r3
    generalize hq:ρ' x=q at r2
    cases r2 with
    |mlist n c0 hb=>
     obtain ⟨xs',e1,e2⟩:=hr.row hm0 hb
     exact ⟨rfl,_,.mlist _ _ hb,fun K hk=>VX_slicepre hop h1 hq r3.val_inv e1 hc.1 (by rw[e2.length];exact hc.2) hk⟩
   ·rename_i t x k ok hop
    split at hx<;>try (cases hx;done)
    rename_i b hb0
    split at hx<;>try (cases hx;done)
    rename_i es hpm
    split at hx<;>cases hx
    rename_i hw
    have r2:=hρ x
    rw[hb0] at r2
    refine ⟨rfl,?_⟩
    generalize hq:ρ' x=q at r2
    cases r2 with
    |@map _ b2 c2 hb=>
     obtain ⟨o',hH,es1,es',hperm,hnd,rfl,hk1,hv1⟩:=hr.at hpm hb
     simp only[vval,hop,hb0] at hw
     have hent:entriesOf (hm ((b,.ob (.map es))::hs.h)) (.map b)=some es:=by
      have:hm ((b,.ob (.map es))::hs.h) b=some (.map es):=by
       unfold hm;simp only[hget];rw[if_pos (Nat.beq_refl b)]
      simp only[entriesOf,this]
     rw[hent] at hw
     have hent':entriesOf H (.map b2)=some es':=by simp only[entriesOf,hH]
     split at hw<;>try (cases hw;done)
     rename_i kt et es2 key e1 e2 e3
     cases e2
     split at hw<;>try (cases hw;done)
     rename_i kd ei g1 g2
     split at hw<;>try (cases hw;done)
     rename_i hc
     simp only[Bool.and_eq_true] at hc
     have hap:=assoc_perm hperm hnd hc.1 hc.2
     obtain ⟨a1,a2⟩:=assoc_ren (key:=key) hk1 hv1
     have hval:∃ v',vval C.P ρ' H o=some v'/\Ren R v v':=by
      simp only[vval,hop,hq,hent',e1,keyOf_ren (hρ k) e3,g1,g2]
      rw[if_pos (by simp only[Bool.and_eq_true];exact ⟨hc.1,keysOk_ren hk1 (keysOk_perm hperm hc.2)⟩)]
      rw[<-hap] at hw
      split at hw
      ·rename_i u ea
       obtain ⟨u',b1,b2⟩:=a1 _ ea
       cases hw
       simp only[b1]
       refine ⟨_,rfl,?_⟩
       split
       ·exact .tup (.cons b2 (.cons (.val _) .nil))
       ·exact b2
      ·rename_i ea
       cases hw
       simp only[a2 ea]
       refine ⟨_,rfl,?_⟩
       split
       ·exact .tup (.cons (ren_zero g2) (.cons (.val _) .nil))
       ·exact ren_zero g2
     obtain ⟨v',h1,h2⟩:=hval
     exact ⟨v',h2,vval_quiet h1⟩
   ·rename_i t x lo hop
    split at hx<;>try (cases hx;done)
    rename_i e sz k m cp kk i h1 h2 h3
    split at hx<;>cases hx
    rename_i hc
    have r2:=hρ x
    have r3:=hρ lo
    rw[h2] at r2;rw[h3] at r3
    generalize hq:ρ' x=q at r2
    cases r2 with
    |mlist n c0 hb=>exact ⟨rfl,.list [],.list .nil,fun K hk=>VX_slicesuf hop h1 hq r3.val_inv hc hk⟩
 ·cases hx
theorem xslice_ren {t len:Nat} {parts:Array (Nat×Operand)} (hx:xslice C.P ρ t len parts=some v) (hρ:∀ x,Ren R (ρ x) (ρ' x)) :
  ∃ e sz,tdAt C.P t=some (.slice e sz)/\((len=0/\parts.toList=[]/\v=.nil0)\/(len≠0/\(parts.toList.map (·.1)=List.range len/\(∀ p∈parts.toList,(ρ' p.2).cells.length=sz/\(ρ' p.2).one=true)/\sz≠0/\len*sz<=16777216 /\
   (tiOf C.P e).isSome=true)/\v=.list (parts.toList.map fun p=>ρ p.2))):=by
 unfold xslice at hx
 split at hx
 ·rename_i e sz ht
  refine ⟨e,sz,ht,?_⟩
  split at hx
  ·rename_i hl
   split at hx
   ·rename_i hp;cases hx;exact .inl ⟨hl,hp,rfl⟩
   ·cases hx
  ·rename_i hl
   split at hx
   ·rename_i hc;cases hx
    exact .inr ⟨hl,⟨hc.1,fun p hp=>by rw[(hρ _).clen,(hρ _).one];exact hc.2.1 p hp,hc.2.2⟩,rfl⟩
   ·cases hx
 ·cases hx
theorem srcOf_ren (hr:RelH R 0 hs.h H) {x x':AV} {ys:List AV} (hx:Ren R x x') (h:srcOf (hm hs.h) x=some ys):∃ ys',srcOf H x'=some ys'/\RenL R ys ys':=by
 cases hx<;>simp only[srcOf] at h<;>try (cases h;done)
 case list h'=>cases h;exact ⟨_,rfl,h'⟩
 case nil0=>cases h;exact ⟨[],rfl,.nil⟩
 case mlist b b' c n c0 hb=>
  split at h
  ·rename_i em
   split at h
   ·rename_i hc
    cases h
    obtain ⟨xs',e1,e2⟩:=hr.row em hb
    refine ⟨xs',?_,e2⟩
    simp only[srcOf,e1,e2.length,hc.1,true_and,if_true]
   ·cases h
  ·cases h
theorem txOk_to {x:Option TD} (h:txOk x=true):(match (generalizing:=false) x with|some (.int _)=>False|some .other=>False|some _=>True|none=>False):=by
 unfold txOk at h
 split at h
 ·cases h
 ·cases h
 ·cases h
 ·cases x with
  |none=>simp_all
  |some d=>cases d<;>simp_all
theorem xapp_sound {ts tx:Nat} {s x:Operand} (hop:o.op=.call ⟨.builtin .append,#[s,x],#[ts,tx]⟩) (hx:xapp C.P ts tx (ρ s) (ρ x) hs=some (v,hs')) (hr:RelX R hs.F hs.h H) (hs1:Ren R (ρ s) (ρ' s)) (hx1:Ren R (ρ x) (ρ' x)) (hk:HK hs hs' R H v K) :
  VX C.P C.G ρ' H o K:=by
 unfold xapp at hx
 split at hx<;>try (cases hx;done)
 rename_i e sz htd
 split at hx<;>try (cases hx;done)
 rename_i htx
 split at hx<;>try (cases hx;done)
 rename_i ei ys hei hys
 split at hx<;>try (cases hx;done)
 rename_i hc
 obtain ⟨ys',hys',hyr⟩:=srcOf_ren hr.toRelH hx1 hys
 have hc2:=hyr.clen hc.2
 have hlen:=hyr.length
 have goal:vappend C.P H ts tx (ρ' s) (ρ' x) K->VX C.P C.G ρ' H o K:=fun h=>by
  refine I11 (M:=[]) ?_
  unfold vx;simp only[hop]
  have:isImm [] o.dst=false:=by unfold isImm;split<;>simp
  rw[this];exact h
 split at hx
 ·-- to nil
  rename_i hsn
  rw[hsn] at hs1
  have hsn':ρ' s=.nil0:=by generalize ρ' s=q at hs1;cases hs1;rfl
  split at hx
  ·cases hx
   cases hyr
   exact VX_app0 hop htd htx hei hc.1 hsn' hys' (hk _ _ _ .refl hr .nil0 (.refl _))
  ·rename_i hne
   split at hx<;>cases hx
   rename_i hl
   refine goal ?_
   rw[hsn']
   unfold vappend
   simp only[htd,hei,hys']
   refine ⟨txOk_to htx,hc.1,hc2,by omega,fun h0=>?_,fun b cap hb hcap=>?_⟩
   ·subst h0
    cases hyr
    exact absurd rfl hne
   ·obtain ⟨e1,e2⟩:=hr.push (W:=hs.W) (HS.room_F hl.2) (HS.push_F (o:=.ob (.row e sz hs.n ys))) (c:=cap) (o:=.ob (.row e sz hs.n ys)) (o':=.row e sz cap ys') hb ⟨_,rfl,hyr.mono ext_sub⟩ rfl
    refine hk _ _ _ e2 e1 ?_ ⟨rfl,rfl,rfl,rfl⟩
    rw[<-hlen]
    exact .mlist _ _ (.inr ⟨rfl,rfl,rfl⟩)
 ·-- to a row of one's own
  rename_i k m cc hsn
  rw[hsn] at hs1
  generalize hq:ρ' s=q at hs1
  cases hs1 with
  |@mlist _ b c _ _ hb=>
   split at hx<;>try (cases hx;done)
   rename_i e' sz' g xs hm0
   split at hx<;>cases hx
   rename_i hcc
   obtain ⟨hro,hroom,rfl,rfl,rfl,hnot,hl⟩:=hcc
   obtain ⟨xs',hH,hxr⟩:=hr.toRelH.row hm0 hb
   have hxl:=hxr.length
   refine goal ?_
   rw[hq]
   unfold vappend
   simp only[htd,hei,hys',hH]
   refine ⟨txOk_to htx,hc.1,hc2,by trivial,by trivial,by trivial,hxl.symm,?_,by omega,fun b' cap' hb' hcap=>?_⟩
   ·intro e
    rw[e] at hx1
    generalize hxq:ρ x=xq at *
    cases hx1 with
    |@mlist k2 _ _ n2 c2 hb2=>
     simp only[srcOf] at hys
     split at hys
     ·rename_i hm2
      have:k2=k:=hr.inj _ _ _ _ _ _ _ (U12 hm2) (U12 hm0) hb2 hb
      subst this
      simp[notAt] at hnot
     ·cases hys
   ·obtain ⟨e1,e2⟩:=hr.grow (W:=hs.W) (F':=fun k=>hs.n+1<=k/\k<hs.m) (HS.room_F hroom) (fun k hk=>⟨⟨by omega,hk.2⟩,by omega⟩) (o2:=.ob (.row e sz g (xs++ys))) (o':=.row e sz cap' (xs'++ys')) (U12 hm0) hb (HS.may_W hro) hb' ⟨_,rfl,(hxr.append hyr).mono ext_sub⟩ rfl
    refine hk _ _ _ e2 e1 ?_ ⟨rfl,rfl,rfl,rfl⟩
    have:(xs'++ys').length=(xs++ys).length:=by simp[hxl,hlen]
    rw[this]
    exact .mlist _ _ (.inr ⟨rfl,rfl,rfl⟩)
 ·cases hx
theorem xcopy_sound {d x:Operand} {td tx:Nat} (hop':o.op=.call ⟨.builtin .copy,#[d,x],#[td,tx]⟩) (hx:xcopy C.P td (ρ d) (ρ x) hs=some (v,hs')) (hr:RelX R hs.F hs.h H) (hd:Ren R (ρ d) (ρ' d)) (hxx:Ren R (ρ x) (ρ' x)) (hk:HK hs hs' R H v K) :
  VX C.P C.G ρ' H o K:=by
 unfold xcopy at hx
 split at hx<;>try (cases hx;done)
 rename_i e sz htd
 split at hx
 ·rename_i h1
  split at hx<;>cases hx
  rename_i ys hys
  rw[h1] at hd
  obtain ⟨ys',e1,_⟩:=srcOf_ren hr.toRelH hxx hys
  refine VX_copy0 hop' htd (.inl ?_) ⟨ys',e1⟩ (hk _ _ _ .refl hr (.val _) (.refl _))
  generalize ρ' d=q at hd
  cases hd;rfl
 ·rename_i h1
  split at hx<;>cases hx
  rename_i ys hys
  rw[h1] at hd
  obtain ⟨ys',e1,_⟩:=srcOf_ren hr.toRelH hxx hys
  refine VX_copy0 hop' htd (.inr ?_) ⟨ys',e1⟩ (hk _ _ _ .refl hr (.val _) (.refl _))
  generalize ρ' d=q at hd
  cases hd with|list h=>cases h;rfl
 ·rename_i k m cp k2 m2 cp2 h1 h2
  rw[h1] at hd;rw[h2] at hxx
  split at hx<;>try (cases hx;done)
  rename_i e' sz' g xs e2 sz2 g2 ys hm0 hm2
  split at hx<;>cases hx
  rename_i hc
  obtain ⟨c1,cne,rfl,rfl,rfl,c2,c3⟩:=hc
  generalize hqd:ρ' d=q at hd
  generalize hqx:ρ' x=q2 at hxx
  cases hd with
  |mlist n c0 hb=>cases hxx with
   |mlist n2 c02 hb2=>
    obtain ⟨xs',e1,f1⟩:=hr.toRelH.row hm0 hb
    obtain ⟨ys',e2,f2⟩:=hr.toRelH.row hm2 hb2
    refine VX_copyM hop' htd hqd hqx e1 e2 ?_ f1.length.symm f2.length.symm (by rw[f1.length,f2.length];exact c2) (f2.clen c3) ?_
    ·intro e
     subst e
     exact cne (hr.inj _ _ _ _ _ _ _ (U12 hm2) (U12 hm0) hb2 hb)
    ·obtain ⟨g1,g2⟩:=hr.put (W:=hs.W) (o2:=.ob (.row e' sz g (ys.take xs.length))) (o':=.row e' sz _ (List.take xs.length _)) (U12 hm0) hb (HS.may_W c1) ⟨_,rfl,f2.take _⟩ rfl
     exact hk _ _ _ g2 g1 (.val _) ⟨rfl,rfl,rfl,rfl⟩
 ·rename_i k m cp ys h1 h2
  refine I11 (M:=[]) ?_
  unfold vx;simp only[hop']
  rw[h1] at hd;rw[h2] at hxx
  split at hx<;>try (cases hx;done)
  rename_i e' sz' g xs hm0
  split at hx<;>cases hx
  rename_i hc
  obtain ⟨c1,rfl,rfl,c2,c3⟩:=hc
  generalize ρ' d=q at hd
  generalize ρ' x=q2 at hxx
  cases hd with
  |mlist n c0 hb=>cases hxx with
   |list hyr=>
    obtain ⟨xs',e1,e2⟩:=hr.toRelH.row hm0 hb
    simp only[vcopy,htd,e1]
    refine ⟨by trivial,e2.length.symm,by rw[e2.length,hyr.length];exact c2,hyr.clen c3,?_⟩
    obtain ⟨g1,g2⟩:=hr.put (W:=hs.W) (o2:=.ob (.row e' sz g (ys.take xs.length))) (o':=.row e' sz _ (List.take xs.length _)) (U12 hm0) hb (HS.may_W c1) ⟨_,rfl,hyr.take _⟩ rfl
    exact hk _ _ _ g2 g1 (.val _) ⟨rfl,rfl,rfl,rfl⟩
 ·cases hx
end
end Go.V
