/- The program's scope: with. No condition. The program's scope: with, its result by value; lists of parts that grow; duplicate. No condition. The program's scope: duplicate. No condition. Nodes with other names and other parts; renaming one name: plain. No condition. The program's scope: rename. No condition. The program's scope: slot.name, slot.renamed. No condition. -/
import Derived.Test.YtjeiboididfgmaaGreatDoorRK
import Derived.Test.YtjeiboididfgmaaGreatDoorRYd
import Derived.Test.YtjeiboididfgmaaGreatDoorRH
import Derived.Test.YtjeiboididfgmaaGreatDoorRL
set_option linter.unusedVariables false
set_option linter.unusedSimpArgs false
set_option linter.defProp false
set_option maxRecDepth 100000
namespace Go.V
open Go Go.Proofs.Tryz
theorem CallF.conv {P:Program} {G:GT} {H:HM} {f:FuncId} {args:List AV} {K K':ARes->HM->Prop} (h:CallF P G f args H K') (hc:∀ v H',K' (.ret v) H'->∃ v' H1,Drop H' H1/\View G H' H1 v v'/\K (.ret v') H1) (hp:∀ v H',¬ K' (.pan v) H'):CallF P G f args H K:=by
 intro w vs h1 h2
 refine CallsIn.mono (h w vs h1 h2) fun e w' he=>?_
 cases e with
 |returned v=>
  obtain ⟨a,H',k,r,st,ev⟩:=he
  obtain ⟨v',H1,d,vw,k'⟩:=hc a H' k
  exact ⟨v',H1,k',vw _ _ st r,st.drop d,ev.drop d⟩
 |panicked c=>
  obtain ⟨v,_,a,H',k,_⟩:=he
  exact absurd k (hp a H')
 |outgrown=>exact he.elim
def armV (x:Ar) (v:AV) (y:Ex):AV:=.agg [.str x.op,v,.int y.k,.int y.n,.str y.s,.str y.t,.list (strs y.names),.list (exs y.l),.list (ars y.arms)]
theorem armV_list (x:Ar) (y:Ex):armV x (.list (strs x.names)) y=(Ar.mk x.op x.names y).av:=by
 unfold armV
 rw[ar_fold,ex_eta]
theorem armV_eta (x:Ar):armV x (.list (strs x.names)) x.body=x.av:=by rw[armV_list,ar_eta]
theorem armV_cells (x:Ar) (v:AV) (y:Ex):(armV x v y).cells=[.str x.op,v,.int y.k,.int y.n,.str y.s,.str y.t,.list (strs y.names),.list (exs y.l),.list (ars y.arms)]:=rfl
theorem put_body (x:Ar) (v:AV) (z y:Ex):elemPut (armV x v z) 2 y.av 9=some (armV x v y):=by
 unfold elemPut
 rw[if_neg (by simp)]
 show (if 2+y.av.cells.length<=(9:Nat) then some (AV.agg (splice [.str x.op,v,.int z.k,.int z.n,.str z.s,.str z.t,.list (strs z.names),.list (exs z.l),.list (ars z.arms)] 2 y.av.cells)) else none)=_
 rw[C10];rfl
theorem put_names (x:Ar) (v v':AV) (y:Ex) (hv:v'.cells=[v']):elemPut (armV x v y) 1 v' 9=some (armV x v' y):=by
 unfold elemPut
 rw[if_neg (by simp),hv];rfl
def armsV (n:Nat) (ls:List Ex) (j:Nat) (vJ:AV):Nat->List Ar->List AV
 |_,[]=>[]
 |i,x::xs=>armV x (if i=j then vJ else .list (strs x.names)) (ls.getD (n+i) x.body)::armsV n ls j vJ (i+1) xs
theorem B13 (n:Nat) (ls:List Ex) (j:Nat) (vJ:AV):∀ (i:Nat) (xs:List Ar),(armsV n ls j vJ i xs).length=xs.length
 |_,[]=>rfl
 |i,x::xs=>by rw[armsV,List.length_cons,List.length_cons,B13 n ls j vJ]
theorem armsV_snoc (n:Nat) (ls:List Ex) (j:Nat) (vJ:AV) (x:Ar):∀ (xs:List Ar) (i:Nat),armsV n ls j vJ i (xs++[x])=armsV n ls j vJ i xs++[armV x (if i+xs.length=j then vJ else .list (strs x.names)) (ls.getD (n+(i+xs.length)) x.body)]
 |[],i=>rfl
 |y::xs,i=>by
  rw[List.cons_append,armsV,armsV_snoc n ls j vJ x xs (i+1),armsV,List.cons_append,List.length_cons]
  rw[show i+1+xs.length=i+(xs.length+1) by omega]
theorem armsV_far (n:Nat) (ls:List Ex) (j:Nat) (v v':AV):∀ (xs:List Ar) (i:Nat),i+xs.length<=j->armsV n ls j v i xs=armsV n ls j v' i xs
 |[],_,_=>rfl
 |x::xs,i,h=>by
  rw[List.length_cons] at h
  rw[armsV,armsV,armsV_far n ls j v v' xs (i+1) (by omega),if_neg (by omega),if_neg (by omega)]
def curW (e:Ex) (n:Nat) (ls:List Ex) (j:Nat) (vJ:AV) (k:Nat):List AV:=armsV n ls j vJ 0 (e.arms.take k)++ars (e.arms.drop k)
theorem curW_len (e:Ex) (n:Nat) (ls:List Ex) (j:Nat) (vJ:AV) (k:Nat):(curW e n ls j vJ k).length=e.arms.length:=by
 unfold curW
 rw[List.length_append,B13,U11,List.length_take,List.length_drop];omega
theorem curW_at (e:Ex) (n:Nat) (ls:List Ex) (j:Nat) (vJ:AV) {k:Nat} (hk:k<e.arms.length):(curW e n ls j vJ k)[k]?=some e.arms[k].av:=by
 unfold curW
 rw[List.getElem?_append_right (by rw[B13,List.length_take];omega),B13,List.length_take,show k-min k e.arms.length=0 by omega,ars,List.getElem?_map,List.getElem?_drop,Nat.add_zero,List.getElem?_eq_getElem hk];rfl
theorem curW_succ (e:Ex) (n:Nat) (ls:List Ex) (j:Nat) (vJ v':AV) {k:Nat} (hk:k<e.arms.length) (hj:k≠j->vJ=v') (hjj:k=j->True) :
  curW e n ls j v' (k+1)=(curW e n ls j vJ k).set k (armV e.arms[k] (if k=j then v' else .list (strs e.arms[k].names)) (ls.getD (n+k) e.arms[k].body)):=by
 have hl:(armsV n ls j vJ 0 (e.arms.take k)).length=k:=by rw[B13,List.length_take];omega
 have hlk:(e.arms.take k).length=k:=by rw[List.length_take];omega
 unfold curW
 rw[List.take_succ_eq_append_getElem hk,armsV_snoc,hlk,Nat.zero_add,List.set_append_right _ _ (by omega),hl,Nat.sub_self,W11 hk]
 have he:armsV n ls j v' 0 (e.arms.take k)=armsV n ls j vJ 0 (e.arms.take k):=by
  by_cases q:k=j
  ·exact armsV_far _ _ _ _ _ _ _ (by rw[hlk];omega)
  ·rw[hj q]
 rw[he]
 show _++_++_=_++((_::ars _).set 0 _)
 rw[List.set_cons_zero,List.append_assoc];rfl
theorem curW_end (e:Ex) (n:Nat) (ls:List Ex) (j:Nat) (vJ:AV):curW e n ls j vJ e.arms.length=armsV n ls j vJ 0 e.arms:=by
 unfold curW
 rw[List.take_of_length_le (Nat.le_refl _),List.drop_of_length_le (Nat.le_refl _)]
 exact List.append_nil _
structure W0 (H:HM) (b2 r:Nat) (cs:List AV) (Hc:HM):Prop where
 f2:H b2=none
 fr:H r=none
 n2:r≠b2
 h2:Hc b2=some (.cells 27 cs)
 rr:Hc r=some (.cells 27 zc)
 rest:∀ b,H b≠none->Hc b=H b
theorem W0.nn {H:HM} {b2 r:Nat} {cs:List AV} {Hc:HM} (w:W0 H b2 r cs Hc):∀ b,Hc b=none->H b=none:=fun b h=>by
 cases q:H b with
 |none=>rfl
 |some o=>rw[w.rest b (by rw[q];simp),q] at h;cases h
theorem W0.out {H:HM} {b2 r:Nat} {cs:List AV} {Hc Hd:HM} {v:AV} {e sz:Nat} {xs:List AV} (w:W0 H b2 r cs Hc) (h:OutX Hc Hd v e sz xs):W0 H b2 r cs Hd:=
 ⟨w.f2,w.fr,w.n2,h.get w.h2,h.get w.rr,fun b hb=>by
  obtain ⟨o,ho⟩:=Option.ne_none_iff_exists'.1 hb
  have:=w.rest b hb
  rw[ho] at this ⊢
  exact h.get this⟩
theorem W0.set {H:HM} {b2 r:Nat} {cs:List AV} {Hc:HM} (w:W0 H b2 r cs Hc) (cs':List AV):W0 H b2 r cs' (Hc.upd b2 (.cells 27 cs')):=
 ⟨w.f2,w.fr,w.n2,HM.upd_same _ _ _,by rw[HM.upd_ne _ _ w.n2];exact w.rr,fun b hb=>by
  rw[HM.upd_ne _ _ (fun q=>hb (by rw[q];exact w.f2))];exact w.rest b hb⟩
theorem W0.row {H:HM} {b2 r:Nat} {cs:List AV} {Hc:HM} (w:W0 H b2 r cs Hc) {b et sz cap:Nat} {ys:List AV} (hb:Hc b=some (.row et sz cap ys)) (hn:H b=none) (o:AObj):W0 H b2 r cs (Hc.upd b o):=by
 have n1:b2≠b:=fun q=>by rw[<-q,w.h2] at hb;cases hb
 have n3:r≠b:=fun q=>by rw[<-q,w.rr] at hb;cases hb
 exact ⟨w.f2,w.fr,w.n2,by rw[HM.upd_ne _ _ n1];exact w.h2,by rw[HM.upd_ne _ _ n3];exact w.rr,fun b' hb'=>by
  rw[HM.upd_ne _ _ (fun q=>hb' (by rw[q];exact hn))];exact w.rest b' hb'⟩
theorem Sl.out {H Hc Hd:HM} {v x:AV} {e sz e' sz':Nat} {ys xs:List AV} (h:Sl H Hc v e sz ys) (ho:OutX Hc Hd x e' sz' xs):Sl H Hd v e sz ys:=
 h.keep fun b cap h1 _=>by rw[ho.get h1,h1]
theorem Sl.cell {H Hc:HM} {v:AV} {e sz:Nat} {ys:List AV} {b et:Nat} {cs:List AV} {o:AObj} (h:Sl H Hc v e sz ys) (hb:Hc b=some (.cells et cs)):Sl H (Hc.upd b o) v e sz ys:=
 h.other (.inr fun cap ys q=>by rw[hb] at q;cases q)
theorem Sl.rowne {H Hc:HM} {v:AV} {e sz e' sz' cap:Nat} {ys xs:List AV} {b:Nat} {o:AObj} (h:Sl H Hc v e sz ys) (hb:Hc b=some (.row e' sz' cap xs)) (hn:e≠e'):Sl H (Hc.upd b o) v e sz ys:=
 h.other (.inr fun cap ys q=>by rw[hb] at q;injection q with q;injection q with q;exact hn q.symm)
theorem vcopy_sl {H Hc:HM} {b2 r:Nat} {cs:List AV} {v:AV} {xs ls:List Ex} {K:ARes->HM->Prop} (w:W0 H b2 r cs Hc) (hs:Sl H Hc v 27 7 (exs xs)) (hl:xs.length<=ls.length)
  (hk:∀ Hd,W0 H b2 r cs Hd->Sl H Hd v 27 7 (exs (ls.take xs.length))->(∀ {v':AV} {e sz:Nat} {ys:List AV},e≠27->Sl H Hc v' e sz ys->Sl H Hd v' e sz ys)->K (.ret (.int xs.length)) Hd):vcopy prog Hc 24 v (.list (exs ls)) K:=by
 unfold vcopy
 rw[td24]
 rcases hs with ⟨h1,rfl⟩|⟨b,cap,rfl,h2,h3⟩
 ·have h0:xs.length=0:=by rw[<-Z10,h1];rfl
  have:=hk Hc w (.inl ⟨by rw[h0];rfl,rfl⟩) (fun _ h=>h)
  rw[h0] at this
  exact this
 ·simp only[h2]
  refine ⟨trivial,trivial,by rw[Z10,Z10];exact hl,exs_sz _,?_⟩
  rw[Z10]
  have he:(exs ls).take xs.length=exs (ls.take xs.length):=by unfold exs;rw[List.map_take]
  rw[he]
  refine hk _ (w.row h2 h3 _) (.inr ⟨b,cap,?_,HM.upd_same _ _ _,h3⟩) (fun hn h=>h.rowne h2 hn)
  rw[Z10,Z10,List.length_take]
  rw[Nat.min_eq_left hl]
structure WO (H:HM) (e:Ex) (L:List Ex) (A:List AV) (nJ:List ByteArray) (vN vL vA vJ:AV) (Hc:HM):Prop where
 sN:Sl H Hc vN 9 1 (strs e.names)
 sL:Sl H Hc vL 27 7 (exs L)
 sA:Sl H Hc vA 85 9 A
 sJ:Sl H Hc vJ 9 1 (strs nJ)
 rest:∀ b,H b≠none->Hc b=H b
 nNJ:∀ b n c b' n' c',vN=.mlist b n c->vJ=.mlist b' n' c'->b≠b'
section
variable {G:GT} {H:HM}
theorem put_body0 (x:Ar) (y:Ex):elemPut x.av 2 y.av 9=some (armV x (.list (strs x.names)) y):=by
 conv=>lhs;rw[<-armV_eta x]
 exact put_body x _ _ y
theorem cloneS_pure (x:AV) (ys:List ByteArray) (hs:∀ H:HM,srcOf H x=some (strs ys)) (hl:ys.length<=lim):PureF prog G 123 [x] H (.list (strs ys)):=by
 refine ⟨by kernel_rfl,fun K hk=>?_⟩
 refine CallF.conv (cloneS_c (K:=fun r H'=>∃ v,r=.ret v/\OutX H H' v 9 1 (strs ys)) (hs H) hl fun v H' h=>⟨v,rfl,h⟩) (fun v H' hv=>?_) (fun v H' hv=>by obtain ⟨_,h,_⟩:=hv;cases h)
 obtain ⟨v',h1,h2⟩:=hv
 cases h1
 exact ⟨_,H,h2.out.drop,h2.out.view (by rw[O10];exact hl),hk⟩
theorem with_c (e:Ex) (hf:fit1 e) (ls:List Ex) (hls:ls.length=e.parts.length) (j:Nat):CallF prog G 116 [e.av,.list (exs ls)] H fun r' Hc=>∃ vN vL vA vJ,r'=.ret (.agg [.int e.k,.int e.n,.str e.s,.str e.t,vN,vL,vA]) /\
  WO H e (ls.take e.l.length) (armsV e.l.length ls j vJ 0 e.arms) (if j<e.arms.length then (e.arms.getD j (.mk emp [] zeroEx)).names else []) vN vL vA vJ Hc:=by
 obtain ⟨_,_,hnl,hll,hal,hns,hars⟩:=hf
 have hbb:bnd=16777216:=rfl
 have hlim:50000000<=lim:=by decide
 have hpl:=Z11 e
 refine A11 (fn:=f116) func116 rfl (by kernel_rfl) (Nat.le_of_ble_eq_true (by kernel_rfl)) ?_
 refine A10 [2] fun N E hN hE=>?_
 simp +decide only[ZS,↓reduceIte,Nat.reduceAdd]
 refine F10 fun b2 hb2=>?_
 simp +decide only[ZS,↓reduceIte,Nat.reduceAdd]
 refine F10 fun r hr0=>?_
 obtain ⟨hrb,hr⟩:=G11 hr0
 simp +decide only[ZS,↓reduceIte,Nat.reduceAdd]
 refine hN _ ?_
 clear hN hE N E
 have w:W0 H b2 r [.int e.k,.int e.n,.str e.s,.str e.t,.list (strs e.names),.list (exs e.l),.list (ars e.arms)] ((H.upd b2 (.cells 27 [.int e.k,.int e.n,.str e.s,.str e.t,.list (strs e.names),.list (exs e.l),.list (ars e.arms)])).upd r (.cells 27 zc)):=
  ⟨hb2,hr,hrb,by rw[HM.upd_ne _ _ (Ne.symm hrb),HM.upd_same],HM.upd_same _ _ _,fun b hb=>by
   rw[HM.upd_ne _ _ (fun q=>hb (by rw[q];exact hr)),HM.upd_ne _ _ (fun q=>hb (by rw[q];exact hb2))]⟩
 show VW prog G f116.ntmps none _ _ ⟨_,(H.upd b2 (.cells 27 [.int e.k,.int e.n,.str e.s,.str e.t,.list (strs e.names),.list (exs e.l),.list (ars e.arms)])).upd r (.cells 27 zc),_⟩
 generalize (H.upd b2 (.cells 27 [.int e.k,.int e.n,.str e.s,.str e.t,.list (strs e.names),.list (exs e.l),.list (ars e.arms)])).upd r (.cells 27 zc)=H1 at *
 clear hr0
 refine A10 [] fun N E hN hE=>?_
 simp +decide only[ZS,↓reduceIte,Nat.reduceAdd,w.h2]
 refine W10 (by kernel_rfl) (cloneE_c (src_list _) (by omega) fun vL Ha xL=>?_)
 rw[M10]
 have wa:=w.out xL
 simp +decide only[ZS,↓reduceIte,Nat.reduceAdd,wa.h2,xL.one.1,xL.one.2]
 refine hN _ ?_
 clear hN hE N E
 have w2:=wa.set [.int e.k,.int e.n,.str e.s,.str e.t,.list (strs e.names),vL,.list (ars e.arms)]
 have sL:=(xL.sl w.nn).cell (o:=.cells 27 [.int e.k,.int e.n,.str e.s,.str e.t,.list (strs e.names),vL,.list (ars e.arms)]) wa.h2
 generalize Ha.upd b2 (.cells 27 [.int e.k,.int e.n,.str e.s,.str e.t,.list (strs e.names),vL,.list (ars e.arms)])=H2 at *
 refine A10 [] fun N E hN hE=>?_
 simp +decide only[ZS,↓reduceIte,Nat.reduceAdd,w2.h2]
 refine W10 (by kernel_rfl) (cloneA_c (src_list _) (by omega) fun vA Hb xA=>?_)
 rw[M10]
 have wb:=w2.out xA
 simp +decide only[ZS,↓reduceIte,Nat.reduceAdd,wb.h2,xA.one.1,xA.one.2]
 refine hN _ ?_
 clear hN hE N E
 have w3:=wb.set [.int e.k,.int e.n,.str e.s,.str e.t,.list (strs e.names),vL,vA]
 have sL3:=(sL.out xA).cell (o:=.cells 27 [.int e.k,.int e.n,.str e.s,.str e.t,.list (strs e.names),vL,vA]) wb.h2
 have sA3:=(xA.sl w2.nn).cell (o:=.cells 27 [.int e.k,.int e.n,.str e.s,.str e.t,.list (strs e.names),vL,vA]) wb.h2
 generalize Hb.upd b2 (.cells 27 [.int e.k,.int e.n,.str e.s,.str e.t,.list (strs e.names),vL,vA])=H3 at *
 refine A10 [] fun N E hN hE=>?_
 simp +decide only[ZS,↓reduceIte,Nat.reduceAdd,w3.h2]
 refine W10 (by kernel_rfl) (cloneS_c (src_list _) (by omega) fun vN Hc xN=>?_)
 rw[M10]
 have wc:=w3.out xN
 simp +decide only[ZS,↓reduceIte,Nat.reduceAdd,wc.h2,xN.one.1,xN.one.2]
 refine hN _ ?_
 clear hN hE N E
 have w4:=wc.set [.int e.k,.int e.n,.str e.s,.str e.t,vN,vL,vA]
 have sL4:=(sL3.out xN).cell (o:=.cells 27 [.int e.k,.int e.n,.str e.s,.str e.t,vN,vL,vA]) wc.h2
 have sA4:=(sA3.out xN).cell (o:=.cells 27 [.int e.k,.int e.n,.str e.s,.str e.t,vN,vL,vA]) wc.h2
 have sN4:=(xN.sl w3.nn).cell (o:=.cells 27 [.int e.k,.int e.n,.str e.s,.str e.t,vN,vL,vA]) wc.h2
 generalize Hc.upd b2 (.cells 27 [.int e.k,.int e.n,.str e.s,.str e.t,vN,vL,vA])=H4 at *
 clear w wa w2 wb w3 wc sL sL3 sA3 xL xA xN Ha Hb Hc H1 H2 H3
 refine A10 [] fun N E hN hE=>?_
 simp +decide only[ZS,↓reduceIte,Nat.reduceAdd,w4.h2]
 refine vcopy_sl w4 sL4 (by omega) fun H5 w5 sL5 keep=>?_
 have sA5:=keep (by decide) sA4
 have sN5:=keep (by decide) sN4
 clear keep w4 sL4 sA4 sN4
 rw[M10]
 simp +decide only[ZS,↓reduceIte,Nat.reduceAdd]
 refine hN _ ?_
 clear hN hE N E
 refine I10 (A10 [] fun N E hN hE=>?_)
 simp +decide only[ZS,↓reduceIte,Nat.reduceAdd,w5.h2,sA5.len,U11]
 refine hN _ ?_
 clear hN hE N E
 obtain ⟨n,hn⟩:∃ n,e.l.length=n:=⟨_,rfl⟩
 rw[hn] at hpl hll sL5 ⊢
 obtain ⟨nJ,hnJ⟩:∃ nJ:Nat->List ByteArray,nJ=fun k=>if j<k then (e.arms.getD j (.mk emp [] zeroEx)).names else []:=⟨_,rfl⟩
 refine J10 ?_
 refine C11 (fun (k:Nat) s'=>k<=e.arms.length/\s'.tmps 1=.list (exs ls)/\s'.tmps 2=.addr b2 0/\s'.tmps 4=.addr r 0/\s'.tmps 5=.int n/\s'.tmps 25=.int e.arms.length/\s'.tmps 26=.int k/\s'.defs=[] /\
  ∃ vJ,W0 H b2 r [.int e.k,.int e.n,.str e.s,.str e.t,vN,vL,vA] s'.H/\Sl H s'.H vN 9 1 (strs e.names)/\Sl H s'.H vL 27 7 (exs (ls.take n))/\Sl H s'.H vA 85 9 (curW e n ls j vJ k)/\Sl H s'.H vJ 9 1 (strs (nJ k))/\(∀ b n c b' n' c',vN=.mlist b n c->vJ=.mlist b' n' c'->b≠b')) (fun k=>e.arms.length-k) 0 ?_ ?_
 ·refine ⟨Nat.zero_le _,rfl,rfl,rfl,rfl,rfl,rfl,rfl,.nil0,w5,sN5,sL5,sA5,.inl ⟨?_,rfl⟩,fun _ _ _ _ _ _ _ h=>by cases h⟩
  rw[hnJ];rfl
 clear w5 sN5 sL5 sA5 H4
 rintro k ⟨tm,Hc,ds⟩ ⟨hk1,v1,v2,v4,v5,v25,v26,hds,vJ,w,sN,sL,sA,sJ,hd⟩
 obtain rfl:ds=[]:=hds
 simp only at w sN sL sA sJ
 refine B10 1 _ v1 (B10 2 _ v2 (B10 4 _ v4 (B10 5 _ v5 (B10 25 _ v25 (B10 26 _ v26 ?_)))))
 refine A10 [] fun N E hN hE=>?_
 simp +decide only[ZS,↓reduceIte,Nat.reduceAdd]
 refine hN _ ?_
 clear hN hE N E
 refine I10 (T10 rfl (fun hc=>?_) (fun hc=>?_))
 ·have hlt:k<e.arms.length:=by have:=of_decide_eq_true hc;omega
  have hnk:n+k<ls.length:=by omega
  obtain ⟨bA,cA,rfl,hbA,hfA⟩:∃ b cap,vA=.mlist b e.arms.length cap/\Hc b=some (.row 85 9 cap (curW e n ls j vJ k))/\H b=none:=by
   rcases sA with ⟨h,_⟩|⟨b,cap,h1,h2,h3⟩
   ·have:(curW e n ls j vJ k).length=0:=by rw[h];rfl
    rw[curW_len] at this;omega
   ·exact ⟨b,cap,by rw[h1,curW_len],h2,h3⟩
  have hat:=curW_at e n ls j vJ hlt
  have hel:(exs ls)[n+k]?=some (ls.getD (n+k) e.arms[k].body).av:=by
   rw[exs,List.getElem?_map,List.getD_eq_getElem?_getD,List.getElem?_eq_getElem hnk];rfl
  have hsucc:=fun v' (h:k≠j->vJ=v')=>curW_succ e n ls j vJ v' hlt h (fun _=>trivial)
  obtain ⟨_,hxn,hxs⟩:=hars e.arms[k] (List.getElem_mem hlt)
  have hgj:k=j->(e.arms.getD j (.mk emp [] zeroEx))=e.arms[k]:=fun q=>by
   rw[<-q,List.getD_eq_getElem?_getD,List.getElem?_eq_getElem hlt];rfl
  have hki:((k:Int)<(e.arms.length:Int))=True:=eq_true (by omega)
  have hw:IntKind.i64.wrap ((n:Int)+(k:Int))=((n+k:Nat):Int):=by rw[wrap64]<;>omega
  have w4:=w.h2
  generalize ls.getD (n+k) e.arms[k].body=y at *
  generalize e.arms[k]=x at *
  refine G10 ?_
  refine I10 (J10 ?_)
  refine A10 [] fun N E hN hE=>?_
  simp +decide only[ZS,↓reduceIte,Nat.reduceAdd]
  refine hN _ ?_
  clear hN hE N E
  refine' VW_mix [] [0,1,2,3,4,5,6,7,8] (.one 9 false (.one 10 false (.one 11 false .fin))) (fun H'=>H' b2=some (.cells 27 [.int e.k,.int e.n,.str e.s,.str e.t,vN,vL,.mlist bA e.arms.length cA])) (by kernel_rfl) (by kernel_rfl) (w4) (fun H' N hp hN=>?_) ?_
  rotate_left 1
  ·simp only[opsAt,List.drop,List.take,List.cons_append,List.nil_append]
   simp +decide only[ZS,QS,↓reduceIte,Nat.reduceAdd,hp,hw,hel,nat0,Int.toNat_natCast]
   exact hN
  refine U10 fun N hN=>?_
  simp only[List.drop,List.take]
  simp +decide only[ZS,↓reduceIte,Nat.reduceAdd,hki,nat0,Int.toNat_natCast]
  refine hN _ ⟨fun h=>(by cases h),?_⟩
  clear hN N
  refine U10 fun N hN=>?_
  simp only[List.drop,List.take]
  simp +decide only[ZS,↓reduceIte,Nat.reduceAdd]
  refine hN _ ⟨fun h=>(by cases h),?_⟩
  clear hN N
  refine U10 fun N hN=>?_
  simp only[List.drop,List.take]
  simp +decide only[ZS,↓reduceIte,Nat.reduceAdd,Y11 (hb:=hbA) (hx:=hat),put_body0]
  refine hN _ ⟨fun h=>(by cases h),O12 ?_⟩
  clear hN N
  have hne2:b2≠bA:=fun q=>by rw[<-q,w4] at hbA;cases hbA
  have w':=w.row hbA hfA (.row 85 9 cA ((curW e n ls j vJ k).set k (armV x (.list (strs x.names)) y)))
  have sN':=sN.rowne (o:=.row 85 9 cA ((curW e n ls j vJ k).set k (armV x (.list (strs x.names)) y))) hbA (by decide)
  have sL':=sL.rowne (o:=.row 85 9 cA ((curW e n ls j vJ k).set k (armV x (.list (strs x.names)) y))) hbA (by decide)
  have sJ':=sJ.rowne (o:=.row 85 9 cA ((curW e n ls j vJ k).set k (armV x (.list (strs x.names)) y))) hbA (by decide)
  have hbS:(Hc.upd bA (.row 85 9 cA ((curW e n ls j vJ k).set k (armV x (.list (strs x.names)) y)))) bA=some (.row 85 9 cA ((curW e n ls j vJ k).set k (armV x (.list (strs x.names)) y))):=HM.upd_same _ _ _
  have hlS:((curW e n ls j vJ k).set k (armV x (.list (strs x.names)) y)).length=e.arms.length:=by rw[List.length_set,curW_len]
  have hatS:((curW e n ls j vJ k).set k (armV x (.list (strs x.names)) y))[k]?=some (armV x (.list (strs x.names)) y):=List.getElem?_set_self (by rw[curW_len];exact hlt)
  have hset:∀ z,((curW e n ls j vJ k).set k (armV x (.list (strs x.names)) y)).set k z=(curW e n ls j vJ k).set k z   := fun z=>List.set_set ..
  generalize Hc.upd bA (.row 85 9 cA ((curW e n ls j vJ k).set k (armV x (.list (strs x.names)) y)))=H6 at *
  clear w sN sL sJ sA hbA hat
  have w4':=w'.h2
  obtain ⟨row,hrow⟩:∃ row,(curW e n ls j vJ k).set k (armV x (.list (strs x.names)) y)=row:=⟨_,rfl⟩
  rw[hrow] at hbS hlS hatS hset
  refine' VW_mixE [] [0,1,2,3,4,5,6,7,8] (.one 9 true (.one 10 false (.one 11 false (.one 12 false .fin)))) (fun H'=>H' b2=some (.cells 27 [.int e.k,.int e.n,.str e.s,.str e.t,vN,vL,.mlist bA e.arms.length cA])/\H' bA=some (.row 85 9 cA row)) (by kernel_rfl) (by kernel_rfl) (⟨w4',hbS⟩) (fun H' N hp hN=>?_) ?_
  rotate_left 1
  ·simp only[opsAt,List.drop,List.take,List.cons_append,List.nil_append]
   simp +decide only[ZS,QS,↓reduceIte,Nat.reduceAdd,hp.1,hp.2,hatS,hlS,hki,nat0,Int.toNat_natCast,armV_cells]
   exact hN
  by_cases hkj:k=j
  ·refine U10 fun N hN=>?_
   simp only[List.drop,List.take]
   simp +decide only[ZS,↓reduceIte,Nat.reduceAdd]
   refine W10 (by kernel_rfl) (cloneS_c (src_list _) (by omega) fun vJ' H7 xJ=>?_)
   rw[M10]
   simp +decide only[ZS,↓reduceIte,Nat.reduceAdd]
   refine hN _ ⟨fun _=>⟨xJ.get w4',xJ.get hbS⟩,?_⟩
   clear hN N
   have w7:=w'.out xJ
   have sN7:=sN'.out xJ
   have sL7:=sL'.out xJ
   have sJ7:=xJ.sl w'.nn
   have hb7:=xJ.get hbS
   have hd7:∀ b n c b' n' c',vN=.mlist b n c->vJ'=.mlist b' n' c'->b≠b':=fun b n c b' n' c' h1 h2 q=>by
    rcases sN' with ⟨_,h⟩|⟨b0,cap0,h,h3,_⟩
    ·rw[h1] at h;cases h
    ·rw[h1] at h;injection h with h
     rcases xJ with ⟨_,h4,_⟩|⟨b5,cap5,h4,h5,_⟩
     ·rw[h2] at h4;cases h4
     ·rw[h2] at h5;injection h5 with h5
      rw[<-h5,<-q,h,h3] at h4;cases h4
   have hone:=xJ.one
   refine U10 fun N hN=>?_
   simp only[List.drop,List.take]
   simp +decide only[ZS,↓reduceIte,Nat.reduceAdd,hki,nat0,Int.toNat_natCast]
   refine hN _ ⟨fun h=>(by cases h),?_⟩
   clear hN N
   refine U10 fun N hN=>?_
   simp only[List.drop,List.take]
   simp +decide only[ZS,↓reduceIte,Nat.reduceAdd]
   refine hN _ ⟨fun h=>(by cases h),?_⟩
   clear hN N
   refine U10 fun N hN=>?_
   simp only[List.drop,List.take]
   simp +decide only[ZS,↓reduceIte,Nat.reduceAdd,Y11 (hb:=hb7) (hx:=hatS),put_names _ _ _ _ hone.2,hone.1,hone.2]
   refine hN _ ⟨fun h=>(by cases h),O12 ?_⟩
   clear hN N
   have hfin:curW e n ls j vJ' (k+1)=row.set k (armV x vJ' y):=by
    rw[hsucc vJ' (fun h=>absurd hkj h),if_pos hkj,hset]
   refine R10 [] fun N E hN hE=>?_
   simp +decide only[ZS,↓reduceIte,Nat.reduceAdd,wrapN (show k<9223372036854775807 by omega)]
   refine hN _ ?_
   clear hN hE N E
   refine ⟨k+1,⟨hlt,rfl,rfl,rfl,rfl,rfl,rfl,rfl,vJ',w7.row hb7 hfA _,sN7.rowne hb7 (by decide),sL7.rowne hb7 (by decide),.inr ⟨bA,cA,by rw[curW_len],?_,hfA⟩,?_,hd7⟩,by omega⟩
   ·rw[hfin];exact HM.upd_same _ _ _
   ·have:nJ (k+1)=x.names:=by
     rw[hnJ]
     show (if j<k+1 then (e.arms.getD j (.mk emp [] zeroEx)).names else [])=_
     rw[if_pos (by omega),hgj hkj]
    rw[this]
    exact sJ7.rowne hb7 (by decide)
  ·refine U10 fun N hN=>?_
   simp only[List.drop,List.take]
   simp +decide only[ZS,↓reduceIte,Nat.reduceAdd]
   refine D10 (cloneS_pure (.list (strs x.names)) x.names (fun _=>src_list _) (by omega)) ?_
   simp +decide only[ZS,↓reduceIte,Nat.reduceAdd]
   refine hN _ ⟨fun _=>⟨w4',hbS⟩,?_⟩
   clear hN N
   refine U10 fun N hN=>?_
   simp only[List.drop,List.take]
   simp +decide only[ZS,↓reduceIte,Nat.reduceAdd,hki,nat0,Int.toNat_natCast]
   refine hN _ ⟨fun h=>(by cases h),?_⟩
   clear hN N
   refine U10 fun N hN=>?_
   simp only[List.drop,List.take]
   simp +decide only[ZS,↓reduceIte,Nat.reduceAdd]
   refine hN _ ⟨fun h=>(by cases h),?_⟩
   clear hN N
   refine U10 fun N hN=>?_
   simp only[List.drop,List.take]
   simp +decide only[ZS,↓reduceIte,Nat.reduceAdd,Y11 (hb:=hbS) (hx:=hatS),put_names x _ (.list (strs x.names)) y rfl]
   refine hN _ ⟨fun h=>(by cases h),O12 ?_⟩
   clear hN N
   have hfin:curW e n ls j vJ (k+1)=row.set k (armV x (.list (strs x.names)) y):=by
    rw[hsucc vJ (fun _=>rfl),if_neg hkj,hset]
   refine R10 [] fun N E hN hE=>?_
   simp +decide only[ZS,↓reduceIte,Nat.reduceAdd,wrapN (show k<9223372036854775807 by omega)]
   refine hN _ ?_
   clear hN hE N E
   refine ⟨k+1,⟨hlt,rfl,rfl,rfl,rfl,rfl,rfl,rfl,vJ,w'.row hbS hfA _,sN'.rowne hbS (by decide),sL'.rowne hbS (by decide),.inr ⟨bA,cA,by rw[curW_len],?_,hfA⟩,?_,hd⟩,by omega⟩
   ·rw[hfin];exact HM.upd_same _ _ _
   ·have:nJ (k+1)=nJ k:=by
     rw[hnJ]
     show (if j<k+1 then (e.arms.getD j (.mk emp [] zeroEx)).names else [])=if j<k then _ else _
     by_cases q:j<k
     ·rw[if_pos q,if_pos (by omega)]
     ·rw[if_neg q,if_neg (by omega)]
    rw[this]
    exact sJ'.rowne hbS (by decide)
 ·have hkk:k=e.arms.length:=by have:=of_decide_eq_false hc;omega
  refine L11 ?_
  simp only[AX.then,AX.inBlock,↓reduceIte]
  subst hkk
  rw[curW_end] at sA
  have w4:=w.h2
  refine A10 [] fun N E hN hE=>?_
  simp +decide only[ZS,↓reduceIte,Nat.reduceAdd,w4,w.rr,sN.one.1,sN.one.2,sL.one.1,sL.one.2,sA.one.1,sA.one.2]
  refine hN _ ?_
  clear hN hE N E
  refine L10 ?_
  have hrr:∀ {b et sz cap ys},Hc b=some (.row et sz cap ys)->b≠r:=fun h q=>by rw[q,w.rr] at h;cases h
  refine ⟨fun d hd=>(by cases hd),_,_,_,I13 (a:=4) (t:=27) (et:=27) (cs:=[.int e.k,.int e.n,.str e.s,.str e.t,vN,vL,vA]) rfl ti27 rfl rfl rfl (HM.upd_same _ _ _),Drop.refl _,View.refl _,vN,vL,vA,vJ,rfl,?_⟩
  refine ⟨sN.cell w.rr,sL.cell w.rr,sA.cell w.rr,?_,fun b hb=>?_,hd⟩
  ·rw[hnJ] at sJ
   exact sJ.cell w.rr
  ·show (Hc.upd r _) b=H b
   rw[HM.upd_ne _ _ (fun q=>hb (by rw[q];exact w.fr))];exact w.rest b hb
end
def armsP (n:Nat) (ls:List Ex):Nat->List Ar->List Ar
 |_,[]=>[]
 |i,x::xs=>.mk x.op x.names (ls.getD (n+i) x.body)::armsP n ls (i+1) xs
def withP (e:Ex) (ls:List Ex):Ex:=.mk e.k e.n e.s e.t e.names (ls.take e.l.length) (armsP e.l.length ls 0 e.arms)
theorem armsV_P (n:Nat) (ls:List Ex) (j:Nat) (v:AV):∀ (xs:List Ar) (i:Nat),i+xs.length<=j->armsV n ls j v i xs=ars (armsP n ls i xs)
 |[],_,_=>rfl
 |x::xs,i,h=>by
  rw[List.length_cons] at h
  rw[armsV,armsP,armsV_P n ls j v xs (i+1) (by omega),if_neg (by omega),armV_list];rfl
theorem armsP_len (n:Nat) (ls:List Ex):∀ (i:Nat) (xs:List Ar),(armsP n ls i xs).length=xs.length
 |_,[]=>rfl
 |i,x::xs=>by rw[armsP,List.length_cons,List.length_cons,armsP_len n ls]
theorem armsP_self (n:Nat) (ls:List Ex):∀ (xs:List Ar) (i:Nat),(∀ k x,xs[k]?=some x->ls[n+(i+k)]?=some x.body)->armsP n ls i xs=xs
 |[],_,_=>rfl
 |x::xs,i,h=>by
  rw[armsP,armsP_self n ls xs (i+1) fun k y hy=>by
   have:=h (k+1) y (by simpa using hy)
   rwa [show i+(k+1)=i+1+k by omega] at this]
  have:=h 0 x rfl
  rw[Nat.add_zero] at this
  rw[List.getD_eq_getElem?_getD,this]
  cases x;rfl
theorem withP_self (e:Ex):withP e e.parts=e:=by
 have h1:e.parts.take e.l.length=e.l:=by
  unfold Ex.parts
  rw[List.take_append_of_le_length (Nat.le_refl _),List.take_of_length_le (Nat.le_refl _)]
 have h2:armsP e.l.length e.parts 0 e.arms=e.arms:=armsP_self _ _ _ _ fun k x hx=>by
  rw[parts_right (by omega),show e.l.length+(0+k)-e.l.length=k by omega,hx];rfl
 unfold withP
 rw[h1,h2]
 cases e;rfl
section
variable {G:GT} {H:HM}
theorem withP_c (e:Ex) (hf:fit1 e) (ls:List Ex) (hls:ls.length=e.parts.length):PureF prog G 116 [e.av,.list (exs ls)] H (withP e ls).av:=by
 have hbb:bnd=16777216:=rfl
 have hlim:50000000<=lim:=by decide
 obtain ⟨_,_,hnl,hll,hal,_,_⟩:=id hf
 have hpl:=Z11 e
 refine ⟨by kernel_rfl,fun K hk=>?_⟩
 refine CallF.conv (with_c e hf ls hls e.arms.length) (fun v H' hv=>?_) (fun v H' hv=>by obtain ⟨_,_,_,_,h,_⟩:=hv;cases h)
 obtain ⟨vN,vL,vA,vJ,h1,w⟩:=hv
 cases h1
 have hA:=w.sA
 rw[armsV_P _ _ _ _ _ _ (by omega)] at hA
 have hd:Drop H' H:=fun b=>by
  cases q:H b with
  |none=>exact .inl rfl
  |some o=>
   right
   have:=w.rest b (by rw[q];simp)
   rw[this,q]
 have v0:∀ x,View G H' H x x:=fun x=>View.of_drop hd x
 have hff:∀ b,H b=none->H b=none:=fun _ h=>h
 refine ⟨.agg [.int e.k,.int e.n,.str e.s,.str e.t,.list (strs e.names),.list (exs (ls.take e.l.length)),.list (ars (armsP e.l.length ls 0 e.arms))],H,hd,?_,?_⟩
 ·exact View.agg (.cons (v0 _) (.cons (v0 _) (.cons (v0 _) (.cons (v0 _) (.cons (w.sN.view hd hff (by rw[O10];omega)) (.cons (w.sL.view hd hff (by rw[Z10,List.length_take];omega)) (.cons (hA.view hd hff (by rw[U11,armsP_len];omega)) .nil)))))))
 ·rw[ex_fold];exact hk
theorem vappend_sl {Hc:HM} {v z:AV} {xs:List Ex} {K:ARes->HM->Prop} (hs:Sl H Hc v 27 7 (exs xs)) (hz:z.cells.length=7) (hl:xs.length<lim) (hnn:∀ b,Hc b=none->H b=none)
  (hk:∀ b cap,H b=none->(∀ et cs,Hc b≠some (.cells et cs))->K (.ret (.mlist b (xs.length+1) cap)) (Hc.upd b (.row 27 7 cap (exs xs++[z])))):vappend prog Hc 24 24 v (.list [z]) K:=by
 unfold vappend
 rw[td24]
 simp only[ti27]
 have h1:srcOf Hc (.list [z])=some [z]:=rfl
 simp only[h1]
 refine ⟨trivial,by decide,fun y hy=>by rw[List.mem_singleton.1 hy];exact hz,?_⟩
 rcases hs with ⟨h,rfl⟩|⟨b,cap,rfl,h2,h3⟩
 ·have h0:xs=[]:=by
   have:xs.length=0:=by rw[<-Z10,h];rfl
   exact List.eq_nil_of_length_eq_zero this
  subst h0
  refine ⟨show 1<=lim by decide,fun q=>by (cases q),fun b cap hb _=>?_⟩
  exact hk b cap (hnn b hb) (fun _ _ q=>by rw[hb] at q;cases q)
 ·simp only[h2]
  refine ⟨trivial,trivial,trivial,trivial,fun q=>by (cases q),by rw[Z10];exact hl,fun b' cap' hb' _=>?_⟩
  have hx:(exs xs++[z]).length=xs.length+1:=by rw[List.length_append,Z10];rfl
  rw[hx]
  rcases hb' with hb'|⟨rfl,rfl⟩
  ·exact hk b' cap' (hnn b' hb') (fun _ _ q=>by rw[hb'] at q;cases q)
  ·exact hk b' cap' h3 (fun _ _ q=>by rw[h2] at q;cases q)
end
structure DL (Hb:HM) (b3:Nat) (v:AV) (xs:List Ex) (Hc:HM):Prop where
 hb:Hb b3≠none
 h3:Hc b3=some (.cells 24 [v])
 sl:Sl Hb Hc v 27 7 (exs xs)
 rest:∀ b,b≠b3->Hb b≠none->Hc b=Hb b
theorem DL.nn {Hb:HM} {b3:Nat} {v:AV} {xs:List Ex} {Hc:HM} (d:DL Hb b3 v xs Hc):∀ b,Hc b=none->Hb b=none:=fun b h=>by
 cases q:Hb b with
 |none=>rfl
 |some o=>
  by_cases hb:b=b3
  ·rw[hb,d.h3] at h;cases h
  ·rw[d.rest b hb (by rw[q];simp),q] at h;cases h
theorem DL.start {Hb:HM} {b3:Nat} (h:Hb b3=some (.cells 24 [.nil0])):DL Hb b3 .nil0 [] Hb:=⟨by rw[h];simp,h,.inl ⟨rfl,rfl⟩,fun _ _ _=>rfl⟩
def zV:AV:=.agg [.int 0,.int 0,.str emp,.str emp,.nil0,.nil0,.nil0]
theorem put0 (z:AV) (y:Ex):elemPut z 0 y.av 7=some y.av:=by unfold elemPut;rw[if_pos ⟨rfl,ex_size y⟩]
theorem exs_put (xs:List Ex) (z:AV) (y:Ex):(exs xs++[z]).set xs.length y.av=exs (xs++[y]):=by
 have:(exs xs).length=xs.length:=Z10 xs
 rw[List.set_append_right _ _ (by omega),this,Nat.sub_self]
 simp[exs]
theorem exs_last (xs:List Ex) (z:AV):(exs xs++[z])[xs.length]?=some z:=by
 rw[List.getElem?_append_right (by rw[Z10];omega),Z10,Nat.sub_self];rfl
theorem DL.lenA {Hb:HM} {b3:Nat} {v:AV} {xs:List Ex} {Hc:HM} (d:DL Hb b3 v xs Hc) (Hq:HM):vlenb Hq (some (.slice 27 7)) v=some (.int xs.length):=by
 rcases d.sl with ⟨h,rfl⟩|⟨b,cap,rfl,_⟩
 ·have:xs.length=0:=by rw[<-Z10,h];rfl
  rw[this];rfl
 ·rw[Z10];rfl
theorem DL.snoc {Hb:HM} {b3:Nat} {v:AV} {xs:List Ex} {Hc:HM} (d:DL Hb b3 v xs Hc) {b cap:Nat} (hn:Hb b=none) (y:Ex) (o:AObj):b≠b3/\DL Hb b3 (.mlist b (xs.length+1) cap) (xs++[y]) (((Hc.upd b o).upd b (.row 27 7 cap (exs (xs++[y])))).upd b3 (.cells 24 [.mlist b (xs.length+1) cap])):=by
 have hne:b≠b3:=fun q=>d.hb (by rw[<-q];exact hn)
 refine ⟨hne,d.hb,HM.upd_same _ _ _,.inr ⟨b,cap,by rw[Z10,List.length_append];rfl,by rw[HM.upd_ne _ _ hne,HM.upd_same],hn⟩,fun k hk hkb=>?_⟩
 have hkn:k≠b:=fun q=>hkb (by rw[q];exact hn)
 rw[HM.upd_ne _ _ hk,HM.upd_ne _ _ hkn,HM.upd_ne _ _ hkn]
 exact d.rest k hk hkb
theorem DL.see {G:GT} {Hr:HM} {b3:Nat} {v:AV} {xs:List Ex} {Hc:HM} (d:DL (Hr.upd b3 (.cells 24 [.nil0])) b3 v xs Hc) (hr:Hr b3=none) (hl:xs.length<=lim):Drop Hc Hr/\View G Hc Hr (.addr b3 0) (.ref [.list (exs xs)]):=by
 have hd:Drop Hc Hr:=fun b=>by
  by_cases hb:b=b3
  ·left;rw[hb];exact hr
  ·cases q:Hr b with
   |none=>exact .inl rfl
   |some o=>
    right
    rw[d.rest b hb (by rw[HM.upd_ne _ _ hb,q];simp),HM.upd_ne _ _ hb,q]
 refine ⟨hd,View.cellsR (off:=0) hd d.h3 hr (.cons (d.sl.view hd (fun b hb=>?_) (by rw[Z10];exact hl)) .nil)⟩
 cases q:Hr b with
 |none=>rfl
 |some o=>
  by_cases hbb:b=b3
  ·rw[hbb,HM.upd_same] at hb;cases hb
  ·rw[HM.upd_ne _ _ hbb,q] at hb;cases hb
theorem Fin_ex {G:GT} {fn:Func} {K:ARes->HM->Prop} {H:HM} {tm:Nat->AV} {ds:List ADef} {a r:Nat} (e:Ex) {c0:AObj} {cs:List AV} (h:fn.results = #[.cell a 27]) (ha:tm a=.addr r 0) (hr:H r=none) (hd:∀ d∈ds,∃ D,d=.mark D) (hcs:cs=e.av.cells) (hk:K (.ret e.av) H) :
  Fin prog G fn K .ret ⟨tm,(H.upd r c0).upd r (.cells 27 cs),ds⟩:=by
 subst hcs
 have hdr:Drop ((H.upd r c0).upd r (.cells 27 e.av.cells)) H:=by rw[HM.upd_upd];exact Drop.upd hr
 exact ⟨hd,_,_,H,I13 (a:=a) (t:=27) (et:=27) (cs:=e.av.cells) h ti27 rfl (by rw[C10];rfl) ha (HM.upd_same _ _ _),hdr,View.of_drop hdr _,by rw[C10,ex_fold,ex_eta];exact hk⟩
section
variable {G:GT}
theorem duplicate_c (e:Ex):∀ (ho:Okk e) (H:HM),PureF prog G 72 [e.av] H e.av:=by
 induction e using Ex.ind with
 |step e ih=>
  intro ho H
  have hf:=ho.1.one
  have hn:=ho.node
  obtain ⟨_,_,hnl,hll,hal,_,_⟩:=id hf
  have hbb:bnd=16777216:=rfl
  have hlim:50000000<=lim:=by decide
  have hpl:=Z11 e
  refine P10 (fn:=f72) func72 rfl (by kernel_rfl) (by kernel_rfl) (Nat.le_of_ble_eq_true (by kernel_rfl)) fun K hk=>?_
  refine A10 [] fun N E hN hE=>?_
  simp +decide only[ZS,↓reduceIte]
  refine F10 fun r hr=>?_
  simp +decide only[ZS,↓reduceIte]
  refine hN _ ?_
  clear hN hE N E
  refine A10 [] fun N E hN hE=>?_
  simp +decide only[ZS,↓reduceIte]
  refine F10 fun b3 hb3=>?_
  obtain ⟨hb3r,hb30⟩:=G11 hb3
  simp +decide only[ZS,↓reduceIte]
  refine hN _ ?_
  clear hN hE N E
  have h33:((H.upd r (.cells 27 zc)).upd b3 (.cells 24 [.nil0])) b3=some (.cells 24 [.nil0]):=HM.upd_same _ _ _
  show VW prog G f72.ntmps none _ _ ⟨_,(H.upd r (.cells 27 zc)).upd b3 (.cells 24 [.nil0]),_⟩
  have hb3:(H.upd r (.cells 27 zc)) b3=none:=hb3
  generalize hHr:H.upd r (.cells 27 zc)=Hr at *
  have hrr:Hr r=some (.cells 27 zc):=by rw[<-hHr];exact HM.upd_same _ _ _
  obtain ⟨Hb,hHb⟩:∃ Hb,Hb=Hr.upd b3 (.cells 24 [.nil0]):=⟨_,rfl⟩
  rw[<-hHb] at h33 ⊢
  refine I10 (A10 [] fun N E hN hE=>?_)
  simp +decide only[ZS,↓reduceIte]
  refine D10 (sParts_c e) ?_
  simp +decide only[ZS,↓reduceIte]
  refine hN _ ?_
  clear hN hE N E
  refine J10 ?_
  refine V12 fun tm htm=>?_
  have t7:tm 7=.func (.func 136) [] [.ref e.av.cells]:=by rw[htm,C10];rfl
  have t3:tm 3=.addr b3 0:=by rw[htm];rfl
  have t2:tm 2=.addr r 0:=by rw[htm];rfl
  have t1:tm 1=.ref e.av.cells:=by rw[htm,C10];rfl
  clear htm
  refine C12 (xs:=items e) (gf:=136) (first:=[]) (cap:=[.ref e.av.cells]) t7 (parts_it e hf hn) ?_
   (fun i H'=>∃ v,DL Hb b3 v (e.parts.take i) H') (fun _ _=>False) ⟨.nil0,DL.start h33⟩ ?_ ?_ ?_
  ·intro x hx
   obtain ⟨p,_,rfl⟩:=List.mem_map.1 hx
   rfl
  ·rintro l i x H' hx ⟨v,d⟩
   have hi:i<e.parts.length:=by
    have:=(List.getElem?_eq_some_iff.1 hx).1
    rwa [T11] at this
   rw[P13 hi] at hx
   cases hx
   have hxm:=List.getElem_mem hi
   have htk:e.parts.take (i+1)=e.parts.take i++[e.parts[i]]:=List.take_succ_eq_append_getElem hi
   have hlk:(e.parts.take i).length=i:=by rw[List.length_take];omega
   rw[htk]
   generalize e.parts.take i=xs at *
   generalize hxe:e.parts[i]=x at *
   simp only[setPs,List.zip,List.zipWith,List.foldl,partAV]
   refine R10 [] fun N E hN hE=>?_
   simp +decide only[ZS,↓reduceIte]
   refine F10 fun b hb=>?_
   simp +decide only[ZS,↓reduceIte]
   refine hN _ ?_
   clear hN hE N E
   refine ⟨rfl,?_⟩
   refine V11 (i:=5) hb rfl ?_
   clear hb
   have d3:=d.h3
   have dl:=d.lenA
   refine J10 ?_
   refine' VW_mixE [] [0,1,2,4,5] (.one 3 true (.one 6 false (.alt (.one 7 false (.alt (.one 8 false (.one 9 false .fin)) (.one 9 false (.one 8 false .fin)))) (.one 9 false (.one 7 false (.one 8 false .fin)))))) (fun Hq=>Hq b3=some (.cells 24 [v])) (by kernel_rfl) (by kernel_rfl) (d3) (fun H' N hp hN=>?_) ?_
   rotate_left 1
   ·simp only[opsAt,List.drop,List.take,List.cons_append,List.nil_append]
    simp +decide only[ZS,QS,↓reduceIte,t3,hp,dl]
    exact ⟨bs_ok (by kernel_rfl) (U13 ⟨rfl,rfl⟩),hN⟩
   refine U10 fun N hN=>?_
   simp only[List.drop,List.take]
   simp +decide only[ZS,↓reduceIte]
   refine D10 (ih x hxm (ho.part hxm) H') ?_
   simp +decide only[ZS,↓reduceIte]
   refine hN _ ⟨fun _=>d3,?_⟩
   clear hN N
   refine U10 fun N hN=>?_
   simp only[List.drop,List.take]
   simp +decide only[ZS,↓reduceIte]
   refine vappend_sl (z:=zV) d.sl rfl (by omega) d.nn fun b9 cap hb9 hnc=>?_
   rw[M10]
   simp +decide only[ZS,↓reduceIte]
   refine hN _ ⟨fun h=>(by cases h),?_⟩
   clear hN N
   obtain ⟨hnb,dS⟩:=d.snoc (cap:=cap) hb9 x (.row 27 7 cap (exs xs++[zV]))
   generalize hH1:H'.upd b9 (.row 27 7 cap (exs xs++[zV]))=H1 at *
   have hA:H1 b9=some (.row 27 7 cap (exs xs++[zV])):=by rw[<-hH1];exact HM.upd_same _ _ _
   have h3A:H1 b3=some (.cells 24 [v]):=by rw[<-hH1,HM.upd_ne _ _ (Ne.symm hnb)];exact d3
   have hA3:(H1.upd b3 (.cells 24 [.mlist b9 (xs.length+1) cap])) b9=some (.row 27 7 cap (exs xs++[zV])):=by rw[HM.upd_ne _ _ hnb];exact hA
   have h3B:(H1.upd b9 (.row 27 7 cap (exs (xs++[x])))) b3=some (.cells 24 [v]):=by rw[HM.upd_ne _ _ (Ne.symm hnb)];exact h3A
   have hS:((H1.upd b9 (.row 27 7 cap (exs (xs++[x])))).upd b3 (.cells 24 [.mlist b9 (xs.length+1) cap]))=((H1.upd b3 (.cells 24 [.mlist b9 (xs.length+1) cap])).upd b9 (.row 27 7 cap (exs (xs++[x])))):=HM.upd_comm _ _ _ hnb
   have hin:((0:Int)<=(xs.length:Int)/\(xs.length:Int)<((xs.length+1:Nat):Int))=True:=eq_true ⟨by omega,by omega⟩
   have hx1:(exs xs++[zV])[xs.length]?=some zV:=exs_last xs zV
   refine wt_alt ?_ ?_
   ·refine U10 fun N hN=>?_
    simp only[List.drop,List.take]
    simp +decide only[ZS,↓reduceIte,hin,Int.toNat_natCast]
    refine hN _ ⟨fun h=>(by cases h),?_⟩
    clear hN N
    refine wt_alt ?_ ?_
    ·refine U10 fun N hN=>?_
     simp only[List.drop,List.take]
     simp +decide only[ZS,↓reduceIte,Y11 (hb:=hA) (hx:=hx1),put0]
     rw[exs_put]
     refine hN _ ⟨fun h=>(by cases h),?_⟩
     clear hN N
     refine U10 fun N hN=>?_
     simp only[List.drop,List.take]
     simp +decide only[ZS,↓reduceIte,t3,h3B]
     refine hN _ ⟨fun h=>(by cases h),O12 ?_⟩
     clear hN N
     simp only[AX.then,AX.inBlock]
     exact ⟨rfl,_,Drop.refl _,_,dS⟩
    ·refine U10 fun N hN=>?_
     simp only[List.drop,List.take]
     simp +decide only[ZS,↓reduceIte,t3,h3A]
     refine hN _ ⟨fun h=>(by cases h),?_⟩
     clear hN N
     refine U10 fun N hN=>?_
     simp only[List.drop,List.take]
     simp +decide only[ZS,↓reduceIte,Y11 (hb:=hA3) (hx:=hx1),put0]
     rw[exs_put,<-hS]
     refine hN _ ⟨fun h=>(by cases h),O12 ?_⟩
     clear hN N
     simp only[AX.then,AX.inBlock]
     exact ⟨rfl,_,Drop.refl _,_,dS⟩
   ·refine U10 fun N hN=>?_
    simp only[List.drop,List.take]
    simp +decide only[ZS,↓reduceIte,t3,h3A]
    refine hN _ ⟨fun h=>(by cases h),?_⟩
    clear hN N
    refine U10 fun N hN=>?_
    simp only[List.drop,List.take]
    simp +decide only[ZS,↓reduceIte,hin,Int.toNat_natCast]
    refine hN _ ⟨fun h=>(by cases h),?_⟩
    clear hN N
    refine U10 fun N hN=>?_
    simp only[List.drop,List.take]
    simp +decide only[ZS,↓reduceIte,Y11 (hb:=hA3) (hx:=hx1),put0]
    rw[exs_put,<-hS]
    refine hN _ ⟨fun h=>(by cases h),O12 ?_⟩
    clear hN N
    simp only[AX.then,AX.inBlock]
    exact ⟨rfl,_,Drop.refl _,_,dS⟩
  ·rintro D H' ⟨v,d⟩ hD _
   rw[T11,List.take_length] at d
   simp only[AX.then,AX.inBlock]
   rw[hHb] at d
   obtain ⟨hdr,hvw⟩:=d.see (G:=G) hb3 (by rw[Z11];omega)
   refine VW_see (s:=⟨tm,H',[.mark D]⟩) (i:=3) (H1:=Hr) (v':=.ref [.list (exs e.parts)]) hdr (by show View G H' Hr (tm 3) _;rw[t3];exact hvw) ?_
   clear hvw hdr d hD hHb h33 t7 t3
   rw[C10] at t1
   refine A10 [] fun N E hN hE=>?_
   simp +decide only[ZS,↓reduceIte,t1]
   refine D10 (withP_c e hf e.parts rfl) ?_
   rw[withP_self]
   simp +decide only[ZS,↓reduceIte,t2,hrr]
   refine hN _ ?_
   clear hN hE N E
   have hr':H r=none:=hr
   refine L10 ?_
   rw[<-hHr]
   exact Fin_ex e rfl t2 hr' (fun d hd=>⟨_,by simpa using hd⟩) (by rw[C10];rfl) hk
  ·rintro _ _ _ _ hJ
   exact hJ.elim
end
def ownN (e:Ex):List ByteArray:=if e.k=17 then e.names.take 1 else e.names
theorem node_own {e:Ex} (hn:nodeErr e=0):distinct (ownN e)=0:=by
 obtain ⟨_,_,_,_,_,_,hz,_⟩:=(O13 e).1 hn
 unfold namesErr at hz
 unfold ownN
 by_cases h:e.k=17
 ·rw[if_pos h] at hz ⊢
  split at hz
  ·assumption
  ·rename_i q;exact absurd hz q
 ·rw[if_neg h] at hz ⊢;exact hz
theorem var_bnd {s:ByteArray} (h:isVar s=true):s.size<=bnd:=Nat.le_trans (isVar_size h) (by decide)
theorem like_node {a b:Ex} (hl:Like a b) (hn:nodeErr a=0) (hf:fit1 a) (hs:(occ b).2.2=true->isVar b.s=true) (ho:distinct (ownN b)=0) (hd:∀ y∈b.arms,distinct y.names=0):nodeErr b=0/\fit1 b:=by
 obtain ⟨x,hx,hk,hlh,hcl,hb,hz,ha⟩:=(O13 a).1 hn
 have hoc:=occ_kind hl.k
 have hcls:cls b.s x.S=true:=by
  by_cases q:(occ a).2.2=true
  ·have h1:x.S=1:=by
    unfold occ at q
    split at q
    ·rename_i h
     rcases h with h|h|h
     ·rw[h] at hx;cases hx;rfl
     ·rw[h] at hx;cases hx;rfl
     ·rw[h] at hx;cases hx;rfl
    ·split at q
     ·rename_i h
      rw[h] at hx;cases hx;rfl
     ·cases q
   rw[h1]
   exact hs (by rw[<-hoc];exact q)
  ·rw[<-hl.s (by simpa using q)];exact hcl.1
 have hnames:namesErr b=0:=by
  unfold namesErr at hz ⊢
  unfold ownN at ho
  rw[<-hl.k] at ho ⊢
  by_cases h17:a.k=17
  ·rw[if_pos h17] at hz ho ⊢
   rw[if_pos ho,<-hl.labels h17]
   split at hz
   ·exact hz
   ·rename_i q;exact absurd hz q
  ·rw[if_neg h17] at ho ⊢;exact ho
 refine ⟨(O13 b).2 ⟨x,by rw[<-hl.k];exact hx,by rw[<-hl.k];exact hk,by rw[<-hl.n];exact hlh,⟨hcls,by rw[<-hl.t];exact hcl.2⟩,?_,hnames,fun q=>?_⟩,?_⟩
 ·unfold nodeBad nodeMany nodeParts at hb ⊢
  rw[<-hl.k,<-hl.names,<-hl.l,<-hl.arms];exact hb
 ·have h1:=ha q
  unfold armsErr at h1 ⊢
  rw[<-hl.k,<-hl.arms]
  split at h1
  ·rename_i hz1
   rw[if_pos (armsF_same _ _ _ [] [] hl.arm rfl hd hz1)];exact h1
  ·rename_i hz1;exact absurd h1 hz1
 ·obtain ⟨g1,g2,g3,g4,g5,g6,g7⟩:=hf
  have hov:=((K11 _).1 ho).1
  refine ⟨?_,by rw[<-hl.t];exact g2,by rw[<-hl.names];exact g3,by rw[<-hl.l];exact g4,by rw[<-hl.arms];exact g5,fun y hy=>?_,fun y hy=>?_⟩
  ·by_cases q:(occ a).2.2=true
   ·exact var_bnd (hs (by rw[<-hoc];exact q))
   ·rw[<-hl.s (by simpa using q)];exact g1
  ·unfold ownN at hov
   by_cases h17:b.k=17
   ·rw[if_pos h17] at hov
    rw[<-List.take_append_drop 1 b.names,List.mem_append] at hy
    rcases hy with hy|hy
    ·exact var_bnd (hov y hy)
    ·rw[<-hl.labels (hl.k.trans h17)] at hy
     exact g6 y (List.mem_of_mem_drop hy)
   ·rw[if_neg h17] at hov
    exact var_bnd (hov y hy)
  ·have hdv:=(K11 _).1 (hd y hy)
   obtain ⟨i,hi,rfl⟩:=List.getElem_of_mem hy
   have hi2:i<a.arms.length:=by rw[hl.arms];exact hi
   have hem:=eqArms_at hl.arm hi2 hi
   simp only[armF,Bool.and_eq_true,decide_eq_true_eq] at hem
   obtain ⟨k1,k2,_⟩:=g7 a.arms[i] (List.getElem_mem hi2)
   exact ⟨by rw[<-hem.1];exact k1,by omega,fun z hz=>var_bnd (hdv.1 z hz)⟩
theorem armsP_at (n:Nat) (ls:List Ex):∀ (xs:List Ar) (i j:Nat),(armsP n ls i xs)[j]?=(xs[j]?).map fun x=>.mk x.op x.names (ls.getD (n+(i+j)) x.body)
 |[],_,_=>by simp[armsP]
 |x::xs,i,0=>by simp[armsP]
 |x::xs,i,j+1=>by
  rw[armsP,List.getElem?_cons_succ,List.getElem?_cons_succ,armsP_at n ls xs (i+1) j,show i+1+j=i+(j+1) by omega]
theorem withP_arm (e:Ex) (ls:List Ex) (j:Nat):(withP e ls).arms[j]?=(e.arms[j]?).map fun x=>.mk x.op x.names (ls.getD (e.l.length+j) x.body):=by
 show (armsP _ _ 0 _)[j]?=_
 rw[armsP_at,Nat.zero_add]
theorem D13 (e:Ex) (ls:List Ex):(withP e ls).arms.length=e.arms.length:=armsP_len _ _ _ _
theorem F13 {e:Ex} {ls:List Ex} (h:ls.length=e.parts.length):(withP e ls).l.length=e.l.length:=by
 show (ls.take _).length=_
 rw[List.length_take,h,Z11];omega
theorem withP_parts {e:Ex} {ls:List Ex} (h:ls.length=e.parts.length):(withP e ls).parts=ls:=by
 have hl:=F13 h
 have hpl:=Z11 e
 refine List.ext_getElem? fun i=>?_
 by_cases hi:i<e.l.length
 ·rw[parts_left (by rw[hl];exact hi)]
  show (ls.take _)[i]?=_
  rw[List.getElem?_take_of_lt hi]
 ·rw[parts_right (by rw[hl];omega),hl,withP_arm,Option.map_map]
  by_cases hj:i<ls.length
  ·have hja:i-e.l.length<e.arms.length:=by omega
   rw[List.getElem?_eq_getElem hja,List.getElem?_eq_getElem hj]
   show some (ls.getD (e.l.length+(i-e.l.length)) _)=_
   rw[show e.l.length+(i-e.l.length)=i by omega,List.getD_eq_getElem?_getD,List.getElem?_eq_getElem hj];rfl
  ·rw[List.getElem?_eq_none (by omega),List.getElem?_eq_none (by omega)];rfl
theorem vOf_with {e:Ex} {ls:List Ex} (h:ls.length=e.parts.length) (i:Nat):vOf (withP e ls) i=vOf e i:=by
 unfold vOf
 rw[F13 h]
 by_cases hi:i<e.l.length
 ·rw[if_pos hi,if_pos hi];rfl
 ·rw[if_neg hi,if_neg hi,withP_arm]
  cases e.arms[i-e.l.length]?<;>rfl
theorem hOf_with {e:Ex} {ls:List Ex} (h:ls.length=e.parts.length) (i:Nat):hOf (withP e ls) i=hOf e i:=by
 unfold hOf
 rw[F13 h];rfl
theorem fr_with {e:Ex} {ls:List Ex} (h:ls.length=e.parts.length) (i:Nat):fr (withP e ls) i=fr e i:=by
 unfold fr;rw[vOf_with h,hOf_with h]
theorem occ_with (e:Ex) (ls:List Ex):occ (withP e ls)=occ e:=rfl
theorem eqArms_of:∀ {l m:List Ar},l.length=m.length->(∀ (i:Nat) (x y:Ar),l[i]?=some x->m[i]?=some y->x.op=y.op/\x.names.length=y.names.length)->eqArms l m=true
 |[],[],_,_=>rfl
 |[],_::_,h,_=>by simp at h
 |_::_,[],h,_=>by simp at h
 |a::l,b::m,h,q=>by
  show (armF a b&&eqArms l m)=true
  have h0:=q 0 a b rfl rfl
  rw[eqArms_of (by simpa using h) fun i x y hx hy=>q (i+1) x y (by simpa using hx) (by simpa using hy)]
  simp[armF,h0.1,h0.2]
theorem like_with {e:Ex} {ls:List Ex} (h:ls.length=e.parts.length):Like e (withP e ls):=
 ⟨rfl,rfl,rfl,rfl,(F13 h).symm,(D13 e ls).symm,fun _=>rfl,fun _=>rfl,eqArms_of (D13 e ls).symm fun i x y hx hy=>by
  rw[withP_arm,hx] at hy
  cases hy;exact ⟨rfl,rfl⟩⟩
theorem ownN_with (e:Ex) (ls:List Ex):ownN (withP e ls)=ownN e:=rfl
theorem arm_with {e:Ex} {ls:List Ex} {y:Ar} (hy:y∈(withP e ls).arms):∃ x∈e.arms,y.names=x.names:=by
 obtain ⟨i,hi,rfl⟩:=List.getElem_of_mem hy
 have h:=withP_arm e ls i
 rw[List.getElem?_eq_getElem hi,List.getElem?_eq_getElem (by rw[<-D13 e ls];exact hi)] at h
 injection h with h
 exact ⟨_,List.getElem_mem (by rw[<-D13 e ls];exact hi),by rw[h];rfl⟩
def setS (e:Ex) (s:ByteArray):Ex:=.mk e.k e.n s e.t e.names e.l e.arms
def occR (a b:ByteArray) (h:Bool) (e:Ex):Ex:=if (occ e).2.2&&decide ((occ e).2.1=h)&&decide ((occ e).1=a) then setS e b else e
theorem occR_or (a b:ByteArray) (h:Bool) (e:Ex):((occ e)=(a,h,true)/\occR a b h e=setS e b)\/(occ e≠(a,h,true)/\occR a b h e=e):=by
 unfold occR
 by_cases q:occ e=(a,h,true)
 ·left;refine ⟨q,?_⟩;rw[q];simp
 ·right;refine ⟨q,?_⟩
  rw[if_neg]
  simp only[Bool.and_eq_true,decide_eq_true_eq]
  rintro ⟨⟨h1,h2⟩,h3⟩
  exact q (by rw[<-h1,<-h2,<-h3])
theorem occR_k (a b:ByteArray) (h:Bool) (e:Ex):(occR a b h e).k=e.k/\(occR a b h e).names=e.names/\(occR a b h e).arms=e.arms/\(occR a b h e).l=e.l:=by
 rcases occR_or a b h e with ⟨_,q⟩|⟨_,q⟩<;>rw[q]<;>exact ⟨rfl,rfl,rfl,rfl⟩
theorem fr_occR (a b:ByteArray) (h:Bool) (e:Ex) (i:Nat):fr (occR a b h e) i=fr e i:=by
 rcases occR_or a b h e with ⟨_,q⟩|⟨_,q⟩<;>rw[q];rfl
theorem J13 (a b:ByteArray) (h:Bool) (e:Ex):(occR a b h e).parts=e.parts:=by
 rcases occR_or a b h e with ⟨_,q⟩|⟨_,q⟩<;>rw[q];rfl
theorem like_setS {e:Ex} (s:ByteArray) (h:(occ e).2.2=true):Like e (setS e s):=⟨rfl,rfl,rfl,rfl,rfl,rfl,fun q=>absurd (h.symm.trans q) (by decide),fun _=>rfl,eqArms_refl _⟩
theorem like_occR (a b:ByteArray) (h:Bool) (e:Ex):Like e (occR a b h e):=by
 rcases occR_or a b h e with ⟨q1,q⟩|⟨_,q⟩<;>rw[q]
 ·exact like_setS b (by rw[q1])
 ·exact Like.refl e (eqArms_refl _)
theorem occ_setS {e:Ex} (s:ByteArray) (h:(occ e).2.2=true):occ (setS e s)=(s,(occ e).2):=by
 unfold occ at h ⊢
 show (if e.k=0\/e.k=18\/e.k=19 then (s,false,true) else if e.k=13 then (s,true,true) else (emp,false,false))=_
 by_cases h1:e.k=0\/e.k=18\/e.k=19
 ·rw[if_pos h1,if_pos h1]
 ·rw[if_neg h1] at h ⊢
  rw[if_neg h1]
  by_cases h2:e.k=13
  ·rw[if_pos h2,if_pos h2]
  ·rw[if_neg h2] at h;cases h
theorem node_occR {a b:ByteArray} {h:Bool} {e:Ex} (hn:nodeErr e=0) (hf:fit1 e) (hb:isVar b=true):nodeErr (occR a b h e)=0/\fit1 (occR a b h e):=by
 refine like_node (like_occR a b h e) hn hf (fun q=>?_) ?_ fun y hy=>?_
 ·rcases occR_or a b h e with ⟨_,r⟩|⟨_,r⟩<;>rw[r]
  ·exact hb
  ·rw[r] at q
   rw[<-occ_s q];exact occ_var hn q
 ·have:ownN (occR a b h e)=ownN e:=by unfold ownN;rw[(occR_k a b h e).1,(occR_k a b h e).2.1]
  rw[this];exact node_own hn
 ·rw[(occR_k a b h e).2.2.1] at hy
  exact M12 hn y hy
def inside (e:Ex) (h:Bool) (a:ByteArray) (i:Nat):Bool:=has (selN h (fr e i)) a
def renameF (a b:ByteArray) (h:Bool):Ex->Ex:=Ex.para fun e rs=>withP (occR a b h e) ((e.parts.zip rs).mapIdx fun i p=>if inside e h a i then p.1 else p.2)
theorem zip_self {α β γ:Type} (g:α->β) (f:Nat->α×β->γ) (l:List α):(l.zip (l.map g)).mapIdx f=l.mapIdx fun i x=>f i (x,g x):=by
 refine List.ext_getElem? fun i=>?_
 rw[List.getElem?_mapIdx,List.getElem?_mapIdx]
 by_cases hi:i<l.length
 ·rw[List.getElem?_eq_getElem (by simpa using hi),List.getElem?_eq_getElem hi]
  simp
 ·rw[List.getElem?_eq_none (by simp;omega),List.getElem?_eq_none (by omega)];rfl
theorem renameF_eq (a b:ByteArray) (h:Bool) (e:Ex):renameF a b h e=withP (occR a b h e) (e.parts.mapIdx fun i p=>if inside e h a i then p else renameF a b h p):=by
 conv=>lhs;unfold renameF;rw[Ex.para_eq]
 rw[show Ex.para (fun e rs=>withP (occR a b h e) ((e.parts.zip rs).mapIdx fun i p=>if inside e h a i then p.1 else p.2))=renameF a b h from rfl,zip_self]
theorem mapIdx_take {α β:Type} (f:Nat->α->β) (l:List α) {i:Nat} (h:i<l.length):(l.mapIdx f).take (i+1)=(l.mapIdx f).take i++[f i l[i]]:=by
 rw[List.take_succ_eq_append_getElem (by rw[List.length_mapIdx];exact h),List.getElem_mapIdx]
def pcs (e:Ex) (i:Nat) (y:Ex):List AV:=[.list (strs (vOf e i)),.list (strs (hOf e i)),.int y.k,.int y.n,.str y.s,.str y.t,.list (strs y.names),.list (exs y.l),.list (ars y.arms)]
theorem len2 (a b:AV) (l:List AV):(2<=(a::b::l).length)=True:=eq_true (by simp)
theorem take2 (a b:AV) (l:List AV):(a::b::l).take 2=[a,b]:=rfl
theorem vOf_lim {e:Ex} (hf:fit1 e) (h:Bool) (i:Nat):(selN h (fr e i)).length<=lim:=by
 cases h with
 |false=>exact vOf_len hf i
 |true=>exact hOf_len hf i
section
variable {G:GT}
theorem rename_c (a b:ByteArray) (h:Bool) (hb:isVar b=true) (e:Ex):∀ (ho:Okk e) (H:HM),PureF prog G 141 [e.av,.str a,.str b,.bool h] H (renameF a b h e).av:=by
 induction e using Ex.ind with
 |step e ih=>
  intro ho H
  have hf:=ho.1.one
  have hn:=ho.node
  obtain ⟨hnR,hfR⟩:=node_occR (a:=a) (b:=b) (h:=h) hn hf hb
  obtain ⟨_,_,hnl,hll,hal,_,_⟩:=id hf
  have hbb:bnd=16777216:=rfl
  have hlim:50000000<=lim:=by decide
  have hpl:=Z11 e
  rw[renameF_eq]
  refine P10 (fn:=f141) func141 rfl (by kernel_rfl) (by kernel_rfl) (Nat.le_of_ble_eq_true (by kernel_rfl)) fun K hk=>?_
  refine A10 [4] fun N E hN hE=>?_
  simp +decide only[ZS,↓reduceIte]
  refine F10 fun b4 hb4=>?_
  simp +decide only[ZS,↓reduceIte]
  refine F10 fun r hr0=>?_
  obtain ⟨hr4,hr⟩:=G11 hr0
  simp +decide only[ZS,↓reduceIte]
  refine hN _ ?_
  clear hN hE N E
  have hb4r:(H.upd r (.cells 27 zc)) b4=none:=by rw[HM.upd_ne _ _ (Ne.symm hr4)];exact hb4
  have hcm:(H.upd b4 (.cells 27 e.av.cells)).upd r (.cells 27 zc)=(H.upd r (.cells 27 zc)).upd b4 (.cells 27 e.av.cells):=HM.upd_comm _ _ _ (Ne.symm hr4)
  rw[C10] at hcm
  show VW prog G f141.ntmps none _ _ ⟨_,(H.upd b4 (.cells 27 _)).upd r (.cells 27 zc),_⟩
  rw[hcm]
  generalize hHr:H.upd r (.cells 27 zc)=Hr at *
  have hrr:Hr r=some (.cells 27 zc):=by rw[<-hHr];exact HM.upd_same _ _ _
  have h4:∀ cs,(Hr.upd b4 (.cells 27 cs)) b4=some (.cells 27 cs):=fun cs=>HM.upd_same _ _ _
  refine I10 (A10 [] fun N E hN hE=>?_)
  simp +decide only[ZS,↓reduceIte,h4]
  refine D10 (occ_c e) ?_
  simp +decide only[ZS,↓reduceIte]
  refine hN _ ?_
  clear hN hE N E
  refine O11 [] (fun s'=>s'.tmps 31=.bool ((occ e).2.2&&decide ((occ e).2.1=h)&&decide ((occ e).1=a))/\s'.tmps 4=.addr b4 0/\s'.tmps 5=.ref [.str a]/\s'.tmps 6=.ref [.str b]/\s'.tmps 7=.ref [.bool h]/\s'.tmps 8=.addr r 0/\s'.H=(Hr.upd b4 (.cells 27 [.int e.k,.int e.n,.str e.s,.str e.t,.list (strs e.names),.list (exs e.l),.list (ars e.arms)]))/\s'.defs=[]) (fun N E hN hE=>?_) ?_
  ·clear hE
   try clear hk
   simp +decide only[ZS,↓reduceIte]
   repeat' (refine V10 (fun hb=>?_) (fun hb=>?_)<;>simp +decide only[ZS,↓reduceIte, *])
   all_goals refine hN _ ?_
   all_goals clear hN
   all_goals refine ⟨?_,?_,?_,?_,?_,?_,?_,?_⟩
   all_goals first|rfl|assumption|(simp only[C10];rfl)|(simp +decide only[ZS,↓reduceIte]<;>simp_all;done)|(simp +decide only[ZS,↓reduceIte]<;>simp_all<;>omega)
  rintro ⟨tb1,Hb1,dsb⟩ ⟨fb31,fb4,fb5,fb6,fb7,fb8,gHb,gdsb⟩
  obtain rfl:(Hr.upd b4 (.cells 27 [.int e.k,.int e.n,.str e.s,.str e.t,.list (strs e.names),.list (exs e.l),.list (ars e.arms)]))=Hb1:=gHb.symm
  obtain rfl:dsb=[]:=gdsb
  try simp only[C10] at fb4 fb5 fb6 fb7 fb8
  refine B10 31 _ fb31 (B10 4 _ fb4 (B10 5 _ fb5 (B10 6 _ fb6 (B10 7 _ fb7 (B10 8 _ fb8 ?_)))))
  refine VW_thenC (fun s'=>(s'.tmps 4=.addr b4 0/\s'.H=Hr.upd b4 (.cells 27 (occR a b h e).av.cells))/\s'.tmps 5=.ref [.str a]/\s'.tmps 6=.ref [.str b]/\s'.tmps 7=.ref [.bool h]/\s'.tmps 8=.addr r 0/\s'.defs=[]) ?_ ?_
  ·clear hk
   refine T10 rfl (fun hc=>?_) (fun hc=>?_)
   ·have hR:occR a b h e=setS e b:=by unfold occR;rw[if_pos hc]
    refine R10 [] fun N E hN hE=>?_
    simp +decide only[ZS,↓reduceIte,h4]
    refine hN _ ?_
    clear hN hE N E
    refine ⟨⟨rfl,?_⟩,rfl,rfl,rfl,rfl,rfl⟩
    rw[hR,C10]
    rfl
   ·have hc':((occ e).2.2&&decide ((occ e).2.1=h)&&decide ((occ e).1=a))=false:=hc
    have hR:occR a b h e=e:=by unfold occR;rw[hc',if_neg (by decide)]
    refine G10 ⟨⟨rfl,?_⟩,rfl,rfl,rfl,rfl,rfl⟩
    rw[hR,C10]
  rintro ⟨tm,Hc,ds⟩ ⟨⟨t4,hHc⟩,t5,t6,t7,t8,hds⟩
  obtain rfl:Hc=_:=hHc
  obtain rfl:ds=[]:=hds
  refine V11 (i:=4) hb4r t4 ?_
  clear hcm h4 hr0 t4 fb31 fb4 fb5 fb6 fb7 fb8
  obtain ⟨eR,heR⟩:∃ eR,eR=occR a b h e:=⟨_,rfl⟩
  rw[<-heR] at hnR hfR hk ⊢
  have hpR:eR.parts=e.parts:=by rw[heR];exact J13 a b h e
  have hfrR:∀ i,fr eR i=fr e i:=fun i=>by rw[heR];exact fr_occR a b h e i
  refine A10 [] fun N E hN hE=>?_
  simp +decide only[ZS,↓reduceIte]
  refine F10 fun b3 hb3=>?_
  obtain ⟨hb3r,hb30⟩:b3≠r/\H b3=none:=by rw[<-hHr] at hb3;exact G11 hb3
  simp +decide only[ZS,↓reduceIte,t4,t5,t6,t7,t8]
  refine hN _ ?_
  clear hN hE N E
  obtain ⟨Hb,hHb⟩:∃ Hb,Hb=Hr.upd b3 (.cells 24 [.nil0]):=⟨_,rfl⟩
  have h33:Hb b3=some (.cells 24 [.nil0]):=by rw[hHb];exact HM.upd_same _ _ _
  show VW prog G f141.ntmps none _ _ ⟨_,Hr.upd b3 (.cells 24 [.nil0]),_⟩
  rw[<-hHb]
  refine I10 (A10 [] fun N E hN hE=>?_)
  simp +decide only[ZS,↓reduceIte]
  refine D10 (sParts_c eR) ?_
  simp +decide only[ZS,↓reduceIte]
  refine hN _ ?_
  clear hN hE N E
  refine J10 ?_
  refine V12 fun tn htn=>?_
  have u35:tn 35=.func (.func 136) [] [.ref eR.av.cells]:=by rw[htn,C10];rfl
  have u12:tn 12=.addr b3 0:=by rw[htn];rfl
  have u5:tn 5=.ref [.str a]:=by rw[htn];exact t5
  have u6:tn 6=.ref [.str b]:=by rw[htn];exact t6
  have u7:tn 7=.ref [.bool h]:=by rw[htn];exact t7
  have u8:tn 8=.addr r 0:=by rw[htn];exact t8
  have u4:tn 4=.ref eR.av.cells:=by rw[htn,C10];rfl
  clear htn t5 t6 t7 t8
  obtain ⟨ls,hls⟩:∃ ls,ls=e.parts.mapIdx fun i p=>if inside e h a i=true then p else renameF a b h p:=⟨_,rfl⟩
  have hlsl:ls.length=e.parts.length:=by rw[hls,List.length_mapIdx]
  rw[<-hls] at hk
  refine C12 (xs:=items eR) (gf:=136) (first:=[]) (cap:=[.ref eR.av.cells]) u35 (parts_it eR hfR hnR) ?_
   (fun i H'=>∃ v,DL Hb b3 v (ls.take i) H') (fun _ _=>False) ⟨.nil0,DL.start h33⟩ ?_ ?_ ?_
  ·intro x hx
   obtain ⟨p,_,rfl⟩:=List.mem_map.1 hx
   rfl
  ·rintro l i x H' hx ⟨v,d⟩
   have hi:i<eR.parts.length:=by
    have:=(List.getElem?_eq_some_iff.1 hx).1
    rwa [T11] at this
   rw[P13 hi] at hx
   cases hx
   have hie:i<e.parts.length:=by rw[<-hpR];exact hi
   have hxe:eR.parts[i]=e.parts[i]:=by simp only[hpR]
   rw[hxe]
   have hxm:=List.getElem_mem hie
   have htk:ls.take (i+1)=ls.take i++[if inside e h a i=true then e.parts[i] else renameF a b h e.parts[i]]:=by rw[hls,mapIdx_take _ _ hie]
   have hlk:(ls.take i).length=i:=by rw[List.length_take];omega
   rw[htk]
   generalize ls.take i=xs at *
   generalize e.parts[i]=x at *
   have hof:=fun H0=>of_c (G:=G) (H:=H0) (vOf eR i) (hOf eR i) h
   have hsel:(if h=true then hOf eR i else vOf eR i)=selN h (fr eR i):=rfl
   simp only[hsel] at hof
   have hins:has (selN h (fr eR i)) a=inside e h a i:=by rw[hfrR];rfl
   have hlim2:=vOf_lim hfR h i
   simp only[setPs,List.zip,List.zipWith,List.foldl,partAV]
   refine R10 [] fun N E hN hE=>?_
   simp +decide only[ZS,↓reduceIte]
   refine F10 fun c hcn=>?_
   simp +decide only[ZS,↓reduceIte]
   refine hN _ ?_
   clear hN hE N E
   refine ⟨rfl,?_⟩
   have hcc:∀ cs,(H'.upd c (.cells 122 cs)) c=some (.cells 122 cs):=fun cs=>HM.upd_same _ _ _
   refine J10 ?_
   refine I10 (V13 [] 7 (by kernel_rfl) (by kernel_rfl) (by kernel_rfl) fun N E hN hE=>?_)
   simp only[List.take,List.drop]
   simp +decide only[ZS,QS,↓reduceIte,hcc,u7,u5,Nat.add_zero,List.drop_zero,len2,take2]
   refine F11 (hof _) ?_
   simp +decide only[ZS,QS,↓reduceIte,u5]
   refine F11 (X12 _ a hlim2) ?_
   rw[hins]
   simp +decide only[ZS,QS,↓reduceIte]
   refine hN _ ?_
   clear hN hE N E
   obtain ⟨y,hy⟩:∃ y,y=if inside e h a i=true then x else renameF a b h x:=⟨_,rfl⟩
   rw[<-hy] at htk ⊢
   refine VW_thenC (fun s'=>(s'.tmps 14=.addr c 0/\s'.H=H'.upd c (.cells 122 (pcs eR i y)))/\s'.tmps 12=.addr b3 0/\s'.defs=[]) ?_ ?_
   ·refine T10 rfl (fun hc=>?_) (fun hc=>?_)
    ·have hfi:inside e h a i=false:=by simpa using hc
     refine R10 [] fun N E hN hE=>?_
     simp +decide only[ZS,↓reduceIte,hcc,u5,u6,u7]
     refine D10 (ih x hxm (ho.part hxm) _) ?_
     simp +decide only[ZS,↓reduceIte,hcc]
     refine hN _ ?_
     clear hN hE N E
     rw[hfi,if_neg (by decide)] at hy
     refine ⟨⟨rfl,?_⟩,u12,rfl⟩
     rw[hy];rfl
    ·have hfi:inside e h a i=true:=by simpa using hc
     rw[hfi,if_pos rfl] at hy
     refine G10 ⟨⟨rfl,?_⟩,u12,rfl⟩
     rw[hy];rfl
   rintro ⟨tq,Hc,ds⟩ ⟨⟨t14,hHc⟩,t12,hds⟩
   obtain rfl:Hc=_:=hHc
   obtain rfl:ds=[]:=hds
   refine V11 (i:=14) hcn t14 ?_
   clear hcc hcn t14 hy hof hsel hins hlim2
   have d3:=d.h3
   have dl:=d.lenA
   have t12:tq 12=.addr b3 0:=t12
   refine' VW_mixE [] [0,1,2,3,4] (.one 5 false (.alt (.one 6 false (.alt (.one 7 false (.one 8 false .fin)) (.one 8 false (.one 7 false .fin)))) (.one 8 false (.one 6 false (.one 7 false .fin))))) (fun Hq=>Hq b3=some (.cells 24 [v])) (by kernel_rfl) (by kernel_rfl) (d3) (fun H' N hp hN=>?_) ?_
   rotate_left 1
   ·simp only[opsAt,List.drop,List.take,List.cons_append,List.nil_append]
    simp +decide only[ZS,QS,↓reduceIte,t12,hp,dl,pcs]
    exact ⟨bs_ok (by kernel_rfl) (U13 ⟨rfl,rfl⟩),hN⟩
   refine U10 fun N hN=>?_
   simp only[List.drop,List.take]
   simp +decide only[ZS,↓reduceIte]
   refine vappend_sl (z:=zV) d.sl rfl (by omega) d.nn fun b9 cap hb9 hnc=>?_
   rw[M10]
   simp +decide only[ZS,↓reduceIte]
   refine hN _ ⟨fun h=>(by cases h),?_⟩
   clear hN N
   obtain ⟨hnb,dS⟩:=d.snoc (cap:=cap) hb9 y (.row 27 7 cap (exs xs++[zV]))
   generalize hH1:H'.upd b9 (.row 27 7 cap (exs xs++[zV]))=H1 at *
   have hA:H1 b9=some (.row 27 7 cap (exs xs++[zV])):=by rw[<-hH1];exact HM.upd_same _ _ _
   have h3A:H1 b3=some (.cells 24 [v]):=by rw[<-hH1,HM.upd_ne _ _ (Ne.symm hnb)];exact d3
   have hA3:(H1.upd b3 (.cells 24 [.mlist b9 (xs.length+1) cap])) b9=some (.row 27 7 cap (exs xs++[zV])):=by rw[HM.upd_ne _ _ hnb];exact hA
   have h3B:(H1.upd b9 (.row 27 7 cap (exs (xs++[y])))) b3=some (.cells 24 [v]):=by rw[HM.upd_ne _ _ (Ne.symm hnb)];exact h3A
   have hS:((H1.upd b9 (.row 27 7 cap (exs (xs++[y])))).upd b3 (.cells 24 [.mlist b9 (xs.length+1) cap]))=((H1.upd b3 (.cells 24 [.mlist b9 (xs.length+1) cap])).upd b9 (.row 27 7 cap (exs (xs++[y])))):=HM.upd_comm _ _ _ hnb
   have hin:((0:Int)<=(xs.length:Int)/\(xs.length:Int)<((xs.length+1:Nat):Int))=True:=eq_true ⟨by omega,by omega⟩
   have hx1:(exs xs++[zV])[xs.length]?=some zV:=exs_last xs zV
   refine wt_alt ?_ ?_
   ·refine U10 fun N hN=>?_
    simp only[List.drop,List.take]
    simp +decide only[ZS,↓reduceIte,hin,Int.toNat_natCast]
    refine hN _ ⟨fun h=>(by cases h),?_⟩
    clear hN N
    refine wt_alt ?_ ?_
    ·refine U10 fun N hN=>?_
     simp only[List.drop,List.take]
     simp +decide only[ZS,↓reduceIte,Y11 (hb:=hA) (hx:=hx1),put0]
     rw[exs_put]
     refine hN _ ⟨fun h=>(by cases h),?_⟩
     clear hN N
     refine U10 fun N hN=>?_
     simp only[List.drop,List.take]
     simp +decide only[ZS,↓reduceIte,t12,h3B]
     refine hN _ ⟨fun h=>(by cases h),O12 ?_⟩
     clear hN N
     simp only[AX.then,AX.inBlock]
     exact ⟨rfl,_,Drop.refl _,_,dS⟩
    ·refine U10 fun N hN=>?_
     simp only[List.drop,List.take]
     simp +decide only[ZS,↓reduceIte,t12,h3A]
     refine hN _ ⟨fun h=>(by cases h),?_⟩
     clear hN N
     refine U10 fun N hN=>?_
     simp only[List.drop,List.take]
     simp +decide only[ZS,↓reduceIte,Y11 (hb:=hA3) (hx:=hx1),put0]
     rw[exs_put,<-hS]
     refine hN _ ⟨fun h=>(by cases h),O12 ?_⟩
     clear hN N
     simp only[AX.then,AX.inBlock]
     exact ⟨rfl,_,Drop.refl _,_,dS⟩
   ·refine U10 fun N hN=>?_
    simp only[List.drop,List.take]
    simp +decide only[ZS,↓reduceIte,t12,h3A]
    refine hN _ ⟨fun h=>(by cases h),?_⟩
    clear hN N
    refine U10 fun N hN=>?_
    simp only[List.drop,List.take]
    simp +decide only[ZS,↓reduceIte,hin,Int.toNat_natCast]
    refine hN _ ⟨fun h=>(by cases h),?_⟩
    clear hN N
    refine U10 fun N hN=>?_
    simp only[List.drop,List.take]
    simp +decide only[ZS,↓reduceIte,Y11 (hb:=hA3) (hx:=hx1),put0]
    rw[exs_put,<-hS]
    refine hN _ ⟨fun h=>(by cases h),O12 ?_⟩
    clear hN N
    simp only[AX.then,AX.inBlock]
    exact ⟨rfl,_,Drop.refl _,_,dS⟩
  ·rintro D H' ⟨v,d⟩ hD _
   rw[T11,hpR,<-hlsl,List.take_length] at d
   simp only[AX.then,AX.inBlock]
   rw[hHb] at d
   obtain ⟨hdr,hvw⟩:=d.see (G:=G) hb3 (by omega)
   refine VW_see (s:=⟨tn,H',[.mark D]⟩) (i:=12) (H1:=Hr) (v':=.ref [.list (exs ls)]) hdr (by show View G H' Hr (tn 12) _;rw[u12];exact hvw) ?_
   clear hvw hdr d hD hHb h33 u12
   rw[C10] at u4
   refine A10 [] fun N E hN hE=>?_
   simp +decide only[ZS,↓reduceIte,u4]
   refine D10 (withP_c eR hfR ls (by rw[hlsl,hpR])) ?_
   simp +decide only[ZS,↓reduceIte,u8,hrr]
   refine hN _ ?_
   clear hN hE N E
   refine L10 ?_
   rw[<-hHr]
   exact Fin_ex _ rfl u8 hr (fun d hd=>⟨_,by simpa using hd⟩) (by rw[C10];rfl) hk
  ·rintro _ _ _ _ hJ
   exact hJ.elim
end
abbrev Slo:=Option Nat×Nat×Bool
def armI:Option Nat->Int
 |none => -1
 |some k=>k
def slotV (g:Slo):AV:=.agg [.int (armI g.1),.int g.2.1,.bool g.2.2]
def zAr:Ar:=.mk emp [] zeroEx
def namesAt (e:Ex):Option Nat->List ByteArray
 |none=>e.names
 |some k=>(e.arms.getD k zAr).names
def nameAt (e:Ex) (g:Slo):ByteArray:=(namesAt e g.1).getD g.2.1 emp
def slotOk (e:Ex) (g:Slo):Prop:=g.2.1<(namesAt e g.1).length/\∀ k,g.1=some k->k<e.arms.length
def place (e:Ex):Option Nat->Nat->Bool
 |none,i=>decide (i<e.l.length)
 |some k,i=>decide (i=e.l.length+k)
def setAt (e:Ex) (g:Slo) (s:ByteArray):Ex:=match g.1 with
 |none=>.mk e.k e.n e.s e.t (e.names.set g.2.1 s) e.l e.arms
 |some k=>.mk e.k e.n e.s e.t e.names e.l (e.arms.set k (.mk (e.arms.getD k zAr).op ((e.arms.getD k zAr).names.set g.2.1 s) (e.arms.getD k zAr).body))
def renL (e:Ex) (g:Slo) (s:ByteArray):List Ex:=e.parts.mapIdx fun i p=>if place e g.1 i&&inside e g.2.2 (nameAt e g) i then renameF (nameAt e g) s g.2.2 p else p
def renamedF (e:Ex) (g:Slo) (s:ByteArray):Ex:=setAt (withP e (renL e g s)) g s
theorem getD_at {α:Type} {l:List α} {i:Nat} (h:i<l.length) (d:α):l.getD i d=l[i]:=by
 rw[List.getD_eq_getElem?_getD,List.getElem?_eq_getElem h];rfl
section
variable {G:GT} {H:HM}
theorem name_c (e:Ex) (g:Slo) (hf:fit1 e) (hg:slotOk e g):PureF prog G 112 [slotV g,e.av] H (.str (nameAt e g)):=by
 obtain ⟨j,i,h⟩:=g
 obtain ⟨hi,hj⟩:=hg
 have hbb:bnd=16777216:=rfl
 obtain ⟨_,_,hnl,_,hal,_,hars⟩:=id hf
 refine P10 (fn:=f112) func112 rfl (by kernel_rfl) (by kernel_rfl) (Nat.le_of_ble_eq_true (by kernel_rfl)) fun K hk=>?_
 cases j with
 |none=>
  have hi:i<e.names.length:=hi
  have hat:(strs e.names)[i]?=some (.str (nameAt e (none,i,h))):=by
   rw[strs,List.getElem?_map,List.getElem?_eq_getElem hi]
   show some (AV.str _)=some (AV.str (e.names.getD i emp))
   rw[getD_at hi]
  simp only[slotV,armI]
  refine A10 [] fun N E hN hE=>?_
  simp +decide only[ZS,↓reduceIte]
  refine hN _ ?_
  clear hN hE N E
  refine I10 (A10 [] fun N E hN hE=>?_)
  simp +decide only[ZS,↓reduceIte]
  refine hN _ ?_
  clear hN hE N E
  refine T10 rfl (fun hc=>?_) (fun hc=>?_)
  ·refine A10 [] fun N E hN hE=>?_
   simp +decide only[ZS,↓reduceIte,hat,nat0,Int.toNat_natCast]
   refine hN _ ?_
   clear hN hE N E
   exact L10 (K10 4 rfl hk)
  ·cases hc
 |some k=>
  have hkl:=hj k rfl
  have hi:i<(e.arms.getD k zAr).names.length:=hi
  have hak:(ars e.arms)[k]?=some (e.arms.getD k zAr).av:=by
   rw[ars,List.getElem?_map,List.getElem?_eq_getElem hkl,getD_at hkl];rfl
  have hat:(strs (e.arms.getD k zAr).names)[i]?=some (.str (nameAt e (some k,i,h))):=by
   rw[strs,List.getElem?_map,List.getElem?_eq_getElem hi]
   show some (AV.str _)=some (AV.str ((e.arms.getD k zAr).names.getD i emp))
   rw[getD_at hi]
  have hk0:decide ((k:Int)<0)=false:=decide_eq_false (by omega)
  simp only[slotV,armI]
  refine A10 [] fun N E hN hE=>?_
  simp +decide only[ZS,↓reduceIte]
  refine hN _ ?_
  clear hN hE N E
  refine I10 (A10 [] fun N E hN hE=>?_)
  simp +decide only[ZS,↓reduceIte,hk0]
  refine hN _ ?_
  clear hN hE N E
  refine T10 rfl (fun hc=>?_) (fun hc=>?_)
  ·cases hc
  refine G10 ?_
  refine V13 [] 12 (by kernel_rfl) (by kernel_rfl) (by kernel_rfl) fun N E hN hE=>?_
  simp only[List.take,List.drop]
  simp +decide only[ZS,QS,↓reduceIte,hak,hat,nat0,Int.toNat_natCast]
  refine hN _ ?_
  clear hN hE N E
  exact L10 (K10 4 rfl hk)
end
end Go.V
