/- The program's scope: what a node binds, its slices made by the caller. No condition. The program's scope: all bound names renamed. No condition. Regions in drawn order: an invariant over what is done. No condition. The program's scope: numbered names. No condition. The program's scope: Canon. No condition. The program's scope: Canon. No condition. -/
import Derived.Test.YtjeiboididfgmaaGreatDoorRH
import Derived.Test.YtjeiboididfgmaaGreatDoorRJ
import Derived.Test.YtjeiboididfgmaaGreatDoorRYf
set_option linter.unusedVariables false
set_option linter.unusedSimpArgs false
set_option linter.defProp false
set_option maxRecDepth 100000
namespace Go.V
open Go Go.Proofs.Tryz
section
variable {G:GT} {H:HM}
def OwnJ (H:HM) (b:Nat) (C:List AV) (i:Nat) (c:Bool) (s':AS):Prop:=s'.tmps 5=.bool c/\s'.tmps 1=.int i/\s'.tmps 2=.ref C/\s'.tmps 4=.addr b 0/\s'.H=H.upd b (.cells 120 [.nil0,.nil0])/\s'.defs=[]
theorem OwnJ.know {b:Nat} {C:List AV} {i:Nat} {c:Bool} {P:Program} {n:Nat} {r:Option Nat} {Q:AX->AS->Prop} {y:Code} {s':AS} (h:OwnJ H b C i c s')
  (hw:∀ tm,VW P G n r y Q ⟨upd (upd (upd (upd tm 4 (.addr b 0)) 2 (.ref C)) 1 (.int i)) 5 (.bool c),H.upd b (.cells 120 [.nil0,.nil0]),[]⟩):VW P G n r y Q s':=by
 obtain ⟨tm,H',ds⟩:=s'
 obtain ⟨f5,f1,f2,f4,gH,gds⟩:=h
 obtain rfl:H'=H.upd b (.cells 120 [.nil0,.nil0]):=gH
 obtain rfl:ds=[]:=gds
 exact B10 4 _ f4 (B10 2 _ f2 (B10 1 _ f1 (B10 5 _ f5 (hw _)) ) )
theorem ownG_c (e:Ex) (i:Nat) (hn:nodeErr e=0) (hi:i<e.l.length) {nn:Int} {s0 t0:ByteArray} {X Y:AV} (hX:X.one=true) (hY:Y.one=true) (hX1:X.cells=[X]) (hY1:Y.cells=[Y]):PureF prog G 126 [.agg [.int e.k,.int nn,.str s0,.str t0,.list (strs e.names),X,Y],.int i] H (.agg [.list (strs (ownV e i)),.list (strs (ownH e i))]):=by
 refine P10 (fn:=f126) func126 rfl (by kernel_rfl) (by kernel_rfl) (Nat.le_of_ble_eq_true (by kernel_rfl)) fun K hk=>?_
 refine A10 [] fun N E hN hE=>?_
 simp +decide only[ZS,↓reduceIte]
 refine F10 fun b hb=>?_
 simp +decide only[ZS,↓reduceIte]
 refine hN _ ?_
 clear hN hE N E
 have hbs:∀ cs:List AV,(H.upd b (.cells 120 cs)) b=some (.cells 120 cs):=fun cs=>HM.upd_same _ _ _
 have fin:∀ (tm:Nat->AV) (va ha:AV),tm 4=.addr b 0->ViewL G (H.upd b (.cells 120 [va,ha])) H [va,ha] [.list (strs (ownV e i)),.list (strs (ownH e i))]->Fin prog G f126 K .ret ⟨tm,H.upd b (.cells 120 [va,ha]),[]⟩:=fun tm va ha h4 hv=>
  ⟨fun d hd=>(by cases hd),_,_,H,I13 (a:=4) (t:=120) rfl ti120 rfl rfl h4 (hbs _),Drop.upd hb,View.agg hv,hk⟩
 have v0:∀ {cs:List AV} (x:AV),View G (H.upd b (.cells 120 cs)) H x x:=fun x=>View.of_drop (Drop.upd hb) x
 have n0:∀ {cs:List AV},View G (H.upd b (.cells 120 cs)) H .nil0 (.list []):=View.nil0 (Drop.upd hb)
 refine I10 (J10 ?_)
 refine VW_seqC (OwnJ H b [.int e.k,.int nn,.str s0,.str t0,.list (strs e.names),X,Y] i (own1 e i)) ?_ ?_
 ·refine A10 [] fun N E hN hE=>?_
  simp +decide only[ZS,↓reduceIte]
  refine hN _ ?_
  clear hN hE N E
  refine T10 rfl (fun hc=>?_) (fun hc=>?_)
  ·refine G10 ⟨?_,rfl,rfl,rfl,rfl,rfl⟩
   simp +decide only[ZS,↓reduceIte]
   rw[own1,hc];rfl
  have h4:decide (e.k=4)=false:=hc
  refine O11 [] (OwnJ H b [.int e.k,.int nn,.str s0,.str t0,.list (strs e.names),X,Y] i (decide (e.k=6)&&decide ((i:Int)=1))) (fun N E hN hE=>?_) ?_
  ·clear hE hk
   simp +decide only[ZS,↓reduceIte]
   refine V10 (fun hb6=>?_) (fun hb6=>?_)
   ·simp +decide only[ZS,↓reduceIte,hb6]
    refine hN _ ⟨?_,rfl,rfl,rfl,rfl,rfl⟩
    simp +decide only[ZS,↓reduceIte]
    rw[hb6];rfl
   ·simp +decide only[ZS,↓reduceIte,hb6]
    refine hN _ ⟨?_,rfl,rfl,rfl,rfl,rfl⟩
    simp +decide only[ZS,↓reduceIte]
    rw[hb6];rfl
  intro s' hs'
  refine hs'.know fun tm=>?_
  refine T10 rfl (fun hc=>?_) (fun hc=>?_)
  ·refine G10 ⟨?_,rfl,rfl,rfl,rfl,rfl⟩
   simp +decide only[ZS,↓reduceIte]
   rw[own1,hc,h4];rfl
  have h6:(decide (e.k=6)&&decide ((i:Int)=1))=false:=hc
  refine VW_regEC [] (OwnJ H b [.int e.k,.int nn,.str s0,.str t0,.list (strs e.names),X,Y] i (decide (e.k=17)&&decide ((i:Int)=2))) (fun N E hN hE=>?_) ?_
  ·clear hE hk
   simp +decide only[ZS,↓reduceIte]
   refine V10 (fun hb6=>?_) (fun hb6=>?_)
   ·simp +decide only[ZS,↓reduceIte,hb6]
    refine hN _ ⟨?_,rfl,rfl,rfl,rfl,rfl⟩
    simp +decide only[ZS,↓reduceIte]
    rw[hb6];rfl
   ·simp +decide only[ZS,↓reduceIte,hb6]
    refine hN _ ⟨?_,rfl,rfl,rfl,rfl,rfl⟩
    simp +decide only[ZS,↓reduceIte]
    rw[hb6];rfl
  intro s' hs'
  obtain ⟨f5,fr⟩:=hs'
  refine ⟨?_,fr⟩
  rw[f5,own1,h4,h6];rfl
 intro s' hs'
 refine hs'.know fun tm=>?_
 refine T10 rfl (fun hc=>?_) (fun hc=>?_)
 ·have hnm:1<=e.names.length:=by
   refine one_name hn ?_
   simp only[own1,Bool.or_eq_true,Bool.and_eq_true,decide_eq_true_eq] at hc
   rcases hc with (h|h)|h
   ·exact .inl h
   ·exact .inr (.inl h.1)
   ·exact .inr (.inr h.1)
  have hk15:e.k≠15:=by
   simp only[own1,Bool.or_eq_true,Bool.and_eq_true,decide_eq_true_eq] at hc
   omega
  have hle:((1:Int)<=(e.names.length:Int))=True:=eq_true (by omega)
  have ht1:Int.toNat 1=1:=rfl
  refine A10 [] fun N E hN hE=>?_
  simp +decide only[ZS,↓reduceIte,hbs,O10,strs_szc,hle,ht1,strs_take]
  refine hN _ ?_
  clear hN hE N E
  refine L10 (fin _ _ _ rfl ?_)
  rw[ownV,if_pos hc,ownH,if_neg hk15]
  exact .cons (v0 _) (.cons n0 .nil)
 have h1:own1 e i=false:=by simpa using hc
 refine A10 [] fun N E hN hE=>?_
 simp +decide only[ZS,↓reduceIte]
 refine hN _ ?_
 clear hN hE N E
 refine T10 rfl (fun hc=>?_) (fun hc=>?_)
 ·have h7:e.k=7:=by simpa using hc
  obtain ⟨q1,q2⟩:=rec_shape hn h7
  have hw:IntKind.i64.wrap ((2:Int)-i)=2-i:=i64_small (by omega) (by omega)
  have hle:((0:Int)<=2-(i:Int)/\(2:Int)-(i:Int)<=(e.names.length:Int))=True:=eq_true (by omega)
  have ht1:Int.toNat (2-(i:Int))=2-i:=by omega
  refine A10 [] fun N E hN hE=>?_
  simp +decide only[ZS,↓reduceIte,hbs,O10,strs_szc,hw,hle,ht1,strs_take]
  refine hN _ ?_
  clear hN hE N E
  refine L10 (fin _ _ _ rfl ?_)
  rw[ownV,if_neg (by rw[h1];decide),if_pos h7,ownH,if_neg (by omega)]
  exact .cons (v0 _) (.cons n0 .nil)
 have h7:e.k≠7:=by simpa using hc
 refine A10 [] fun N E hN hE=>?_
 simp +decide only[ZS,↓reduceIte]
 refine hN _ ?_
 clear hN hE N E
 refine T10 rfl (fun hc=>?_) (fun hc=>?_)
 ·have h15:e.k=15:=by simpa using hc
  refine A10 [] fun N E hN hE=>?_
  simp +decide only[ZS,↓reduceIte,hbs]
  refine hN _ ?_
  clear hN hE N E
  refine L10 (fin _ _ _ rfl ?_)
  rw[ownV,if_neg (by rw[h1];decide),if_neg h7,ownH,if_pos h15]
  exact .cons n0 (.cons (v0 _) .nil)
 have h15:e.k≠15:=by simpa using hc
 refine G10 ?_
 refine A10 [] fun N E hN hE=>?_
 simp +decide only[ZS,↓reduceIte,hbs]
 refine hN _ ?_
 clear hN hE N E
 refine L10 (fin _ _ _ rfl ?_)
 rw[ownV,if_neg (by rw[h1];decide),if_neg h7,ownH,if_neg h15]
 exact .cons n0 (.cons n0 .nil)
end
theorem elemPut_str (a b:ByteArray):elemPut (.str a) 0 (.str b) 1=some (.str b):=rfl
theorem VW_thenC {P:Program} {G:GT} {n:Nat} {r:Option Nat} {Q:AX->AS->Prop} {K:AS->Prop} {s:AS} (R:AS->Prop) {c:Code} (h:VW P G n r c (AX.then R Q) s) (hr:∀ s',R s'->K s'):VW P G n r c (AX.then K Q) s:=
 h.mono fun x s' hx=>by cases x<;>first|exact hr _ hx|exact hx
def zc:List AV:=[.int 0,.int 0,.str emp,.str emp,.nil0,.nil0,.nil0]
def Sl (H Hc:HM) (v:AV) (e sz:Nat) (ys:List AV):Prop:=(ys=[]/\v=.nil0)\/∃ b cap,v=.mlist b ys.length cap/\Hc b=some (.row e sz cap ys)/\H b=none
theorem Sl.one {H Hc:HM} {v:AV} {e sz:Nat} {ys:List AV} (h:Sl H Hc v e sz ys):v.one=true/\v.cells=[v]:=by
 rcases h with ⟨_,rfl⟩|⟨_,_,rfl,_⟩<;>exact ⟨rfl,rfl⟩
theorem Sl.keep {H Hc Hd:HM} {v:AV} {e sz:Nat} {ys:List AV} (h:Sl H Hc v e sz ys) (hk:∀ b cap,Hc b=some (.row e sz cap ys)->H b=none->Hd b=Hc b):Sl H Hd v e sz ys:=by
 rcases h with h|⟨b,cap,h1,h2,h3⟩
 ·exact .inl h
 ·exact .inr ⟨b,cap,h1,by rw[hk b cap h2 h3];exact h2,h3⟩
theorem Sl.src {H Hc:HM} {v:AV} {e sz:Nat} {ys:List AV} (h:Sl H Hc v e sz ys):srcOf Hc v=some ys:=by
 rcases h with ⟨rfl,rfl⟩|⟨b,cap,rfl,h2,_⟩
 ·rfl
 ·unfold srcOf
  simp only[h2]
  simp
theorem Sl.len {H Hc:HM} {v:AV} {e sz:Nat} {ys:List AV} (h:Sl H Hc v e sz ys):vlenb Hc (some (.slice e sz)) v=some (.int ys.length):=by
 rcases h with ⟨rfl,rfl⟩|⟨b,cap,rfl,h2,_⟩<;>rfl
theorem Sl.view {G:GT} {H Hc H1:HM} {v:AV} {e sz:Nat} {ys:List AV} (h:Sl H Hc v e sz ys) (hd:Drop Hc H1) (hf:∀ b,H b=none->H1 b=none) (hl:ys.length<=lim):View G Hc H1 v (.list ys):=by
 rcases h with ⟨rfl,rfl⟩|⟨b,cap,rfl,h2,h3⟩
 ·exact View.nil0 hd
 ·exact View.row hd h2 (hf b h3) rfl hl
theorem OutX.one {H0 H:HM} {v:AV} {e sz:Nat} {xs:List AV} (h:OutX H0 H v e sz xs):v.one=true/\v.cells=[v]:=by
 rcases h with ⟨_,rfl,_⟩|⟨_,_,_,rfl,_⟩<;>exact ⟨rfl,rfl⟩
theorem OutX.get {H0 H:HM} {v:AV} {e sz:Nat} {xs:List AV} {b:Nat} {o:AObj} (h:OutX H0 H v e sz xs) (hb:H0 b=some o):H b=some o:=by
 rcases h with ⟨_,_,rfl⟩|⟨b',_,h1,_,rfl⟩
 ·exact hb
 ·rw[HM.upd_ne _ _ (fun q=>by rw[q,h1] at hb;cases hb)];exact hb
theorem OutX.fresh {H0 H:HM} {v:AV} {e sz:Nat} {xs:List AV} {b:Nat} (h:OutX H0 H v e sz xs) (hb:H b=none):H0 b=none:=by
 rcases h with ⟨_,_,rfl⟩|⟨b',_,h1,_,rfl⟩
 ·exact hb
 ·exact (G11 hb).2
theorem OutX.sl {H H0 Hc:HM} {v:AV} {e sz:Nat} {xs:List AV} (h:OutX H0 Hc v e sz xs) (h0:∀ b,H0 b=none->H b=none):Sl H Hc v e sz xs:=by
 rcases h with ⟨h1,h2,_⟩|⟨b,cap,h1,h2,rfl⟩
 ·exact .inl ⟨h1,h2⟩
 ·exact .inr ⟨b,cap,h2,HM.upd_same _ _ _,h0 b h1⟩
structure Own (H:HM) (b1 b2 r b4:Nat) (x1 x2:AObj) (e:Ex) (vN vL vA:AV) (Hc:HM):Prop where
 ne:b1≠b2
 n1:H b1≠none
 n2:H b2≠none
 fr:H r=none
 f4:H b4=none
 r4:r≠b4
 rr:∃ cs,Hc r=some (.cells 27 cs)/\cs.length=7
 h4:Hc b4=some (.cells 27 [.int e.k,.int e.n,.str e.s,.str e.t,vN,vL,vA])
 sN:Sl H Hc vN 9 1 (strs e.names)
 sL:Sl H Hc vL 27 7 (exs e.l)
 sA:Sl H Hc vA 85 9 (ars e.arms)
 h1:Hc b1=some x1
 h2:Hc b2=some x2
 rest:∀ b,H b≠none->b≠b1->b≠b2->Hc b=H b
theorem Sl.other {H Hc:HM} {v:AV} {e sz:Nat} {ys:List AV} {b:Nat} {o:AObj} (h:Sl H Hc v e sz ys) (hb:H b≠none\/∀ cap ys,Hc b≠some (.row e sz cap ys)):Sl H (Hc.upd b o) v e sz ys:=
 h.keep fun b' cap h1 h2=>HM.upd_ne _ _ fun q=>by
  subst q
  rcases hb with h|h
  ·exact h h2
  ·exact h _ _ h1
theorem Own.next {H:HM} {b1 b2 r b4:Nat} {x1 x2:AObj} {e:Ex} {vN vL vA:AV} {Hc:HM} (w:Own H b1 b2 r b4 x1 x2 e vN vL vA Hc) (y1 y2:AObj):Own H b1 b2 r b4 y1 y2 e vN vL vA ((Hc.upd b1 y1).upd b2 y2):=by
 have g:∀ {b},H b=none->b≠b1/\b≠b2:=fun h=>⟨fun q=>w.n1 (by rw[<-q];exact h),fun q=>w.n2 (by rw[<-q];exact h)⟩
 have k:∀ {b},H b=none->((Hc.upd b1 y1).upd b2 y2) b=Hc b:=fun h=>by rw[HM.upd_ne _ _ (g h).2,HM.upd_ne _ _ (g h).1]
 refine ⟨w.ne,w.n1,w.n2,w.fr,w.f4,w.r4,?_,by rw[k w.f4];exact w.h4,(w.sN.other (.inl w.n1)).other (.inl w.n2),(w.sL.other (.inl w.n1)).other (.inl w.n2),(w.sA.other (.inl w.n1)).other (.inl w.n2),?_,HM.upd_same _ _ _,fun b h1 h2 h3=>?_⟩
 ·rw[k w.fr];exact w.rr
 ·rw[HM.upd_ne _ _ w.ne,HM.upd_same]
 ·rw[HM.upd_ne _ _ h3,HM.upd_ne _ _ h2];exact w.rest b h1 h2 h3
theorem Own.set {H:HM} {b1 b2 r b4:Nat} {x1 x2:AObj} {e e':Ex} {vN vL vA:AV} {Hc:HM} (w:Own H b1 b2 r b4 x1 x2 e vN vL vA Hc) {b et sz cap:Nat} {ys:List AV} {o:AObj} (hb:Hc b=some (.row et sz cap ys)) (hn:H b=none)
  (hk:e'.k=e.k/\e'.n=e.n/\e'.s=e.s/\e'.t=e.t) (sN:Sl H (Hc.upd b o) vN 9 1 (strs e'.names)) (sL:Sl H (Hc.upd b o) vL 27 7 (exs e'.l)) (sA:Sl H (Hc.upd b o) vA 85 9 (ars e'.arms)):Own H b1 b2 r b4 x1 x2 e' vN vL vA (Hc.upd b o):=by
 have n4:b≠b4:=fun q=>by rw[q,w.h4] at hb;cases hb
 have nr:b≠r:=fun q=>by
  obtain ⟨cs,h,_⟩:=w.rr
  rw[q,h] at hb;cases hb
 have n1:b≠b1:=fun q=>w.n1 (by rw[<-q];exact hn)
 have n2:b≠b2:=fun q=>w.n2 (by rw[<-q];exact hn)
 refine ⟨w.ne,w.n1,w.n2,w.fr,w.f4,w.r4,?_,?_,sN,sL,sA,?_,?_,fun b' h1 h2 h3=>?_⟩
 ·rw[HM.upd_ne _ _ (Ne.symm nr)];exact w.rr
 ·rw[HM.upd_ne _ _ (Ne.symm n4),hk.1,hk.2.1,hk.2.2.1,hk.2.2.2];exact w.h4
 ·rw[HM.upd_ne _ _ (Ne.symm n1)];exact w.h1
 ·rw[HM.upd_ne _ _ (Ne.symm n2)];exact w.h2
 ·rw[HM.upd_ne _ _ (fun q=>h1 (by rw[q];exact hn))];exact w.rest b' h1 h2 h3
theorem strs_set (l:List ByteArray) (i:Nat) (s:ByteArray):(strs l).set i (.str s)=strs (l.set i s):=by simp[strs,List.map_set]
theorem exs_set (l:List Ex) (i:Nat) (x:Ex):(exs l).set i x.av=exs (l.set i x):=by simp[exs,List.map_set]
theorem ars_set (l:List Ar) (i:Nat) (x:Ar):(ars l).set i x.av=ars (l.set i x):=by simp[ars,List.map_set]
theorem Own.setN {H:HM} {b1 b2 r b4:Nat} {x1 x2:AObj} {k n:Int} {s t:ByteArray} {ns:List ByteArray} {l:List Ex} {rs:List Ar} {vL vA:AV} {Hc:HM} {b m cap i:Nat} (w:Own H b1 b2 r b4 x1 x2 (.mk k n s t ns l rs) (.mlist b m cap) vL vA Hc) (hi:i<ns.length) (x:ByteArray) :
  Own H b1 b2 r b4 x1 x2 (.mk k n s t (ns.set i x) l rs) (.mlist b m cap) vL vA (Hc.upd b (.row 9 1 cap ((strs ns).set i (.str x)))):=by
 rcases w.sN with ⟨h,_⟩|⟨b',cap',h1,h2,h3⟩
 ·rw[show strs (Ex.mk k n s t ns l rs).names=strs ns from rfl] at h
  have:(strs ns).length=0:=by rw[h];rfl
  rw[O10] at this;omega
 ·obtain ⟨rfl,rfl,rfl⟩:b=b'/\m=(strs ns).length/\cap=cap':=by injection h1 with q1 q2 q3;exact ⟨q1,q2,q3⟩
  refine w.set h2 h3 ⟨rfl,rfl,rfl,rfl⟩ (.inr ⟨b,cap,?_,?_,h3⟩) (w.sL.other (.inr fun c y q=>by rw[h2] at q;cases q)) (w.sA.other (.inr fun c y q=>by rw[h2] at q;cases q))
  ·show AV.mlist b (strs ns).length cap=AV.mlist b (strs (ns.set i x)).length cap
   rw[O10,O10,List.length_set]
  ·rw[HM.upd_same,strs_set];rfl
theorem Own.setL {H:HM} {b1 b2 r b4:Nat} {x1 x2:AObj} {k n:Int} {s t:ByteArray} {ns:List ByteArray} {l:List Ex} {rs:List Ar} {vN vA:AV} {Hc:HM} {b m cap i:Nat} (w:Own H b1 b2 r b4 x1 x2 (.mk k n s t ns l rs) vN (.mlist b m cap) vA Hc) (hi:i<l.length) (x:Ex) :
  Own H b1 b2 r b4 x1 x2 (.mk k n s t ns (l.set i x) rs) vN (.mlist b m cap) vA (Hc.upd b (.row 27 7 cap ((exs l).set i x.av))):=by
 rcases w.sL with ⟨h,_⟩|⟨b',cap',h1,h2,h3⟩
 ·rw[show exs (Ex.mk k n s t ns l rs).l=exs l from rfl] at h
  have:(exs l).length=0:=by rw[h];rfl
  rw[Z10] at this;omega
 ·obtain ⟨rfl,rfl,rfl⟩:b=b'/\m=(exs l).length/\cap=cap':=by injection h1 with q1 q2 q3;exact ⟨q1,q2,q3⟩
  refine w.set h2 h3 ⟨rfl,rfl,rfl,rfl⟩ (w.sN.other (.inr fun c y q=>by rw[h2] at q;cases q)) (.inr ⟨b,cap,?_,?_,h3⟩) (w.sA.other (.inr fun c y q=>by rw[h2] at q;cases q))
  ·show AV.mlist b (exs l).length cap=AV.mlist b (exs (l.set i x)).length cap
   rw[Z10,Z10,List.length_set]
  ·rw[HM.upd_same,exs_set];rfl
theorem Own.setA {H:HM} {b1 b2 r b4:Nat} {x1 x2:AObj} {k n:Int} {s t:ByteArray} {ns:List ByteArray} {l:List Ex} {rs:List Ar} {vN vL:AV} {Hc:HM} {b m cap i:Nat} (w:Own H b1 b2 r b4 x1 x2 (.mk k n s t ns l rs) vN vL (.mlist b m cap) Hc) (hi:i<rs.length) (x:Ar) :
  Own H b1 b2 r b4 x1 x2 (.mk k n s t ns l (rs.set i x)) vN vL (.mlist b m cap) (Hc.upd b (.row 85 9 cap ((ars rs).set i x.av))):=by
 rcases w.sA with ⟨h,_⟩|⟨b',cap',h1,h2,h3⟩
 ·rw[show ars (Ex.mk k n s t ns l rs).arms=ars rs from rfl] at h
  have:(ars rs).length=0:=by rw[h];rfl
  rw[U11] at this;omega
 ·obtain ⟨rfl,rfl,rfl⟩:b=b'/\m=(ars rs).length/\cap=cap':=by injection h1 with q1 q2 q3;exact ⟨q1,q2,q3⟩
  refine w.set h2 h3 ⟨rfl,rfl,rfl,rfl⟩ (w.sN.other (.inr fun c y q=>by rw[h2] at q;cases q)) (w.sL.other (.inr fun c y q=>by rw[h2] at q;cases q)) (.inr ⟨b,cap,?_,?_,h3⟩)
  ·show AV.mlist b (ars rs).length cap=AV.mlist b (ars (rs.set i x)).length cap
   rw[U11,U11,List.length_set]
  ·rw[HM.upd_same,ars_set];rfl
section
variable {α:Type} (nx:α->ByteArray->Bool->ByteArray×α)
theorem nmF_snoc (h:Bool) (s:ByteArray):∀ (l:List ByteArray) (a:α),nmF nx h (l++[s]) a=((nmF nx h l a).1++[(nx (nmF nx h l a).2 s h).1],(nx (nmF nx h l a).2 s h).2)
 |[],a=>rfl
 |x::l,a=>by
  rw[List.cons_append,nmF,nmF_snoc h s l];rfl
theorem nmF_len (h:Bool):∀ (l:List ByteArray) (a:α),(nmF nx h l a).1.length=l.length
 |[],_=>rfl
 |x::l,a=>by rw[nmF,List.length_cons,List.length_cons,nmF_len h l]
def curN (e:Ex) (m:Nat) (a:α):List ByteArray×α:=((nmF nx (decide (e.k=15)) (e.names.take m) a).1++e.names.drop m,(nmF nx (decide (e.k=15)) (e.names.take m) a).2)
def many (e:Ex) (k:Nat):Nat:=if e.k=17 then min k 1 else k
theorem curN_len (e:Ex) (m:Nat) (a:α):(curN nx e m a).1.length=e.names.length:=by
 simp only[curN,List.length_append,nmF_len,List.length_take,List.length_drop];omega
theorem curN_at (e:Ex) {m:Nat} (a:α) (hm:m<e.names.length):(curN nx e m a).1[m]?=some e.names[m]:=by
 have:(nmF nx (decide (e.k=15)) (e.names.take m) a).1.length=m:=by rw[nmF_len,List.length_take];omega
 simp only[curN]
 rw[List.getElem?_append_right (by omega),this,Nat.sub_self,List.getElem?_drop,Nat.add_zero,List.getElem?_eq_getElem hm]
theorem curN_succ (e:Ex) {m:Nat} (a:α) (hm:m<e.names.length):curN nx e (m+1) a=((curN nx e m a).1.set m (nx (curN nx e m a).2 e.names[m] (decide (e.k=15))).1,(nx (curN nx e m a).2 e.names[m] (decide (e.k=15))).2):=by
 have hl:(nmF nx (decide (e.k=15)) (e.names.take m) a).1.length=m:=by rw[nmF_len,List.length_take];omega
 unfold curN
 rw[List.take_succ_eq_append_getElem hm,nmF_snoc]
 refine Prod.ext ?_ rfl
 simp only
 rw[List.set_append_right _ _ (by omega),hl,Nat.sub_self,W11 hm,List.set_cons_zero,List.append_assoc];rfl
theorem curN_end (e:Ex) (a:α) (h1:e.k=17->1<=e.names.length):curN nx e (many e e.names.length) a=nmE nx e a:=by
 unfold many nmE curN
 by_cases h:e.k=17
 ·rw[if_pos h,if_pos h,Nat.min_eq_right (h1 h),h];rfl
 ·rw[if_neg h,if_neg h,List.take_of_length_le (Nat.le_refl _),List.drop_of_length_le (Nat.le_refl _),List.append_nil]
theorem nmF_cnt {cnt:α->Nat} (hcnt:∀ a s h,cnt (nx a s h).2=cnt a+1) (h:Bool):∀ (l:List ByteArray) (a:α),cnt (nmF nx h l a).2=cnt a+l.length
 |[],_=>rfl
 |x::l,a=>by
  rw[nmF]
  show cnt (nmF nx h l (nx a x h).2).2=_
  rw[nmF_cnt hcnt h l,hcnt,List.length_cons];omega
end
section
variable {α:Type} (nx:α->ByteArray->Bool->ByteArray×α)
theorem goL_snoc (e:Ex) (ns:List ByteArray) (up:Mp) (r:Mp->α->Ex×α):∀ (rs:List (Mp->α->Ex×α)) (j:Nat) (a:α),goL e ns up j (rs++[r]) a =
  ((goL e ns up j rs a).1++[(r (mps (decide (e.k=15)) (ownV e (j+rs.length)++ownH e (j+rs.length)) ns up) (goL e ns up j rs a).2).1],(r (mps (decide (e.k=15)) (ownV e (j+rs.length)++ownH e (j+rs.length)) ns up) (goL e ns up j rs a).2).2)
 |[],j,a=>rfl
 |r'::rs,j,a=>by
  rw[List.cons_append,goL,goL_snoc e ns up r rs (j+1)]
  rw[show j+1+rs.length=j+(r'::rs).length by rw[List.length_cons];omega];rfl
theorem goL_len (e:Ex) (ns:List ByteArray) (up:Mp):∀ (rs:List (Mp->α->Ex×α)) (j:Nat) (a:α),(goL e ns up j rs a).1.length=rs.length
 |[],_,_=>rfl
 |r::rs,j,a=>by rw[goL,List.length_cons,List.length_cons,goL_len e ns up rs]
def curL (e:Ex) (ns:List ByteArray) (up:Mp) (i:Nat) (a:α):List Ex×α:=((goL e ns up 0 ((e.l.take i).map (renF nx)) a).1++e.l.drop i,(goL e ns up 0 ((e.l.take i).map (renF nx)) a).2)
theorem curL_len (e:Ex) (ns:List ByteArray) (up:Mp) (i:Nat) (a:α):(curL nx e ns up i a).1.length=e.l.length:=by
 simp only[curL,List.length_append,goL_len,List.length_map,List.length_take,List.length_drop];omega
theorem curL_at (e:Ex) (ns:List ByteArray) (up:Mp) {i:Nat} (a:α) (h:i<e.l.length):(curL nx e ns up i a).1[i]?=some e.l[i]:=by
 have:(goL e ns up 0 ((e.l.take i).map (renF nx)) a).1.length=i:=by rw[goL_len,List.length_map,List.length_take];omega
 simp only[curL]
 rw[List.getElem?_append_right (by omega),this,Nat.sub_self,List.getElem?_drop,Nat.add_zero,List.getElem?_eq_getElem h]
def upL (e:Ex) (ns:List ByteArray) (up:Mp) (i:Nat):Mp:=mps (decide (e.k=15)) (ownV e i++ownH e i) ns up
theorem curL_succ (e:Ex) (ns:List ByteArray) (up:Mp) {i:Nat} (a:α) (h:i<e.l.length):curL nx e ns up (i+1) a =
  ((curL nx e ns up i a).1.set i (renF nx e.l[i] (upL e ns up i) (curL nx e ns up i a).2).1,(renF nx e.l[i] (upL e ns up i) (curL nx e ns up i a).2).2):=by
 have hl:(goL e ns up 0 ((e.l.take i).map (renF nx)) a).1.length=i:=by rw[goL_len,List.length_map,List.length_take];omega
 have hl2:((e.l.take i).map (renF nx)).length=i:=by rw[List.length_map,List.length_take];omega
 unfold curL
 rw[List.take_succ_eq_append_getElem h,List.map_append,List.map_cons,List.map_nil,goL_snoc,hl2,Nat.zero_add]
 refine Prod.ext ?_ rfl
 simp only
 rw[List.set_append_right _ _ (by omega),hl,Nat.sub_self,W11 h,List.set_cons_zero,List.append_assoc];rfl
theorem curL_end (e:Ex) (up:Mp) (a:α):curL nx e (nmE nx e a).1 up e.l.length (nmE nx e a).2=lF nx e up a:=by
 unfold curL lF
 rw[List.take_of_length_le (Nat.le_refl _),List.drop_of_length_le (Nat.le_refl _),List.append_nil]
end
section
variable {α:Type} {nx:α->ByteArray->Bool->ByteArray×α} {cnt:α->Nat}
theorem nmE_cnt (hcnt:∀ a s h,cnt (nx a s h).2=cnt a+1) (e:Ex) (a:α):cnt (nmE nx e a).2<=cnt a+e.names.length:=by
 unfold nmE
 split
 ·show cnt (nmF nx false (e.names.take 1) a).2<=_
  rw[nmF_cnt nx hcnt,List.length_take];omega
 ·rw[nmF_cnt nx hcnt];omega
theorem goL_cnt (e:Ex) (ns:List ByteArray) (up:Mp):∀ (ps:List Ex) (j:Nat) (a:α),(∀ p∈ps,∀ up a,cnt (renF nx p up a).2<=cnt a+p.wid)->cnt (goL e ns up j (ps.map (renF nx)) a).2<=cnt a+(ps.map Ex.wid).sum
 |[],_,_,_=>by simp[goL]
 |p::ps,j,a,h=>by
  have h1:=goL_cnt e ns up ps (j+1) (renF nx p (mps (decide (e.k=15)) (ownV e j++ownH e j) ns up) a).2 (fun q hq=>h q (by simp[hq]))
  have h2:=h p (by simp) (mps (decide (e.k=15)) (ownV e j++ownH e j) ns up) a
  simp only[List.map_cons,goL,List.sum_cons]
  omega
def armW (x:Ar):Nat:=x.names.length+x.body.wid
theorem goR_cnt (hcnt:∀ a s h,cnt (nx a s h).2=cnt a+1) (up:Mp):∀ (xs:List Ar) (a:α),(∀ x∈xs,∀ up a,cnt (renF nx x.body up a).2<=cnt a+x.body.wid)->cnt (goR nx up xs (xs.map fun x=>renF nx x.body) a).2<=cnt a+(xs.map armW).sum
 |[],_,_=>by simp[goR]
 |x::xs,a,h=>by
  have h1:=goR_cnt hcnt up xs (armR nx up x (renF nx x.body) a).2 (fun q hq=>h q (by simp[hq]))
  have h2:cnt (armR nx up x (renF nx x.body) a).2<=cnt a+armW x:=by
   have h3:=h x (by simp) (mps false x.names (nmF nx false x.names a).1 up) (nmF nx false x.names a).2
   rw[nmF_cnt nx hcnt] at h3
   show cnt (renF nx x.body _ _).2<=_
   unfold armW;omega
  simp only[List.map_cons,goR,List.sum_cons]
  omega
theorem wid_parts (e:Ex):e.wid=1+e.names.length+(e.l.map Ex.wid).sum+(e.arms.map armW).sum:=by
 rw[Ex.wid_eq]
 unfold Ex.parts
 rw[List.map_append,List.sum_append,List.map_map]
 have:∀ l:List Ar,(l.map fun a=>a.names.length).sum+(l.map (Ex.wid∘Ar.body)).sum=(l.map armW).sum:=fun l=>by
  induction l with
  |nil=>rfl
  |cons x l ih=>simp only[List.map_cons,List.sum_cons,armW,Function.comp] at ih ⊢;omega
 have:=this e.arms
 omega
theorem renF_cnt (hcnt:∀ a s h,cnt (nx a s h).2=cnt a+1) (e:Ex):∀ (up:Mp) (a:α),cnt (renF nx e up a).2<=cnt a+e.wid:=by
 induction e using Ex.ind with
 |step e ih=>
  intro up a
  rw[Z12,wid_parts]
  have h1:=nmE_cnt hcnt e a
  have h2:=goL_cnt (cnt:=cnt) e (nmE nx e a).1 up e.l 0 (nmE nx e a).2 (fun p hp=>ih p (by unfold Ex.parts;simp[hp]))
  have h3:=goR_cnt hcnt up e.arms (lF nx e up a).2 (fun x hx=>ih x.body (by unfold Ex.parts;simp only[List.mem_append,List.mem_map];exact .inr ⟨x,hx,rfl⟩))
  show cnt (goR nx up e.arms (e.arms.map fun x=>renF nx x.body) (lF nx e up a).2).2<=_
  have h4:cnt (lF nx e up a).2<=cnt (nmE nx e a).2+(e.l.map Ex.wid).sum:=h2
  omega
theorem take_sum {l:List Nat} {i:Nat} (h:i<l.length):(l.take i).sum+l[i]<=l.sum:=by
 have:=congrArg List.sum (List.take_append_drop i l)
 rw[List.sum_append,List.drop_eq_getElem_cons h,List.sum_cons] at this
 omega
theorem curL_cnt (hcnt:∀ a s h,cnt (nx a s h).2=cnt a+1) (e:Ex) (ns:List ByteArray) (up:Mp) {i:Nat} (a:α) (h:i<e.l.length):cnt (curL nx e ns up i a).2+e.l[i].wid<=cnt a+(e.l.map Ex.wid).sum:=by
 have h1:=goL_cnt (cnt:=cnt) (nx:=nx) e ns up (e.l.take i) 0 a (fun p _=>renF_cnt hcnt p)
 have h2:=take_sum (l:=e.l.map Ex.wid) (i:=i) (by rw[List.length_map];exact h)
 rw[List.getElem_map,<-List.map_take] at h2
 show cnt (goL e ns up 0 ((e.l.take i).map (renF nx)) a).2+_<=_
 omega
end
section
variable {α:Type} (nx:α->ByteArray->Bool->ByteArray×α)
theorem goR_snoc (up:Mp) (x:Ar) (r:Mp->α->Ex×α):∀ (xs:List Ar) (rs:List (Mp->α->Ex×α)) (a:α),xs.length=rs.length->goR nx up (xs++[x]) (rs++[r]) a =
  ((goR nx up xs rs a).1++[(armR nx up x r (goR nx up xs rs a).2).1],(armR nx up x r (goR nx up xs rs a).2).2)
 |[],[],a,_=>rfl
 |[],_::_,_,h=>by simp at h
 |_::_,[],_,h=>by simp at h
 |y::xs,r'::rs,a,h=>by
  rw[List.cons_append,List.cons_append,goR,goR_snoc up x r xs rs _ (by simpa using h)];rfl
theorem goR_len (up:Mp):∀ (xs:List Ar) (rs:List (Mp->α->Ex×α)) (a:α),xs.length=rs.length->(goR nx up xs rs a).1.length=xs.length
 |[],[],a,_=>rfl
 |[],_::_,_,h=>by simp at h
 |_::_,[],_,h=>by simp at h
 |y::xs,r'::rs,a,h=>by rw[goR,List.length_cons,List.length_cons,goR_len up xs rs _ (by simpa using h)]
def curA (e:Ex) (up:Mp) (i:Nat) (a:α):List Ar×α:=((goR nx up (e.arms.take i) ((e.arms.take i).map fun x=>renF nx x.body) a).1++e.arms.drop i,(goR nx up (e.arms.take i) ((e.arms.take i).map fun x=>renF nx x.body) a).2)
theorem curA_len (e:Ex) (up:Mp) (i:Nat) (a:α):(curA nx e up i a).1.length=e.arms.length:=by
 simp only[curA,List.length_append,goR_len nx up _ _ a (List.length_map _).symm,List.length_take,List.length_drop];omega
theorem curA_at (e:Ex) (up:Mp) {i:Nat} (a:α) (h:i<e.arms.length):(curA nx e up i a).1[i]?=some e.arms[i]:=by
 have:(goR nx up (e.arms.take i) ((e.arms.take i).map fun x=>renF nx x.body) a).1.length=i:=by rw[goR_len nx up _ _ a (List.length_map _).symm,List.length_take];omega
 simp only[curA]
 rw[List.getElem?_append_right (by omega),this,Nat.sub_self,List.getElem?_drop,Nat.add_zero,List.getElem?_eq_getElem h]
theorem curA_succ (e:Ex) (up:Mp) {i:Nat} (a:α) (h:i<e.arms.length):curA nx e up (i+1) a =
  ((curA nx e up i a).1.set i (armR nx up e.arms[i] (renF nx e.arms[i].body) (curA nx e up i a).2).1,(armR nx up e.arms[i] (renF nx e.arms[i].body) (curA nx e up i a).2).2):=by
 have hl:(goR nx up (e.arms.take i) ((e.arms.take i).map fun x=>renF nx x.body) a).1.length=i:=by rw[goR_len nx up _ _ a (List.length_map _).symm,List.length_take];omega
 unfold curA
 rw[List.take_succ_eq_append_getElem h,List.map_append,List.map_cons,List.map_nil,goR_snoc nx up _ _ _ _ _ (List.length_map _).symm]
 refine Prod.ext ?_ rfl
 simp only
 rw[List.set_append_right _ _ (by omega),hl,Nat.sub_self,W11 h,List.set_cons_zero,List.append_assoc];rfl
theorem curA_end (e:Ex) (up:Mp) (a:α):curA nx e up e.arms.length (lF nx e up a).2=rF nx e up a:=by
 unfold curA rF
 rw[List.take_of_length_le (Nat.le_refl _),List.drop_of_length_le (Nat.le_refl _),List.append_nil]
end
section
variable {α:Type} {nx:α->ByteArray->Bool->ByteArray×α} {cnt:α->Nat}
theorem curA_cnt (hcnt:∀ a s h,cnt (nx a s h).2=cnt a+1) (e:Ex) (up:Mp) {i:Nat} (a:α) (h:i<e.arms.length):cnt (curA nx e up i a).2+armW e.arms[i]<=cnt a+(e.arms.map armW).sum:=by
 have h1:=goR_cnt hcnt up (e.arms.take i) a (fun p _=>renF_cnt hcnt p.body)
 have h2:=take_sum (l:=e.arms.map armW) (i:=i) (by rw[List.length_map];exact h)
 rw[List.getElem_map,<-List.map_take] at h2
 show cnt (goR nx up (e.arms.take i) ((e.arms.take i).map fun x=>renF nx x.body) a).2+_<=_
 omega
end
theorem elemPut_arN (x:Ar) (ns:List ByteArray):elemPut x.av 1 (.list (strs ns)) 9=some (Ar.mk x.op ns x.body).av:=by
 cases x with|mk op nms body=>cases body with|mk k n s t ns l rs=>rfl
theorem elemPut_arB (x:Ar) (y:Ex):elemPut x.av 2 y.av 9=some (Ar.mk x.op x.names y).av:=by
 cases x with|mk op nms body=>cases body with|mk k n s t ns l rs=>cases y with|mk k2 n2 s2 t2 ns2 l2 rs2=>rfl
theorem OutG.put {H0 H1:HM} {c:Nat} {x y:AObj} {v:AV} {e sz:Nat} {xs:List AV} (h:OutG H0 H1 v e sz xs) (hc:H0 c=some x):OutG (H0.upd c y) (H1.upd c y) v e sz xs:=by
 have:H0=H0.upd c x:=by
  funext k
  by_cases q:k=c
  ·subst q;rw[HM.upd_same];exact hc
  ·rw[HM.upd_ne _ _ q]
 rw[this] at h
 exact h.box
theorem mps_snoc (h:Bool) (s t:ByteArray):∀ (l m:List ByteArray) (up:Mp),l.length=m.length->mps h (l++[s]) (m++[t]) up=(s,t,h)::mps h l m up
 |[],[],_,_=>rfl
 |[],_::_,_,q=>by simp at q
 |_::_,[],_,q=>by simp at q
 |x::l,y::m,up,q=>by
  rw[List.cons_append,List.cons_append,mps,mps_snoc h s t l m _ (by simpa using q)];rfl
theorem mps_take (h:Bool):∀ (l m:List ByteArray) (up:Mp),mps h l (m.take l.length) up=mps h l m up
 |[],m,up=>by cases m<;>rfl
 |x::l,[],up=>rfl
 |x::l,y::m,up=>by
  rw[List.length_cons,List.take_succ_cons,mps,mps_take h l m];rfl
theorem elemPut_ex (x y:Ex):elemPut x.av 0 y.av 7=some y.av:=by
 unfold elemPut;rw[if_pos ⟨rfl,ex_size y⟩]
theorem own_short {e:Ex} (i:Nat):(ownV e i++ownH e i).length<=e.names.length:=by
 unfold ownV ownH own1
 by_cases h15:e.k=15
 ·rw[h15];simp
 ·rw[if_neg h15,List.append_nil]
  split
  ·rw[List.length_take];omega
  ·split
   ·rw[List.length_take];omega
   ·exact Nat.zero_le _
section
variable {G:GT} {α:Type} {nx:α->ByteArray->Bool->ByteArray×α} {o1 o2:α->AObj} {cnt:α->Nat} {top:Nat} {b1 b2:Nat} {g:FuncId} {cap:List AV}
theorem renamerIn_c (hne:b1≠b2) (hg:∀ a s h H,cnt a<top->s.size<=bnd->isVar s=true->H b1=some (o1 a)->H b2=some (o2 a)->CallV prog G (.func (.func g) [] cap) [.str s,.bool h] H fun r H'=>r=.ret (.str (nx a s h).1)/\H'=(H.upd b1 (o1 (nx a s h).2)).upd b2 (o2 (nx a s h).2))
  (hcnt:∀ a s h,cnt (nx a s h).2=cnt a+1) (e:Ex):∀ (he:Okk e) (up:Mp) (a:α) (H:HM),H b1=some (o1 a)->H b2=some (o2 a)->cnt a+e.wid<=top ->
  CallF prog G 77 [.agg [.func (.func g) [] cap],e.av,mV up] H fun r H'=>r=.ret (renF nx e up a).1.av/\H'=(H.upd b1 (o1 (renF nx e up a).2)).upd b2 (o2 (renF nx e up a).2):=by
 induction e using Ex.ind with
 |step e ih=>
  intro he up a H hb1 hb2 htop
  have hf:=he.1.one
  have hn:=he.node
  have hbb:=bnd_lt
  obtain ⟨_,_,hnl,hll,hal,hns,hars⟩:=hf
  have hlim:bnd<=lim:=by decide
  refine A11 (fn:=f77) func77 rfl (by kernel_rfl) (Nat.le_of_ble_eq_true (by kernel_rfl)) ?_
  refine A10 [4] fun N E hN hE=>?_
  simp +decide only[ZS,↓reduceIte,Nat.reduceAdd]
  refine F10 fun b4 hb4=>?_
  simp +decide only[ZS,↓reduceIte,Nat.reduceAdd]
  refine F10 fun r hr0=>?_
  obtain ⟨hr4,hr⟩:=G11 hr0
  simp +decide only[ZS,↓reduceIte,Nat.reduceAdd]
  refine hN _ ?_
  clear hN hE N E
  refine VW_scope ?_
  have k4:∀ cs,(H.upd b4 (.cells 27 cs)) b4=some (.cells 27 cs):=fun cs=>HM.upd_same _ _ _
  have k4r:∀ cs o,((H.upd b4 (.cells 27 cs)).upd r o) b4=some (.cells 27 cs):=fun cs o=>by rw[HM.upd_ne _ _ (Ne.symm hr4)];exact k4 cs
  refine I10 (A10 [] fun N E hN hE=>?_)
  simp +decide only[ZS,↓reduceIte,Nat.reduceAdd,k4r]
  refine D10 (occ_c e) ?_
  simp +decide only[ZS,↓reduceIte,Nat.reduceAdd]
  refine hN _ ?_
  clear hN hE N E
  refine VW_thenC (fun s'=>s'.tmps 2=mV up/\s'.tmps 3=.ref [.func (.func g) [] cap]/\s'.tmps 4=.addr b4 0/\s'.tmps 6=.addr r 0/\s'.defs=[]/\∃ cs,s'.H=(H.upd b4 (.cells 27 [.int e.k,.int e.n,.str (sF e up),.str e.t,.list (strs e.names),.list (exs e.l),.list (ars e.arms)])).upd r (.cells 27 cs)/\cs.length=7) ?_ ?_
  ·refine A10 [] fun N E hN hE=>?_
   simp +decide only[ZS,↓reduceIte,Nat.reduceAdd]
   refine hN _ ?_
   clear hN hE N E
   refine T10 rfl (fun hc=>?_) (fun hc=>?_)
   ·have hs:sF e up=getF up (occ e).1 (occ e).2.1:=by unfold sF;rw[if_pos hc]
    refine R10 [] fun N E hN hE=>?_
    simp +decide only[ZS,↓reduceIte,Nat.reduceAdd,mV_cells,mV_one]
    refine D10 (get_c up _ _) ?_
    simp +decide only[ZS,↓reduceIte,Nat.reduceAdd,mV_cells,mV_one,k4r]
    refine hN _ ⟨rfl,rfl,rfl,rfl,rfl,zc,?_,?_⟩
    ·rw[hs,HM.upd_comm _ _ _ hr4,HM.upd_upd];rfl
    ·rfl
   ·have hs:sF e up=e.s:=by unfold sF;rw[if_neg (by rw[hc];decide)]
    refine G10 ⟨rfl,rfl,rfl,rfl,rfl,_,by rw[hs],rfl⟩
  rintro ⟨tm,H1,ds⟩ ⟨f2,f3,f4,f6,gds,z0,gH,hz0⟩
  obtain rfl:ds=[]:=gds
  replace f2:tm 2=mV up:=f2
  replace f3:tm 3=.ref [.func (.func g) [] cap]:=f3
  replace f4:tm 4=.addr b4 0:=f4
  replace f6:tm 6=.addr r 0:=f6
  obtain ⟨C0,hC0⟩:∃ C0,C0=[AV.int e.k,.int e.n,.str (sF e up),.str e.t,.list (strs e.names),.list (exs e.l),.list (ars e.arms)]:=⟨_,rfl⟩
  rw[<-hC0] at gH
  obtain rfl:H1=(H.upd b4 (.cells 27 C0)).upd r (.cells 27 z0):=gH
  have g4:((H.upd b4 (.cells 27 C0)).upd r (.cells 27 z0)) b4=some (.cells 27 C0):=by rw[HM.upd_ne _ _ (Ne.symm hr4),HM.upd_same]
  generalize hH1:(H.upd b4 (.cells 27 C0)).upd r (.cells 27 z0)=H1 at *
  have hp0:H1 b4=some (.cells 27 [AV.int e.k,.int e.n,.str (sF e up),.str e.t,.list (strs e.names),.list (exs e.l),.list (ars e.arms)]):=by rw[<-hC0];exact g4
  clear g4 hC0
  refine' VW_mix [] [0,1,3,4,6,7,9] (.one 2 true (.one 5 true (.one 8 true (.one 10 false (.one 11 false (.one 12 false (.one 13 false (.one 14 false .fin)))))))) (fun H'=>H' b4=some (.cells 27 [AV.int e.k,.int e.n,.str (sF e up),.str e.t,.list (strs e.names),.list (exs e.l),.list (ars e.arms)])) (by kernel_rfl) (by kernel_rfl) (hp0) (fun H' N hp hN=>?_) ?_
  rotate_left 1
  ·simp only[opsAt,List.drop,List.take,List.cons_append,List.nil_append]
   simp +decide only[ZS,QS,↓reduceIte,Nat.reduceAdd,hp,f4]
   exact hN
  refine U10 fun N hN=>?_
  simp only[List.drop,List.take]
  simp +decide only[ZS,↓reduceIte,Nat.reduceAdd]
  refine W10 (by kernel_rfl) (cloneS_c (src_list _) (by omega) fun vN Ha xN=>?_)
  rw[M10]
  simp +decide only[ZS,↓reduceIte,Nat.reduceAdd]
  refine hN _ ⟨fun _=>xN.get hp0,?_⟩
  clear hN N
  refine U10 fun N hN=>?_
  simp only[List.drop,List.take]
  simp +decide only[ZS,↓reduceIte,Nat.reduceAdd]
  refine W10 (by kernel_rfl) (cloneE_c (src_list _) (by omega) fun vL Hb xL=>?_)
  rw[M10]
  simp +decide only[ZS,↓reduceIte,Nat.reduceAdd]
  refine hN _ ⟨fun _=>xL.get (xN.get hp0),?_⟩
  clear hN N
  refine U10 fun N hN=>?_
  simp only[List.drop,List.take]
  simp +decide only[ZS,↓reduceIte,Nat.reduceAdd]
  refine W10 (by kernel_rfl) (cloneA_c (src_list _) (by omega) fun vA Hd xA=>?_)
  rw[M10]
  simp +decide only[ZS,↓reduceIte,Nat.reduceAdd]
  have hp3:=xA.get (xL.get (xN.get hp0))
  refine hN _ ⟨fun _=>hp3,?_⟩
  clear hN N
  have kd:∀ cs,(Hd.upd b4 (.cells 27 cs)) b4=some (.cells 27 cs):=fun cs=>HM.upd_same _ _ _
  refine U10 fun N hN=>?_
  simp only[List.drop,List.take]
  simp +decide only[ZS,↓reduceIte,Nat.reduceAdd,f4,hp3,xN.one.1,xN.one.2]
  refine hN _ ⟨fun h=>(by cases h),?_⟩
  clear hN N
  refine U10 fun N hN=>?_
  simp only[List.drop,List.take]
  simp +decide only[ZS,↓reduceIte,Nat.reduceAdd,f4,hp3,kd]
  refine hN _ ⟨fun h=>(by cases h),?_⟩
  clear hN N
  refine U10 fun N hN=>?_
  simp only[List.drop,List.take]
  simp +decide only[ZS,↓reduceIte,Nat.reduceAdd,f4,hp3,kd,xL.one.1,xL.one.2]
  refine hN _ ⟨fun h=>(by cases h),?_⟩
  clear hN N
  refine U10 fun N hN=>?_
  simp only[List.drop,List.take]
  simp +decide only[ZS,↓reduceIte,Nat.reduceAdd,f4,hp3,kd]
  refine hN _ ⟨fun h=>(by cases h),?_⟩
  clear hN N
  refine U10 fun N hN=>?_
  simp only[List.drop,List.take]
  simp +decide only[ZS,↓reduceIte,Nat.reduceAdd,f4,hp3,kd,xA.one.1,xA.one.2]
  refine hN _ ⟨fun h=>(by cases h),?_⟩
  clear hN N
  refine O12 ?_
  have d1:∀ b,H1 b=none->H b=none:=fun b h=>by
   rw[<-hH1] at h
   exact (G11 (G11 h).2).2
  have q4:∀ b,H b≠none->b≠b4/\b≠r:=fun b h=>⟨fun q=>h (by rw[q];exact hb4),fun q=>h (by rw[q];exact hr)⟩
  have own:Own H b1 b2 r b4 (o1 a) (o2 a) (.mk e.k e.n (sF e up) e.t e.names e.l e.arms) vN vL vA (Hd.upd b4 (.cells 27 [.int e.k,.int e.n,.str (sF e up),.str e.t,vN,vL,vA])):=by
   have hrow:∀ {b et sz cap ys},Hd b=some (.row et sz cap ys)->b≠b4:=fun h q=>by rw[q,hp3] at h;cases h
   have gx:∀ {b o},H1 b=some o->Hd b=some o:=fun h=>xA.get (xL.get (xN.get h))
   have g1:∀ {b o},H b=some o->Hd b=some o:=fun {b o} h=>gx (by
    have:=q4 b (by rw[h];simp)
    rw[<-hH1,HM.upd_ne _ _ this.2,HM.upd_ne _ _ this.1];exact h)
   have dN:∀ b,Ha b=none->H b=none:=fun b h=>d1 b (xN.fresh h)
   have dL:∀ b,Hb b=none->H b=none:=fun b h=>dN b (xL.fresh h)
   refine ⟨hne,by rw[hb1];simp,by rw[hb2];simp,hr,hb4,hr4,⟨z0,?_,hz0⟩,kd _,?_,?_,?_,?_,?_,?_⟩
   ·rw[HM.upd_ne _ _ hr4];exact gx (by rw[<-hH1,HM.upd_same])
   ·exact ((xN.sl d1).keep (Hd:=Hd) (fun b cap h _=>by rw[xA.get (xL.get h),h])).keep fun b cap h _=>HM.upd_ne _ _ (hrow h)
   ·exact ((xL.sl dN).keep (Hd:=Hd) (fun b cap h _=>by rw[xA.get h,h])).keep fun b cap h _=>HM.upd_ne _ _ (hrow h)
   ·exact (xA.sl dL).keep fun b cap h _=>HM.upd_ne _ _ (hrow h)
   ·rw[HM.upd_ne _ _ (q4 b1 (by rw[hb1];simp)).1];exact g1 hb1
   ·rw[HM.upd_ne _ _ (q4 b2 (by rw[hb2];simp)).1];exact g1 hb2
   ·intro b h _ _
    rw[HM.upd_ne _ _ (q4 b h).1]
    obtain ⟨o,ho⟩:=Option.ne_none_iff_exists'.1 h
    rw[ho];exact g1 ho
  clear kd hp3 xN xL xA hp0 hH1 d1
  clear Ha Hb H1
  refine V12 fun tm1 htm=>?_
  have u2:tm1 2=mV up:=by rw[htm];exact f2
  have u3:tm1 3=.ref [.func (.func g) [] cap]:=by rw[htm];exact f3
  have u4:tm1 4=.addr b4 0:=by rw[htm];exact f4
  have u6:tm1 6=.addr r 0:=by rw[htm];exact f6
  clear htm f2 f3 f4 f6
  generalize Hd.upd b4 (.cells 27 [.int e.k,.int e.n,.str (sF e up),.str e.t,vN,vL,vA])=H2 at *
  refine A10 [] fun N E hN hE=>?_
  simp +decide only[ZS,↓reduceIte,Nat.reduceAdd,u4,own.h4]
  refine W10 (by kernel_rfl) (cloneS_c own.sN.src (Nat.le_trans hnl hlim) fun vO Ho xO=>?_)
  rw[M10]
  simp +decide only[ZS,↓reduceIte,Nat.reduceAdd]
  refine hN _ ?_
  clear hN hE N E
  refine VW_see (s:=⟨_,Ho,[]⟩) (i:=10) (H1:=H2) (v':=.list (strs e.names)) xO.out.drop (xO.out.view (by rw[O10];show e.names.length<=lim;omega)) ?_
  clear xO
  refine I10 (VW_label ?_)
  refine I10 (A10 [] fun N E hN hE=>?_)
  simp +decide only[ZS,↓reduceIte,Nat.reduceAdd,u4,own.h4,own.sN.len,O10]
  refine hN _ ?_
  clear hN hE N E
  refine J10 ?_
  obtain ⟨n,hnn⟩:∃ n,n=e.names.length:=⟨_,rfl⟩
  refine C11 (fun (k:Nat) s'=>k<=e.names.length/\s'.tmps 2=mV up/\s'.tmps 3=.ref [.func (.func g) [] cap]/\s'.tmps 4=.addr b4 0/\s'.tmps 6=.addr r 0/\s'.tmps 10=.list (strs e.names)/\s'.tmps 54=.int e.names.length/\s'.tmps 55=.int k/\s'.defs=[] /\
   Own H b1 b2 r b4 (o1 (curN nx e (many e k) a).2) (o2 (curN nx e (many e k) a).2) (.mk e.k e.n (sF e up) e.t (curN nx e (many e k) a).1 e.l e.arms) vN vL vA s'.H) (fun k=>e.names.length-k) 0 ?_ ?_
  ·refine ⟨Nat.zero_le _,u2,u3,u4,u6,rfl,rfl,rfl,rfl,?_⟩
   have:many e 0=0:=by unfold many;split<;>rfl
   rw[this]
   exact own
  rintro k ⟨tm2,H3,ds⟩ ⟨hk1,v2,v3,v4,v6,v10,v54,v55,hds,w⟩
  obtain rfl:ds=[]:=hds
  simp only at w
  refine B10 2 _ v2 (B10 3 _ v3 (B10 4 _ v4 (B10 6 _ v6 (B10 10 _ v10 (B10 54 _ v54 (B10 55 _ v55 ?_))))))
  refine A10 [] fun N E hN hE=>?_
  simp +decide only[ZS,↓reduceIte,Nat.reduceAdd]
  refine hN _ ?_
  clear hN hE N E
  refine I10 (T10 rfl (fun hc=>?_) (fun hc=>?_))
  ·have hlt:k<e.names.length:=by have:=of_decide_eq_true hc;omega
   refine G10 ?_
   refine I10 (J10 ?_)
   have w4:=w.h4
   simp only[ex_k,ex_n,ex_s,ex_t] at w4
   refine A10 [] fun N E hN hE=>?_
   simp +decide only[ZS,↓reduceIte,Nat.reduceAdd]
   refine hN _ ?_
   clear hN hE N E
   refine I10 (O11 [] (fun s'=>s'.tmps 64=.bool (decide (e.k=17)&&decide ((0:Int)<k))/\s'.tmps 2=mV up/\s'.tmps 3=.ref [.func (.func g) [] cap]/\s'.tmps 4=.addr b4 0/\s'.tmps 6=.addr r 0/\s'.tmps 10=.list (strs e.names)/\s'.tmps 11=.int k/\s'.tmps 54=.int e.names.length/\s'.tmps 55=.int k/\s'.H=H3/\s'.defs=[]) (fun N E hN hE=>?_) ?_)
   ·clear hE
    try clear hk
    simp +decide only[ZS,↓reduceIte,Nat.reduceAdd,w4]
    repeat' (refine V10 (fun hb=>?_) (fun hb=>?_)<;>simp +decide only[ZS,↓reduceIte,Nat.reduceAdd,w4, *])
    all_goals refine hN _ ?_
    all_goals clear hN
    all_goals refine ⟨?_,?_,?_,?_,?_,?_,?_,?_,?_,?_,?_⟩
    all_goals first|rfl|assumption|(simp only[C10];rfl)|(simp +decide only[ZS,↓reduceIte,Nat.reduceAdd]<;>simp_all;done)|(simp +decide only[ZS,↓reduceIte,Nat.reduceAdd]<;>simp_all<;>omega)
   rintro ⟨tb1,Hb1,dsb⟩ ⟨fb64,fb2,fb3,fb4,fb6,fb10,fb11,fb54,fb55,gHb,gdsb⟩
   obtain rfl:H3=Hb1:=gHb.symm
   obtain rfl:dsb=[]:=gdsb
   try simp only[C10] at fb2 fb3 fb4 fb6 fb10 fb11 fb54 fb55
   refine B10 64 _ fb64 (B10 2 _ fb2 (B10 3 _ fb3 (B10 4 _ fb4 (B10 6 _ fb6 (B10 10 _ fb10 (B10 11 _ fb11 (B10 54 _ fb54 (B10 55 _ fb55 ?_))))))))
   refine T10 rfl (fun hc=>?_) (fun hc=>?_)
   ·have hm:many e (k+1)=many e k:=by
     simp only[Bool.and_eq_true,decide_eq_true_eq] at hc
     unfold many;rw[if_pos hc.1,if_pos hc.1];omega
    refine L11 ?_
    refine R10 [] fun N E hN hE=>?_
    simp +decide only[ZS,↓reduceIte,Nat.reduceAdd,wrapN (show k<9223372036854775807 by omega)]
    refine hN _ ?_
    clear hN hE N E
    exact ⟨k+1,⟨hlt,rfl,rfl,rfl,rfl,rfl,rfl,rfl,rfl,by rw[hm];exact w⟩,by omega⟩
   ·have hm:many e k=k/\many e (k+1)=k+1:=by
     simp only[Bool.and_eq_false_iff,decide_eq_false_iff_not] at hc
     unfold many
     by_cases h:e.k=17
     ·rw[if_pos h,if_pos h]
      rcases hc with hc|hc
      ·exact absurd h hc
      ·omega
     ·rw[if_neg h,if_neg h];exact ⟨rfl,rfl⟩
    refine G10 ?_
    simp only[AX.then]
    rw[hm.1] at w
    have hlen2:=curN_len nx e k a
    have hat:=curN_at nx e a hlt
    obtain ⟨bN,cN,rfl,hbN,hfN⟩:∃ b cap,vN=.mlist b e.names.length cap/\H3 b=some (.row 9 1 cap (strs (curN nx e k a).1))/\H b=none:=by
     rcases w.sN with ⟨h,_⟩|⟨b,cap,h1,h2,h3⟩
     ·have h':strs (curN nx e k a).1=[]:=h
      have:(strs (curN nx e k a).1).length=0:=by rw[h'];rfl
      rw[O10] at this;omega
     ·exact ⟨b,cap,by rw[h1];show AV.mlist b (strs (curN nx e k a).1).length cap=_;rw[O10,hlen2],h2,h3⟩
    have hat2:(strs (curN nx e k a).1)[k]?=some (.str e.names[k]):=by rw[strs_get,hat];rfl
    have hki:((k:Int)<(e.names.length:Int))=True:=eq_true (by omega)
    refine' VW_mixE [] [0,1,2,3,4,5,6,7,8,9,10,11,12] (.one 13 true (.one 14 false (.one 15 false .fin))) (fun H'=>H' b4=some (.cells 27 [.int e.k,.int e.n,.str (sF e up),.str e.t,.mlist bN e.names.length cN,vL,vA])/\H' bN=some (.row 9 1 cN (strs (curN nx e k a).1))) (by kernel_rfl) (by kernel_rfl) (⟨w4,hbN⟩) (fun H' N hp hN=>?_) ?_
    rotate_left 1
    ·simp only[opsAt,List.drop,List.take,List.cons_append,List.nil_append]
     simp +decide only[ZS,QS,↓reduceIte,Nat.reduceAdd,hp.1,hp.2,hat2,nat0,Int.toNat_natCast,O10,hlen2,hki]
     exact hN
    refine U10 fun N hN=>?_
    simp only[List.drop,List.take]
    simp +decide only[ZS,↓reduceIte,Nat.reduceAdd]
    have hvar:isVar e.names[k]=true:=by
     refine bsN_var hn (e.names[k],if e.k=17 then false else decide (e.k=15)) ?_
     unfold bsN
     by_cases h17:e.k=17
     ·rw[if_pos h17,if_pos h17]
      refine List.mem_map.2 ⟨e.names[k],?_,rfl⟩
      simp only[Bool.and_eq_false_iff,decide_eq_false_iff_not] at hc
      have hk0:k=0:=by
       rcases hc with hc|hc
       ·exact absurd h17 hc
       ·omega
      subst hk0
      refine List.mem_of_getElem? (i:=0) ?_
      rw[List.getElem?_take_of_lt (by omega),List.getElem?_eq_getElem hlt]
     ·rw[if_neg h17,if_neg h17]
      exact List.mem_map.2 ⟨e.names[k],List.getElem_mem hlt,rfl⟩
    have hcl:=nmF_cnt nx hcnt (decide (e.k=15)) (e.names.take k) a
    have hwid:=Ex.wid_eq e
    refine CallV.mono (hg (curN nx e k a).2 e.names[k] (decide (e.k=15)) H3 (by show cnt (nmF nx (decide (e.k=15)) (e.names.take k) a).2<top;rw[hcl,List.length_take];omega) (hns _ (List.getElem_mem hlt)) hvar w.h1 w.h2) ?_
    rintro r' H4 ⟨rfl,rfl⟩
    rw[M10]
    simp +decide only[ZS,↓reduceIte,Nat.reduceAdd]
    have w':=w.next (o1 (nx (curN nx e k a).2 e.names[k] (decide (e.k=15))).2) (o2 (nx (curN nx e k a).2 e.names[k] (decide (e.k=15))).2)
    have w4':=w'.h4
    simp only[ex_k,ex_n,ex_s,ex_t] at w4'
    have hb1':∀ b,H b=none->b≠b1/\b≠b2:=fun b h=>⟨fun q=>w.n1 (by rw[<-q];exact h),fun q=>w.n2 (by rw[<-q];exact h)⟩
    have hbN':=(show ((H3.upd b1 (o1 (nx (curN nx e k a).2 e.names[k] (decide (e.k=15))).2)).upd b2 (o2 (nx (curN nx e k a).2 e.names[k] (decide (e.k=15))).2)) bN=some (.row 9 1 cN (strs (curN nx e k a).1)) by rw[HM.upd_ne _ _ (hb1' _ hfN).2,HM.upd_ne _ _ (hb1' _ hfN).1];exact hbN)
    refine hN _ ⟨fun _=>⟨w4',hbN'⟩,?_⟩
    clear hN N
    generalize (H3.upd b1 (o1 (nx (curN nx e k a).2 e.names[k] (decide (e.k=15))).2)).upd b2 (o2 (nx (curN nx e k a).2 e.names[k] (decide (e.k=15))).2)=H5 at *
    refine U10 fun N hN=>?_
    simp only[List.drop,List.take]
    simp +decide only[ZS,↓reduceIte,Nat.reduceAdd,hki,nat0,Int.toNat_natCast]
    refine hN _ ⟨fun h=>(by cases h),?_⟩
    clear hN N
    refine U10 fun N hN=>?_
    simp only[List.drop,List.take]
    simp +decide only[ZS,↓reduceIte,Nat.reduceAdd,Y11 (hb:=hbN') (hx:=hat2),elemPut_str]
    refine hN _ ⟨fun h=>(by cases h),O12 ?_⟩
    clear hN N
    have wS:=w'.setN (i:=k) (by rw[hlen2];exact hlt) (nx (curN nx e k a).2 e.names[k] (decide (e.k=15))).1
    have hcs:=curN_succ nx e a hlt
    refine R10 [] fun N E hN hE=>?_
    simp +decide only[ZS,↓reduceIte,Nat.reduceAdd,wrapN (show k<9223372036854775807 by omega)]
    refine hN _ ?_
    clear hN hE N E
    refine ⟨k+1,⟨hlt,rfl,rfl,rfl,rfl,rfl,rfl,rfl,rfl,?_⟩,by omega⟩
    rw[hm.2,hcs]
    exact wS
  ·have hkn:k=e.names.length:=by have:=of_decide_eq_false hc;omega
   rw[hkn,curN_end nx e a (fun h=>one_name hn (.inr (.inr h)))] at w
   clear v2 v3 v4 v6 v10 v54 v55 own u2 u3 u4 u6
   refine L11 ?_
   simp only[AX.then,AX.inBlock,↓reduceIte]
   have w4:=w.h4
   simp only[ex_k,ex_n,ex_s,ex_t] at w4
   obtain ⟨ns,hns⟩:∃ ns,(nmE nx e a).1=ns:=⟨_,rfl⟩
   obtain ⟨a1,ha1⟩:∃ a1,(nmE nx e a).2=a1:=⟨_,rfl⟩
   rw[hns,ha1] at w
   refine A10 [] fun N E hN hE=>?_
   simp +decide only[ZS,↓reduceIte,Nat.reduceAdd,w4]
   refine F10 fun b12 hb12=>?_
   have h12:∀ cs,(H3.upd b12 (.cells 27 cs)) b12=some (.cells 27 cs):=fun cs=>HM.upd_same _ _ _
   simp +decide only[ZS,↓reduceIte,Nat.reduceAdd,h12]
   refine hN _ ?_
   clear hN hE N E
   refine A10 [] fun N E hN hE=>?_
   simp +decide only[ZS,↓reduceIte,Nat.reduceAdd,h12]
   refine hN _ ?_
   clear hN hE N E
   refine V11 (i:=12) hb12 rfl ?_
   refine V12 fun tm3 htm=>?_
   have u2:tm3 2=mV up:=by rw[htm];rfl
   have u3:tm3 3=.ref [.func (.func g) [] cap]:=by rw[htm];rfl
   have u4:tm3 4=.addr b4 0:=by rw[htm];rfl
   have u6:tm3 6=.addr r 0:=by rw[htm];rfl
   have u12:tm3 12=.ref [.int e.k,.int e.n,.str (sF e up),.str e.t,.list (strs e.names),vL,vA]:=by rw[htm];rfl
   clear htm hb12 h12
   have hlenL:vlenb H3 (some (.slice 27 7)) vL=some (.int e.l.length):=by
    have:=w.sL.len
    rw[Z10] at this;exact this
   refine I10 (A10 [] fun N E hN hE=>?_)
   simp +decide only[ZS,↓reduceIte,Nat.reduceAdd,u4,w4,hlenL]
   refine hN _ ?_
   clear hN hE N E
   refine J10 ?_
   have hnsl:ns.length=e.names.length:=by
    rw[<-hns,<-curN_end nx e a (fun h=>one_name hn (.inr (.inr h))),curN_len]
   refine C11 (fun (i:Nat) s'=>i<=e.l.length/\s'.tmps 2=mV up/\s'.tmps 3=.ref [.func (.func g) [] cap]/\s'.tmps 4=.addr b4 0/\s'.tmps 6=.addr r 0/\s'.tmps 12=.ref [.int e.k,.int e.n,.str (sF e up),.str e.t,.list (strs e.names),vL,vA]/\s'.tmps 86=.int e.l.length/\s'.tmps 87=.int i/\s'.defs=[] /\
    Own H b1 b2 r b4 (o1 (curL nx e ns up i a1).2) (o2 (curL nx e ns up i a1).2) (.mk e.k e.n (sF e up) e.t ns (curL nx e ns up i a1).1 e.arms) vN vL vA s'.H) (fun i=>e.l.length-i) 0 ?_ ?_
   ·exact ⟨Nat.zero_le _,u2,u3,u4,u6,u12,rfl,rfl,rfl,w⟩
   clear w w4 hlenL u2 u3 u4 u6 u12
   rintro i ⟨tm4,H4,ds⟩ ⟨hi1,v2,v3,v4,v6,v12,v86,v87,hds,w⟩
   obtain rfl:ds=[]:=hds
   simp only at w
   refine B10 2 _ v2 (B10 3 _ v3 (B10 4 _ v4 (B10 6 _ v6 (B10 12 _ v12 (B10 86 _ v86 (B10 87 _ v87 ?_))))))
   refine A10 [] fun N E hN hE=>?_
   simp +decide only[ZS,↓reduceIte,Nat.reduceAdd]
   refine hN _ ?_
   clear hN hE N E
   refine I10 (T10 rfl (fun hc=>?_) (fun hc=>?_))
   ·have hlt:i<e.l.length:=by have:=of_decide_eq_true hc;omega
    refine G10 ?_
    refine I10 (J10 ?_)
    have w4:=w.h4
    simp only[ex_k,ex_n,ex_s,ex_t] at w4
    refine A10 [] fun N E hN hE=>?_
    simp +decide only[ZS,↓reduceIte,Nat.reduceAdd]
    refine hN _ ?_
    clear hN hE N E
    refine A10 [] fun N E hN hE=>?_
    simp +decide only[ZS,↓reduceIte,Nat.reduceAdd,mV_cells,mV_one]
    refine hN _ ?_
    clear hN hE N E
    have pL:=w.sL.one
    have pA:=w.sA.one
    refine A10 [] fun N E hN hE=>?_
    simp +decide only[ZS,↓reduceIte,Nat.reduceAdd,pL.1,pL.2,pA.1,pA.2]
    refine D10 (ownG_c e i hn hlt pL.1 pA.1 pL.2 pA.2) ?_
    simp +decide only[ZS,↓reduceIte,Nat.reduceAdd]
    refine F10 fun b15 hb15=>?_
    simp +decide only[ZS,↓reduceIte,Nat.reduceAdd]
    refine hN _ ?_
    clear hN hE N E
    refine V11 (i:=15) hb15 rfl ?_
    clear hb15
    (refine I10 ?_;refine' VW_mix [] [0,1,3,4,7] (.one 2 true (.one 5 true (.one 6 true .fin))) (fun _=>True) (by kernel_rfl) (by kernel_rfl) (trivial) (fun H' N hp hN=>?_) ?_)
    rotate_left 1
    ·simp only[opsAt,List.drop,List.take,List.cons_append,List.nil_append]
     simp +decide only[ZS,QS,↓reduceIte,Nat.reduceAdd]
     exact hN
    refine U10 fun N hN=>?_
    simp only[List.drop,List.take]
    simp +decide only[ZS,↓reduceIte,Nat.reduceAdd]
    refine W10 (by kernel_rfl) (cloneS_c (src_list _) (Nat.le_trans (Nat.le_trans (by rw[List.length_append];omega) (own_short (e:=e) i)) (Nat.le_trans hnl hlim)) fun vC HC xC=>?_)
    rw[M10]
    simp +decide only[ZS,↓reduceIte,Nat.reduceAdd]
    refine hN _ ⟨fun _=>trivial,?_⟩
    clear hN N
    refine U10 fun N hN=>?_
    simp only[List.drop,List.take]
    simp +decide only[ZS,↓reduceIte,Nat.reduceAdd]
    obtain ⟨own,hown⟩:∃ own,ownV e i++ownH e i=own:=⟨_,rfl⟩
    have hos:=own_short (e:=e) i
    rw[hown] at hos
    refine vappend_out (by kernel_rfl) xC.out (src_list _) (fun _ _ _ q=>by cases q) (strs_sz _) (by rw[O10,O10,<-List.length_append,hown];omega) fun vC2 HC2 xC2=>?_
    rw[M10]
    simp +decide only[ZS,↓reduceIte,Nat.reduceAdd]
    refine hN _ ⟨fun _=>trivial,?_⟩
    clear hN N
    have hso:strs (ownV e i)++strs (ownH e i)=strs own:=by rw[<-hown];simp[strs]
    rw[hso] at xC2
    have hlo:=xC2.len
    rw[O10] at hlo
    refine U10 fun N hN=>?_
    simp only[List.drop,List.take]
    simp +decide only[ZS,↓reduceIte,Nat.reduceAdd,hlo]
    refine hN _ ⟨fun _=>trivial,O12 ?_⟩
    clear hN N hlo
    refine VW_see (s:=⟨_,HC2,[]⟩) (i:=99) (H1:=H4) (v':=.list (strs own)) xC2.drop (xC2.view (by rw[O10];omega)) ?_
    clear xC2 xC
    refine J10 ?_
    refine C11 (fun (k:Nat) s'=>k<=own.length/\s'.tmps 2=mV up/\s'.tmps 3=.ref [.func (.func g) [] cap]/\s'.tmps 4=.addr b4 0/\s'.tmps 6=.addr r 0/\s'.tmps 12=.ref [.int e.k,.int e.n,.str (sF e up),.str e.t,.list (strs e.names),vL,vA]/\s'.tmps 86=.int e.l.length/\s'.tmps 87=.int i/\s'.tmps 13=.int i /\
     s'.tmps 99=.list (strs own)/\s'.tmps 100=.int own.length/\s'.tmps 101=.int k/\s'.tmps 14=mV (mps (decide (e.k=15)) (own.take k) (ns.take k) up)/\s'.defs=[]/\s'.H=H4) (fun k=>own.length-k) 0 ?_ ?_
    ·exact ⟨Nat.zero_le _,rfl,rfl,rfl,rfl,rfl,rfl,rfl,rfl,rfl,rfl,rfl,rfl,rfl,rfl⟩
    clear v2 v3 v4 v6 v12 v86 v87
    rintro k ⟨tm5,H5,ds⟩ ⟨hk1,v2,v3,v4,v6,v12,v86,v87,v13,v99,v100,v101,v14,hds,hH⟩
    obtain rfl:H5=H4:=hH
    obtain rfl:ds=[]:=hds
    refine B10 2 _ v2 (B10 3 _ v3 (B10 4 _ v4 (B10 6 _ v6 (B10 12 _ v12 (B10 86 _ v86 (B10 87 _ v87 (B10 13 _ v13 (B10 99 _ v99 (B10 100 _ v100 (B10 101 _ v101 (B10 14 _ v14 ?_)))))))))))
    refine A10 [] fun N E hN hE=>?_
    simp +decide only[ZS,↓reduceIte,Nat.reduceAdd]
    refine hN _ ?_
    clear hN hE N E
    refine I10 (T10 rfl (fun hc=>?_) (fun hc=>?_))
    ·have hko:k<own.length:=by have:=of_decide_eq_true hc;omega
     have hkn:k<ns.length:=by omega
     obtain ⟨bN,cN,rfl,hbN,hfN⟩:∃ b cap,vN=.mlist b ns.length cap/\H5 b=some (.row 9 1 cap (strs ns))/\H b=none:=by
      rcases w.sN with ⟨h,_⟩|⟨b,cap,h1,h2,h3⟩
      ·have h':strs ns=[]:=h
       have:(strs ns).length=0:=by rw[h'];rfl
       rw[O10] at this;omega
      ·exact ⟨b,cap,by rw[h1];show AV.mlist b (strs ns).length cap=_;rw[O10],h2,h3⟩
     have e1:=strs_at hko
     have e2:=strs_at hkn
     have e3:((k:Int)<(ns.length:Int))=True:=eq_true (by omega)
     refine G10 ?_
     refine I10 (J10 ?_)
     refine A10 [] fun N E hN hE=>?_
     simp +decide only[ZS,↓reduceIte,Nat.reduceAdd,e1,nat0,Int.toNat_natCast]
     refine hN _ ?_
     clear hN hE N E
     refine VW_regqE [] 12 (by kernel_rfl) (by kernel_rfl) (by kernel_rfl) fun N E hN hE=>?_
     simp only[List.take,List.drop]
     simp +decide only[ZS,QS,↓reduceIte,Nat.reduceAdd,w4,hbN,e2,e3,nat0,Int.toNat_natCast,O10,mV_cells,mV_one]
     refine hN _ ?_
     clear hN hE N E
     refine R10 [] fun N E hN hE=>?_
     simp +decide only[ZS,↓reduceIte,Nat.reduceAdd,wrapN (show k<9223372036854775807 by omega)]
     refine hN _ ?_
     clear hN hE N E
     refine ⟨k+1,⟨hko,rfl,rfl,rfl,rfl,rfl,rfl,rfl,rfl,rfl,rfl,rfl,?_,rfl,rfl⟩,by omega⟩
     rw[List.take_succ_eq_append_getElem hko,List.take_succ_eq_append_getElem hkn,mps_snoc _ _ _ _ _ _ (by rw[List.length_take,List.length_take];omega)]
     rfl
    ·have hkk:k=own.length:=by have:=of_decide_eq_false hc;omega
     subst hkk
     rw[List.take_of_length_le (Nat.le_refl _),mps_take,<-hown]
     refine L11 ?_
     simp only[AX.then,AX.inBlock,↓reduceIte]
     have hli:=curL_at nx e ns up a1 hlt
     have hll2:=curL_len nx e ns up i a1
     have hel:=List.getElem_mem hlt
     have hxo:Okk e.l[i]:=he.part (mem_l hlt)
     have hrec:=ih e.l[i] (mem_l hlt) hxo (upL e ns up i) (curL nx e ns up i a1).2
     have hcq:=curL_cnt hcnt e ns up a1 hlt
     have hwp:=wid_parts e
     have hnc:=nmE_cnt (cnt:=cnt) hcnt e a
     rw[ha1] at hnc
     have hsucc:=curL_succ nx e ns up a1 hlt
     obtain ⟨bL,cL,rfl,hbL,hfL⟩:∃ b cap,vL=.mlist b e.l.length cap/\H5 b=some (.row 27 7 cap (exs (curL nx e ns up i a1).1))/\H b=none:=by
      rcases w.sL with ⟨h,_⟩|⟨b,cap,h1,h2,h3⟩
      ·have h':exs (curL nx e ns up i a1).1=[]:=h
       have:(exs (curL nx e ns up i a1).1).length=0:=by rw[h'];rfl
       rw[Z10] at this;omega
      ·exact ⟨b,cap,by rw[h1];show AV.mlist b (exs (curL nx e ns up i a1).1).length cap=_;rw[Z10,hll2],h2,h3⟩
     have hat2:(exs (curL nx e ns up i a1).1)[i]?=some e.l[i].av:=by
      rw[exs,List.getElem?_map,hli];rfl
     have hki:((i:Int)<(e.l.length:Int))=True:=eq_true (by omega)
     show VW prog G _ none _ _ ⟨_,H5,[]⟩
     generalize e.l[i]=x at *
     refine' VW_mixE [] [0,1,2,3,4,5,6,7,8,9] (.one 10 true (.one 11 false (.one 12 false .fin))) (fun H'=>H' b4=some (.cells 27 [.int e.k,.int e.n,.str (sF e up),.str e.t,vN,.mlist bL e.l.length cL,vA])/\H' bL=some (.row 27 7 cL (exs (curL nx e ns up i a1).1))) (by kernel_rfl) (by kernel_rfl) (⟨w4,hbL⟩) (fun H' N hp hN=>?_) ?_
     rotate_left 1
     ·simp only[opsAt,List.drop,List.take,List.cons_append,List.nil_append]
      simp +decide only[ZS,QS,↓reduceIte,Nat.reduceAdd,hp.1,hp.2,hat2,nat0,Int.toNat_natCast,Z10,hll2,hki,mV_cells,mV_one]
      exact hN
     refine U10 fun N hN=>?_
     simp only[List.drop,List.take]
     simp +decide only[ZS,↓reduceIte,Nat.reduceAdd]
     refine W10 (by kernel_rfl) (CallF.mono (hrec H5 w.h1 w.h2 (by omega)) ?_)
     rintro r' H6 ⟨rfl,rfl⟩
     rw[M10]
     simp +decide only[ZS,↓reduceIte,Nat.reduceAdd]
     obtain ⟨res,hres⟩:∃ res,renF nx x (upL e ns up i) (curL nx e ns up i a1).2=res:=⟨_,rfl⟩
     rw[hres] at hsucc
     simp only[hres]
     have w':=w.next (o1 res.2) (o2 res.2)
     have w4':=w'.h4
     simp only[ex_k,ex_n,ex_s,ex_t] at w4'
     have hb1':∀ b,H b=none->b≠b1/\b≠b2:=fun b h=>⟨fun q=>w.n1 (by rw[<-q];exact h),fun q=>w.n2 (by rw[<-q];exact h)⟩
     have hbL':=(show ((H5.upd b1 (o1 res.2)).upd b2 (o2 res.2)) bL=some (.row 27 7 cL (exs (curL nx e ns up i a1).1)) by rw[HM.upd_ne _ _ (hb1' _ hfL).2,HM.upd_ne _ _ (hb1' _ hfL).1];exact hbL)
     refine hN _ ⟨fun _=>⟨w4',hbL'⟩,?_⟩
     clear hN N
     generalize (H5.upd b1 (o1 res.2)).upd b2 (o2 res.2)=H7 at *
     refine U10 fun N hN=>?_
     simp only[List.drop,List.take]
     simp +decide only[ZS,↓reduceIte,Nat.reduceAdd,hki,nat0,Int.toNat_natCast]
     refine hN _ ⟨fun h=>(by cases h),?_⟩
     clear hN N
     refine U10 fun N hN=>?_
     simp only[List.drop,List.take]
     simp +decide only[ZS,↓reduceIte,Nat.reduceAdd,Y11 (hb:=hbL') (hx:=hat2),elemPut_ex]
     refine hN _ ⟨fun h=>(by cases h),O12 ?_⟩
     clear hN N
     have wS:=w'.setL (i:=i) (by rw[hll2];exact hlt) res.1
     refine R10 [] fun N E hN hE=>?_
     simp +decide only[ZS,↓reduceIte,Nat.reduceAdd,wrapN (show i<9223372036854775807 by omega)]
     refine hN _ ?_
     clear hN hE N E
     refine ⟨i+1,⟨hlt,rfl,rfl,rfl,rfl,rfl,rfl,rfl,rfl,?_⟩,by omega⟩
     rw[hsucc]
     exact wS
   ·have hkn:i=e.l.length:=by have:=of_decide_eq_false hc;omega
    have hend:=curL_end nx e up a
    rw[hns,ha1] at hend
    rw[hkn,hend] at w
    refine L11 ?_
    simp only[AX.then,AX.inBlock,↓reduceIte]
    obtain ⟨ll,hll0⟩:∃ ll,(lF nx e up a).1=ll:=⟨_,rfl⟩
    obtain ⟨al,hal0⟩:∃ al,(lF nx e up a).2=al:=⟨_,rfl⟩
    rw[hll0,hal0] at w
    have w4:=w.h4
    simp only[ex_k,ex_n,ex_s,ex_t] at w4
    have hlenA:vlenb H4 (some (.slice 85 9)) vA=some (.int e.arms.length):=by
     have:=w.sA.len
     rw[U11] at this;exact this
    refine I10 (A10 [] fun N E hN hE=>?_)
    simp +decide only[ZS,↓reduceIte,Nat.reduceAdd,w4,hlenA]
    refine hN _ ?_
    clear hN hE N E
    refine J10 ?_
    refine C11 (fun (i:Nat) s'=>i<=e.arms.length/\s'.tmps 2=mV up/\s'.tmps 3=.ref [.func (.func g) [] cap]/\s'.tmps 4=.addr b4 0/\s'.tmps 6=.addr r 0/\s'.tmps 133=vA/\s'.tmps 134=.int e.arms.length/\s'.tmps 135=.int i/\s'.defs=[] /\
     Own H b1 b2 r b4 (o1 (curA nx e up i al).2) (o2 (curA nx e up i al).2) (.mk e.k e.n (sF e up) e.t ns ll (curA nx e up i al).1) vN vL vA s'.H) (fun i=>e.arms.length-i) 0 ?_ ?_
    ·exact ⟨Nat.zero_le _,rfl,rfl,rfl,rfl,rfl,rfl,rfl,rfl,w⟩
    clear w w4 hlenA v2 v3 v4 v6 v12 v86 v87
    rintro i ⟨tm6,H6,ds⟩ ⟨hi1,v2,v3,v4,v6,v133,v134,v135,hds,w⟩
    obtain rfl:ds=[]:=hds
    simp only at w
    refine B10 2 _ v2 (B10 3 _ v3 (B10 4 _ v4 (B10 6 _ v6 (B10 133 _ v133 (B10 134 _ v134 (B10 135 _ v135 ?_))))))
    refine A10 [] fun N E hN hE=>?_
    simp +decide only[ZS,↓reduceIte,Nat.reduceAdd]
    refine hN _ ?_
    clear hN hE N E
    refine I10 (T10 rfl (fun hc=>?_) (fun hc=>?_))
    ·have hlt:i<e.arms.length:=by have:=of_decide_eq_true hc;omega
     have hla2:=curA_len nx e up i al
     obtain ⟨bA,cA,rfl,hbA,hfA⟩:∃ b cap,vA=.mlist b e.arms.length cap/\H6 b=some (.row 85 9 cap (ars (curA nx e up i al).1))/\H b=none:=by
      rcases w.sA with ⟨h,_⟩|⟨b,cap,h1,h2,h3⟩
      ·have h':ars (curA nx e up i al).1=[]:=h
       have:(ars (curA nx e up i al).1).length=0:=by rw[h'];rfl
       rw[U11] at this;omega
      ·exact ⟨b,cap,by rw[h1];show AV.mlist b (ars (curA nx e up i al).1).length cap=_;rw[U11,hla2],h2,h3⟩
     have hat2:(ars (curA nx e up i al).1)[i]?=some e.arms[i].av:=by
      rw[ars,List.getElem?_map,curA_at nx e up al hlt];rfl
     have hki:((i:Int)<(e.arms.length:Int))=True:=eq_true (by omega)
     have hsucc:=curA_succ nx e up al hlt
     have hcq:=curA_cnt hcnt e up al hlt
     have haw:armW e.arms[i]=e.arms[i].names.length+e.arms[i].body.wid:=rfl
     have hxm:e.arms[i].body∈e.parts:=mem_arm hlt
     have hxo:Okk e.arms[i].body:=he.part hxm
     obtain ⟨_,hxn,hxs⟩:=hars e.arms[i] (List.getElem_mem hlt)
     have hxd:∀ y∈e.arms[i].names,isVar y=true:=((K11 _).1 (M12 hn _ (List.getElem_mem hlt))).1
     have hrec:=ih e.arms[i].body hxm hxo
     generalize e.arms[i]=x at *
     refine G10 ?_
     refine I10 (J10 ?_)
     refine A10 [] fun N E hN hE=>?_
     simp +decide only[ZS,↓reduceIte,Nat.reduceAdd,hbA,hki,hat2,nat0,Int.toNat_natCast,U11,hla2]
     refine F10 fun b19 hb19=>?_
     simp +decide only[ZS,↓reduceIte,Nat.reduceAdd]
     refine hN _ ?_
     clear hN hE N E
     refine V11 (i:=19) hb19 rfl ?_
     clear hb19
     refine A10 [] fun N E hN hE=>?_
     simp +decide only[ZS,↓reduceIte,Nat.reduceAdd,mV_cells,mV_one]
     refine hN _ ?_
     clear hN hE N E
     refine I10 (A10 [] fun N E hN hE=>?_)
     simp +decide only[ZS,↓reduceIte,Nat.reduceAdd,O10]
     refine hN _ ?_
     clear hN hE N E
     refine J10 ?_
     obtain ⟨aj,haj⟩:∃ aj,(curA nx e up i al).2=aj:=⟨_,rfl⟩
     obtain ⟨rs,hrs⟩:∃ rs,(curA nx e up i al).1=rs:=⟨_,rfl⟩
     rw[haj,hrs] at hsucc
     rw[haj] at hcq w
     rw[hrs] at hla2 hbA hat2 w
     refine C11 (fun (k:Nat) s'=>k<=x.names.length/\s'.tmps 2=mV up/\s'.tmps 3=.ref [.func (.func g) [] cap]/\s'.tmps 4=.addr b4 0/\s'.tmps 6=.addr r 0/\s'.tmps 133=.mlist bA e.arms.length cA/\s'.tmps 134=.int e.arms.length/\s'.tmps 135=.int i/\s'.tmps 18=.int i/\s'.tmps 19=.ref x.av.cells /\
      s'.tmps 142=.list (strs x.names)/\s'.tmps 143=.int x.names.length/\s'.tmps 144=.int k/\s'.tmps 20=mV (mps false (x.names.take k) (nmF nx false (x.names.take k) aj).1 up)/\s'.defs=[] /\
      ∃ Hk,OutG Hk s'.H (s'.tmps 21) 9 1 (strs (nmF nx false (x.names.take k) aj).1)/\Own H b1 b2 r b4 (o1 (nmF nx false (x.names.take k) aj).2) (o2 (nmF nx false (x.names.take k) aj).2) (.mk e.k e.n (sF e up) e.t ns ll rs) vN vL (.mlist bA e.arms.length cA) Hk) (fun k=>x.names.length-k) 0 ?_ ?_
     ·refine ⟨Nat.zero_le _,rfl,rfl,rfl,rfl,rfl,rfl,rfl,rfl,?_,rfl,rfl,rfl,rfl,rfl,H6,OutG.nil (Drop.refl _) 9 1,w⟩
      rw[J12];rfl
     clear v2 v3 v4 v6 v133 v134 v135 w hbA
     rintro k ⟨tm7,H7,ds⟩ ⟨hk1,v2,v3,v4,v6,v133,v134,v135,v18,v19,v142,v143,v144,v20,hds,Hk,ho,w⟩
     obtain rfl:ds=[]:=hds
     obtain ⟨vl,hvl⟩:∃ vl,tm7 21=vl:=⟨_,rfl⟩
     replace ho:OutG Hk H7 vl 9 1 (strs (nmF nx false (x.names.take k) aj).1):=by rw[<-hvl];exact ho
     have hvl1:=ho.one
     have hvl2:vl.cells=[vl]:=by rcases ho with ⟨_,rfl,_⟩|⟨_,_,_,rfl,_⟩<;>rfl
     rw[J12] at v19
     refine B10 2 _ v2 (B10 3 _ v3 (B10 4 _ v4 (B10 6 _ v6 (B10 133 _ v133 (B10 134 _ v134 (B10 135 _ v135 (B10 18 _ v18 (B10 19 _ v19 (B10 142 _ v142 (B10 143 _ v143 (B10 144 _ v144 (B10 20 _ v20 (B10 21 _ hvl ?_)))))))))))))
     refine A10 [] fun N E hN hE=>?_
     simp +decide only[ZS,↓reduceIte,Nat.reduceAdd]
     refine hN _ ?_
     clear hN hE N E
     refine I10 (T10 rfl (fun hc=>?_) (fun hc=>?_))
     ·have hkn:k<x.names.length:=by have:=of_decide_eq_true hc;omega
      have e1:=strs_at hkn
      have hcl:=nmF_cnt nx hcnt false (x.names.take k) aj
      have hlk:(nmF nx false (x.names.take k) aj).1.length=k:=by rw[nmF_len,List.length_take];omega
      have hsn:=nmF_snoc nx false x.names[k] (x.names.take k) aj
      rw[<-List.take_succ_eq_append_getElem hkn] at hsn
      have hxk:=hxs _ (List.getElem_mem hkn)
      have hwp:=wid_parts e
      have hnc:=nmE_cnt (cnt:=cnt) hcnt e a
      rw[ha1] at hnc
      have hlc:cnt al<=cnt a1+(e.l.map Ex.wid).sum:=by
       have:=goL_cnt (cnt:=cnt) (nx:=nx) e (nmE nx e a).1 up e.l 0 (nmE nx e a).2 (fun p _=>renF_cnt hcnt p)
       rw[<-hal0,<-ha1];exact this
      refine G10 ?_
      refine I10 (J10 ?_)
      refine A10 [] fun N E hN hE=>?_
      simp +decide only[ZS,↓reduceIte,Nat.reduceAdd,e1,nat0,Int.toNat_natCast]
      refine hN _ ?_
      clear hN hE N E
      refine A10 [] fun N E hN hE=>?_
      simp +decide only[ZS,↓reduceIte,Nat.reduceAdd]
      refine CallV.mono (hg (nmF nx false (x.names.take k) aj).2 x.names[k] false H7 (by rw[hcl,List.length_take];omega) hxk (hxd _ (List.getElem_mem hkn)) (ho.get0 w.h1) (ho.get0 w.h2)) ?_
      rintro r' H8 ⟨rfl,rfl⟩
      rw[M10]
      simp +decide only[ZS,↓reduceIte,Nat.reduceAdd]
      refine hN _ ?_
      clear hN hE N E
      have w':=w.next (o1 (nx (nmF nx false (x.names.take k) aj).2 x.names[k] false).2) (o2 (nx (nmF nx false (x.names.take k) aj).2 x.names[k] false).2)
      have ho':=(ho.put (y:=o1 (nx (nmF nx false (x.names.take k) aj).2 x.names[k] false).2) w.h1).put (y:=o2 (nx (nmF nx false (x.names.take k) aj).2 x.names[k] false).2) (by rw[HM.upd_ne _ _ w.ne.symm];exact w.h2)
      generalize (Hk.upd b1 (o1 (nx (nmF nx false (x.names.take k) aj).2 x.names[k] false).2)).upd b2 (o2 (nx (nmF nx false (x.names.take k) aj).2 x.names[k] false).2)=Hn at w' ho'
      have hv1:(mps false (x.names.take (k+1)) (nmF nx false (x.names.take (k+1)) aj).1 up)=(x.names[k],(nx (nmF nx false (x.names.take k) aj).2 x.names[k] false).1,false)::mps false (x.names.take k) (nmF nx false (x.names.take k) aj).1 up:=by
       rw[hsn,List.take_succ_eq_append_getElem hkn,mps_snoc _ _ _ _ _ _ (by rw[hlk,List.length_take];omega)]
      refine R10 [] fun N E hN hE=>?_
      simp +decide only[ZS,↓reduceIte,Nat.reduceAdd,mV_cells,mV_one,hvl1,hvl2]
      refine ⟨bs_ok (by kernel_rfl) (U13 ⟨rfl,rfl⟩),?_⟩
      refine vappend_out (by kernel_rfl) ho' rfl (fun _ _ _ q=>by cases q) (U13 rfl) (by rw[O10,hlk];simp only[List.length_cons,List.length_nil];omega) fun v' H9 ho9=>?_
      rw[M10]
      simp +decide only[ZS,↓reduceIte,Nat.reduceAdd,ho9.one]
      refine hN _ ?_
      clear hN hE N E
      refine R10 [] fun N E hN hE=>?_
      simp +decide only[ZS,↓reduceIte,Nat.reduceAdd,wrapN (show k<9223372036854775807 by omega)]
      refine hN _ ?_
      clear hN hE N E
      refine ⟨k+1,⟨hkn,rfl,rfl,rfl,rfl,rfl,rfl,rfl,rfl,?_,rfl,rfl,rfl,?_,rfl,Hn,?_,?_⟩,by omega⟩
      ·rw[J12];rfl
      ·rw[hv1];rfl
      ·rw[hsn]
       have:strs ((nmF nx false (x.names.take k) aj).1++[(nx (nmF nx false (x.names.take k) aj).2 x.names[k] false).1])=strs (nmF nx false (x.names.take k) aj).1++[.str (nx (nmF nx false (x.names.take k) aj).2 x.names[k] false).1]:=by simp[strs]
       show OutG _ _ v' 9 1 (strs ((nmF nx false (x.names.take k) aj).1++[(nx (nmF nx false (x.names.take k) aj).2 x.names[k] false).1]))
       rw[this]
       exact ho9
      ·rw[hsn];exact w'
     ·have hkk:k=x.names.length:=by have:=of_decide_eq_false hc;omega
      rw[hkk,List.take_of_length_le (Nat.le_refl _)] at ho w
      rw[hkk,List.take_of_length_le (Nat.le_refl _)]
      refine L11 ?_
      simp only[AX.then,AX.inBlock,↓reduceIte]
      refine VW_see (s:=⟨_,H7,[]⟩) (i:=21) (H1:=Hk) (v':=.list (strs (nmF nx false x.names aj).1)) ho.drop (ho.view (by rw[O10,nmF_len];omega)) ?_
      clear ho
      have hwp:=wid_parts e
      have hnc:=nmE_cnt (cnt:=cnt) hcnt e a
      rw[ha1] at hnc
      have hlc:cnt al<=cnt a1+(e.l.map Ex.wid).sum:=by
       have:=goL_cnt (cnt:=cnt) (nx:=nx) e (nmE nx e a).1 up e.l 0 (nmE nx e a).2 (fun p _=>renF_cnt hcnt p)
       rw[<-hal0,<-ha1];exact this
      have hcl:=nmF_cnt nx hcnt false x.names aj
      obtain ⟨nm,hnm⟩:∃ nm,nmF nx false x.names aj=nm:=⟨_,rfl⟩
      have harm:armR nx up x (renF nx x.body) aj=(.mk x.op nm.1 (renF nx x.body (mps false x.names nm.1 up) nm.2).1,(renF nx x.body (mps false x.names nm.1 up) nm.2).2):=by
       unfold armR;rw[hnm]
      rw[harm] at hsucc
      rw[hnm] at w hcl
      simp only[hnm]
      have hbf:Hk bA=some (.row 85 9 cA (ars rs)):=by
       rcases w.sA with ⟨h,q⟩|⟨b,cap,h1,h2,h3⟩
       ·cases q
       ·injection h1 with q1 q2 q3
        rw[q1,q3];exact h2
      have w4:=w.h4
      simp only[ex_k,ex_n,ex_s,ex_t] at w4
      refine' VW_mixE [] [0,1,2,3,4,5,6,7,8,9,10] (.one 11 true (.one 12 true (.one 13 true (.one 14 true (.one 15 false (.one 16 false (.one 17 false .fin))))))) (fun H'=>H' b4=some (.cells 27 [.int e.k,.int e.n,.str (sF e up),.str e.t,vN,vL,.mlist bA e.arms.length cA])) (by kernel_rfl) (by kernel_rfl) (w4) (fun H' N hp hN=>?_) ?_
      rotate_left 1
      ·simp only[opsAt,List.drop,List.take,List.cons_append,List.nil_append]
       simp +decide only[ZS,QS,↓reduceIte,Nat.reduceAdd,hp,mV_cells,mV_one]
       exact hN
      refine U10 fun N hN=>?_
      simp only[List.drop,List.take]
      simp +decide only[ZS,↓reduceIte,Nat.reduceAdd]
      refine W10 (by kernel_rfl) (CallF.mono (hrec (mps false x.names nm.1 up) nm.2 Hk w.h1 w.h2 (by omega)) ?_)
      rintro r' H6 ⟨rfl,rfl⟩
      rw[M10]
      simp +decide only[ZS,↓reduceIte,Nat.reduceAdd]
      obtain ⟨res,hres⟩:∃ res,renF nx x.body (mps false x.names nm.1 up) nm.2=res:=⟨_,rfl⟩
      rw[hres] at hsucc
      simp only[hres]
      have w':=w.next (o1 res.2) (o2 res.2)
      have w4':=w'.h4
      simp only[ex_k,ex_n,ex_s,ex_t] at w4'
      have hb1':∀ b,H b=none->b≠b1/\b≠b2:=fun b h=>⟨fun q=>w.n1 (by rw[<-q];exact h),fun q=>w.n2 (by rw[<-q];exact h)⟩
      have hbA':=(show ((Hk.upd b1 (o1 res.2)).upd b2 (o2 res.2)) bA=some (.row 85 9 cA (ars rs)) by rw[HM.upd_ne _ _ (hb1' _ hfA).2,HM.upd_ne _ _ (hb1' _ hfA).1];exact hbf)
      have hnA:bA≠b4:=fun q=>by rw[q,w4'] at hbA';cases hbA'
      refine hN _ ⟨fun _=>w4',?_⟩
      clear hN N
      generalize (Hk.upd b1 (o1 res.2)).upd b2 (o2 res.2)=H8 at *
      refine U10 fun N hN=>?_
      simp only[List.drop,List.take]
      simp +decide only[ZS,↓reduceIte,Nat.reduceAdd,hki,nat0,Int.toNat_natCast,hbA',U11,hla2]
      refine hN _ ⟨fun _=>w4',?_⟩
      clear hN N
      refine U10 fun N hN=>?_
      simp only[List.drop,List.take]
      simp +decide only[ZS,↓reduceIte,Nat.reduceAdd]
      refine hN _ ⟨fun _=>w4',?_⟩
      clear hN N
      refine U10 fun N hN=>?_
      simp only[List.drop,List.take]
      simp +decide only[ZS,↓reduceIte,Nat.reduceAdd,Y11 (hb:=hbA') (hx:=hat2),elemPut_arN]
      have wS:=w'.setA (i:=i) (by rw[hla2];exact hlt) (Ar.mk x.op nm.1 x.body)
      have wS4:=wS.h4
      simp only[ex_k,ex_n,ex_s,ex_t] at wS4
      refine hN _ ⟨fun _=>wS4,?_⟩
      clear hN N
      have hbS:(H8.upd bA (.row 85 9 cA ((ars rs).set i (Ar.mk x.op nm.1 x.body).av))) bA=some (.row 85 9 cA (ars (rs.set i (Ar.mk x.op nm.1 x.body)))):=by rw[HM.upd_same,ars_set]
      generalize H8.upd bA (.row 85 9 cA ((ars rs).set i (Ar.mk x.op nm.1 x.body).av))=H9 at *
      have hlS:(rs.set i (Ar.mk x.op nm.1 x.body)).length=e.arms.length:=by rw[List.length_set];exact hla2
      have hatS:(ars (rs.set i (Ar.mk x.op nm.1 x.body)))[i]?=some (Ar.mk x.op nm.1 x.body).av:=by
       rw[ars,List.getElem?_map,List.getElem?_set_self (by rw[hla2];exact hlt)];rfl
      refine U10 fun N hN=>?_
      simp only[List.drop,List.take]
      simp +decide only[ZS,↓reduceIte,Nat.reduceAdd,hki,nat0,Int.toNat_natCast,hbS,U11,hlS]
      refine hN _ ⟨fun h=>(by cases h),?_⟩
      clear hN N
      refine U10 fun N hN=>?_
      simp only[List.drop,List.take]
      simp +decide only[ZS,↓reduceIte,Nat.reduceAdd]
      refine hN _ ⟨fun h=>(by cases h),?_⟩
      clear hN N
      refine U10 fun N hN=>?_
      simp only[List.drop,List.take]
      simp +decide only[ZS,↓reduceIte,Nat.reduceAdd,Y11 (hb:=hbS) (hx:=hatS),elemPut_arB]
      refine hN _ ⟨fun h=>(by cases h),O12 ?_⟩
      clear hN N
      have wT:=wS.setA (i:=i) (by rw[hlS];exact hlt) (Ar.mk x.op nm.1 res.1)
      rw[List.set_set] at wT
      refine R10 [] fun N E hN hE=>?_
      simp +decide only[ZS,↓reduceIte,Nat.reduceAdd,wrapN (show i<9223372036854775807 by omega)]
      refine hN _ ?_
      clear hN hE N E
      refine ⟨i+1,⟨hlt,rfl,rfl,rfl,rfl,rfl,rfl,rfl,rfl,?_⟩,by omega⟩
      rw[hsucc]
      exact wT
    ·have hkn2:i=e.arms.length:=by have:=of_decide_eq_false hc;omega
     have hend2:=curA_end nx e up a
     rw[hal0] at hend2
     rw[hkn2,hend2] at w
     refine L11 ?_
     simp only[AX.then,AX.inBlock,↓reduceIte]
     have w4:=w.h4
     simp only[ex_k,ex_n,ex_s,ex_t] at w4
     obtain ⟨cs,hr7,hcs⟩:=w.rr
     obtain ⟨c0,c1,c2,c3,c4,c5,c6,rfl⟩:∃ c0 c1 c2 c3 c4 c5 c6,cs=[c0,c1,c2,c3,c4,c5,c6]:=by
      rcases cs with _|⟨c0,_|⟨c1,_|⟨c2,_|⟨c3,_|⟨c4,_|⟨c5,_|⟨c6,_|⟨c7,cs⟩⟩⟩⟩⟩⟩⟩⟩<;>simp at hcs
      exact ⟨_,_,_,_,_,_,_,rfl⟩
     have qN:=w.sN.one
     have qL:=w.sL.one
     have qA:=w.sA.one
     refine A10 [] fun N E hN hE=>?_
     simp +decide only[ZS,↓reduceIte,Nat.reduceAdd,w4,hr7,qN.1,qN.2,qL.1,qL.2,qA.1,qA.2]
     refine hN _ ?_
     clear hN hE N E
     refine L10 ?_
     have hA2:(rF nx e up a).2=(renF nx e up a).2:=by rw[Z12]
     have hv0:(renF nx e up a).1=.mk e.k e.n (sF e up) e.t ns ll (rF nx e up a).1:=by rw[Z12,hns,hll0]
     rw[hA2] at w
     have hrow:∀ cap ys et sz,H6 r≠some (.row et sz cap ys):=fun cap ys et sz q=>by rw[hr7] at q;cases q
     obtain ⟨Hz,hHz⟩:∃ Hz,Hz=H6.upd r (.cells 27 [AV.int e.k,AV.int e.n,AV.str (sF e up),AV.str e.t,vN,vL,vA]):=⟨_,rfl⟩
     obtain ⟨He,hHe⟩:∃ He,He=(H.upd b1 (o1 (renF nx e up a).2)).upd b2 (o2 (renF nx e up a).2):=⟨_,rfl⟩
     have hfree:∀ b,H b=none->He b=none:=fun b hb=>by
      have q1:b≠b1:=fun q=>w.n1 (by rw[<-q];exact hb)
      have q2:b≠b2:=fun q=>w.n2 (by rw[<-q];exact hb)
      rw[hHe,HM.upd_ne _ _ q2,HM.upd_ne _ _ q1];exact hb
     have hd:Drop Hz He:=fun b=>by
      by_cases hb:H b=none
      ·exact .inl (hfree b hb)
      ·have qr:b≠r:=fun q=>hb (by rw[q];exact w.fr)
       refine .inr ?_
       rw[hHz,HM.upd_ne _ _ qr,hHe]
       by_cases q2:b=b2
       ·rw[q2,HM.upd_same];exact w.h2.symm
       ·rw[HM.upd_ne _ _ q2]
        by_cases q1:b=b1
        ·rw[q1,HM.upd_same];exact w.h1.symm
        ·rw[HM.upd_ne _ _ q1];exact (w.rest b hb q1 q2).symm
     have sN:Sl H Hz vN 9 1 (strs ns):=by rw[hHz];exact w.sN.other (.inr fun cap ys=>hrow cap ys _ _)
     have sL:Sl H Hz vL 27 7 (exs ll):=by rw[hHz];exact w.sL.other (.inr fun cap ys=>hrow cap ys _ _)
     have sA:Sl H Hz vA 85 9 (ars (rF nx e up a).1):=by rw[hHz];exact w.sA.other (.inr fun cap ys=>hrow cap ys _ _)
     have hl1:ll.length=e.l.length:=by
      rw[<-hll0];unfold lF;rw[goL_len,List.length_map]
     have hl2:(rF nx e up a).1.length=e.arms.length:=by
      rw[<-curA_end,curA_len]
     have hres:(Ex.mk e.k e.n (sF e up) e.t ns ll (rF nx e up a).1).av=.agg [.int e.k,.int e.n,.str (sF e up),.str e.t,.list (strs ns),.list (exs ll),.list (ars (rF nx e up a).1)]:=(ex_fold _ _ _ _ _ _ _).symm
     have v0:∀ x,View G Hz He x x:=fun x=>View.of_drop hd x
     refine ⟨fun d hd=>(by cases hd),_,.agg [.int e.k,.int e.n,.str (sF e up),.str e.t,.list (strs ns),.list (exs ll),.list (ars (rF nx e up a).1)],He,I13 (a:=6) (t:=27) (cs:=[AV.int e.k,AV.int e.n,AV.str (sF e up),AV.str e.t,vN,vL,vA]) rfl ti27 rfl rfl rfl (HM.upd_same _ _ _),?_,?_,?_,hHe⟩
     ·rw[<-hHz];exact hd
     ·rw[<-hHz]
      exact View.agg (.cons (v0 _) (.cons (v0 _) (.cons (v0 _) (.cons (v0 _) (.cons (sN.view hd hfree (by rw[O10];omega)) (.cons (sL.view hd hfree (by rw[Z10];omega)) (.cons (sA.view hd hfree (by rw[U11];omega)) .nil)))))))
     ·rw[hv0,hres]
end
def invAll (ops:Array Oper) (qi:List Nat):Bool:=
 mixOkW (wB (masksGo ops.toList [])) ops (fun i=>qi.contains i)&&ascF qi&&qi.all (fun i=>match ops[i]? with
  |some o=>o.dst.isSome
  |none=>false)
def waitsI (ops:Array Oper) (qi:List Nat) (i j:Nat):Bool:=decide (j<ops.size)&&!qi.contains j&&wB (masksGo ops.toList []) i j
section
variable {P:Program} {G:GT} {n:Nat} {r:Option Nat} {Q:AX->AS->Prop}
theorem inv_VCh {M:List Nat} {ops:Array Oper} {qi:List Nat} {HP:HM->Prop} {N:AS->Prop} {I:(Nat->Bool)->AS->Prop}
  (hstep:∀ i,i<ops.size->qi.contains i=false->∀ D s,(∀ j,waitsI ops qi i j=true->D j=true)->D i=false->I D s->vops P G M ops (onN (fun s'=>HP s'.H/\I (fun k=>k==i||D k) s') fun _ _=>False) ((ops.toList.drop i).take 1) s)
  (hend:∀ D s,(∀ i,i<ops.size->qi.contains i=false->D i=true)->I D s->N s):∀ (f:Nat) (L:Array Bool) (pd:Nat->Bool) (s:AS),L.size=ops.size->unl (fun i=>L.getD i false) ops.size<=f->I (fun k=>L.getD k false) s->VCh P G ops (fun i=>qi.contains i) (fun _=>HP) N f L pd s
 |0,L,pd,s,hs,hf,hI=>by
  have ha:∀ i,i<ops.size->qi.contains i=false->L.getD i false=true:=fun i hi _=>unl_zero (L:=fun i=>L.getD i false) ops.size (by omega) i hi
  exact ⟨ha,hend _ s ha hI⟩
 |f+1,L,pd,s,hs,hf,hI=>by
  refine ⟨fun ha=>hend _ s ha hI,fun i hi o hio=>?_⟩
  unfold cready at hi
  obtain ⟨hi1,hi2⟩:=List.mem_filter.1 hi
  have hi1:=List.mem_range.1 hi1
  simp only[Bool.and_eq_true,Bool.not_eq_true',List.all_eq_true,List.mem_range,Bool.or_eq_true] at hi2
  obtain ⟨⟨q1,q2⟩,q3⟩:=hi2
  have h5:=hstep i hi1 q1 (fun k=>L.getD k false) s (fun j hj=>by
   unfold waitsI at hj
   simp only[Bool.and_eq_true,decide_eq_true_eq,Bool.not_eq_true'] at hj
   rcases q3 j hj.1.1 with (h|h)|h
   ·rw[hj.1.2] at h;cases h
   ·exact h
   ·rw[hj.2] at h;cases h) q2 hI
  rw[take_one hio] at h5
  have h6:=vops_sound _ _ h5
  have h7:VOp P G ops (onN (fun s'=>HP s'.H/\I (fun k=>k==i||L.getD k false) s') fun _ _=>False) o (fun s'=>HP s'.H/\I (fun k=>k==i||L.getD k false) s') s:=h6
  have h8:VOp P G ops (onN N fun _ _=>False) o (fun s'=>HP s'.H/\I (fun k=>k==i||L.getD k false) s') s:=by
   unfold VOp at h7 ⊢
   split
   ·rw[if_pos ‹_›] at h7
    exact h7.mono fun x H' hx=>by cases x<;>exact hx
   ·rw[if_neg ‹_›] at h7;exact h7
  refine h8.mono fun s' hs'=>⟨fun k _=>hs'.1,?_⟩
  have he:(fun k=>k==i||L.getD k false)=fun k=>(L.setIfInBounds i true).getD k false:=by
   funext k
   rw[Array.getD_eq_getD_getElem?,Array.getD_eq_getD_getElem?,Array.getElem?_setIfInBounds]
   by_cases e:k=i
   ·rw[e,if_pos rfl,if_pos (by omega)];simp
   ·rw[if_neg (fun q=>e q.symm)]
    have:(k==i)=false:=by simpa using e
    rw[this];rfl
  have hI':=hs'.2
  rw[he] at hI'
  refine inv_VCh hstep hend f _ _ s' (by simp[hs]) ?_ hI'
  have hne:∀ j,j≠i->(j==i||L.getD j false)=L.getD j false:=fun j hj=>by
   have h:(j==i)=false:=by simpa using hj
   rw[h];rfl
  have:=unl_set (L:=fun j=>L.getD j false) (L':=fun k=>k==i||L.getD k false) (i:=i) q2 (by simp) hne ops.size hi1
  rw[<-he]
  omega
theorem VW_invE (M:List Nat) (qi:List Nat) (HP:HM->Prop) (I:(Nat->Bool)->AS->Prop) {ops:Array Oper} {id:Nat} {tm tmI:Nat->AV} {H:HM} {ds:List ADef} (hm:P.follows .mixedOrders=true) (hc:invAll ops qi=true) (h0:HP H)
  (hq:∀ H' (N:AS->Prop),HP H'->N ⟨tmI,H',ds⟩->wqs P G M ops N (fun _ _=>False) [] (opsAt ops qi) tm H' ds)
  (hI:I (fun _=>false) ⟨tmI,H,ds⟩)
  (hstep:∀ i,i<ops.size->qi.contains i=false->∀ D s,(∀ j,waitsI ops qi i j=true->D j=true)->D i=false->I D s->vops P G M ops (onN (fun s'=>HP s'.H/\I (fun k=>k==i||D k) s') fun _ _=>False) ((ops.toList.drop i).take 1) s)
  (hend:∀ D s,(∀ i,i<ops.size->qi.contains i=false->D i=true)->I D s->Q .normal s):VW P G n r (.region id ops true) Q ⟨tm,H,ds⟩:=by
 simp only[invAll,Bool.and_eq_true] at hc
 obtain ⟨⟨c1,c2⟩,c3⟩:=hc
 have hf:=mixFacts c1
 have hord:=opsAt_ord hf qi c2 (fun i hi=>by simpa using hi)
 have facts:∀ H',HP H'->(∀ t,(∀ o∈opsAt ops qi,o.dst≠some t)->tmI t=tm t)/\∀ o∈opsAt ops qi,∃ E:AS,E.tmps=tmI/\E.H=H'/\Yld P G ops E o:=by
  intro H' hp
  have h1:=vqs_sound _ _ (hq H' (fun s=>s.tmps=tmI) hp rfl)
  obtain ⟨E,k1,k2,k3,k4,k5⟩:=VQ_facts _ _ hord h1
  have k1':E.tmps=tmI:=k1
  exact ⟨fun t ht=>by rw[<-k1',k4 t ht],fun o ho=>⟨E,k1',k2,k5 o ho⟩⟩
 have yld:∀ i o,(qi.contains i)=true->ops[i]?=some o->YldH P G ops HP tmI o:=by
  intro i o hi ho
  have him:i∈qi:=by simpa using hi
  have hmem:=opsAt_of him ho
  have hds:o.dst.isSome=true:=by
   have:=List.all_eq_true.1 c3 i him
   rw[ho] at this;exact this
  obtain ⟨d,hd⟩:=Option.isSome_iff_exists.1 hds
  obtain ⟨E,e1,e2,e3⟩:=(facts H h0).2 o hmem
  unfold YldH
  cases hw:wantA ops o tmI with
  |true=>
   refine .inl ⟨rfl,tmI d,fun H' hp=>?_,fun d' hd'=>by rw[hd] at hd';cases hd';rfl⟩
   obtain ⟨E',e1',e2',e3'⟩:=(facts H' hp).2 o hmem
   obtain ⟨et,eH,ed⟩:=E'
   obtain rfl:et=tmI:=e1'
   obtain rfl:eH=H':=e2'
   rcases e3' with ⟨_,v,hv,hdv⟩|⟨hn,_⟩
   ·have:=hdv d hd
    simp only at this
    rw[this];exact hv
   ·rw[show wantA ops o et=true from hw] at hn;cases hn
  |false=>
   refine .inr ⟨rfl,fun d' hd'=>?_⟩
   rcases e3 with ⟨hn,_⟩|⟨_,hn⟩
   ·rw[e1,hw] at hn;cases hn
   ·rw[<-e1];exact hn d' hd'
 refine VW.mono (Q:=onN (fun s'=>Q .normal s') fun _ _=>False) (VW_region_any hm ?_) fun x s hx=>by cases x<;>first|exact hx|exact hx.elim
 have hgf:∀ i:Nat,(Array.replicate ops.size false).getD i false=false:=fun i=>by
  rw[Array.getD_eq_getD_getElem?,Array.getElem?_replicate];split<;>rfl
 have hul:∀ k,unl (fun i=>(Array.replicate ops.size false).getD i false) k<=k:=fun k=>by
  induction k with
  |zero=>exact Nat.le_refl _
  |succ k ih=>simp only[unl];split<;>omega
 refine mix_run hf ops.size ops.size (Array.replicate ops.size false) (Array.replicate ops.size false) (fun i=>qi.contains i) ⟨tm,H,ds⟩ ⟨tmI,H,ds⟩ (by simp) (hul _) ?_ (by simp) (fun _ _=>rfl) (fun i o hi _ _=>⟨hi,h0⟩) ?_ yld rfl rfl ?_
 ·intro i o _ hl
  rw[hgf] at hl;cases hl
 ·refine inv_VCh hstep hend ops.size _ _ _ (by simp) (hul _) ?_
  have:(fun k=>(Array.replicate ops.size false).getD k false)=fun _=>false:=funext hgf
  rw[this];exact hI
 ·intro t ht
  have:=(facts H h0).1 t (fun o ho=>by
   obtain ⟨i,h1,h2⟩:=opsAt_mem ho
   exact ht i o (by simpa using h1) (hgf i) h2)
  exact this.symm
theorem VW_inv (M:List Nat) (qi:List Nat) (HP:HM->Prop) (I:(Nat->Bool)->AS->Prop) {ops:Array Oper} {id:Nat} {y:Code} {tm tmI:Nat->AV} {H:HM} {ds:List ADef} (hm:P.follows .mixedOrders=true) (hc:invAll ops qi=true) (h0:HP H)
  (hq:∀ H' (N:AS->Prop),HP H'->N ⟨tmI,H',ds⟩->wqs P G M ops N (fun _ _=>False) [] (opsAt ops qi) tm H' ds)
  (hI:I (fun _=>false) ⟨tmI,H,ds⟩)
  (hstep:∀ i,i<ops.size->qi.contains i=false->∀ D s,(∀ j,waitsI ops qi i j=true->D j=true)->D i=false->I D s->vops P G M ops (onN (fun s'=>HP s'.H/\I (fun k=>k==i||D k) s') fun _ _=>False) ((ops.toList.drop i).take 1) s)
  (hend:∀ D s,(∀ i,i<ops.size->qi.contains i=false->D i=true)->I D s->VW P G n r y Q s):VW P G n r (.seq (.region id ops true) y) Q ⟨tm,H,ds⟩:=
 I10 (VW_invE M qi HP I hm hc h0 hq hI hstep hend)
end
theorem assoc_kv (s:ByteArray):∀ l:List ByteArray,assoc (.string s) (kv l)=if has l s then some (.bool true) else none
 |[]=>rfl
 |x::l=>by
  have ih:=assoc_kv s l
  show (if sameKeyV (.string s) (.string x) then some (AV.bool true) else assoc (.string s) (kv l))=_
  rw[has_cons]
  by_cases h:x=s
  ·subst h
   have h1:sameKeyV (.string x) (.string x)=true:=(ba_beq x x).2 rfl
   rw[if_pos h1,decide_eq_true rfl,Bool.true_or,if_pos rfl]
  ·have h1:¬ sameKeyV (.string s) (.string x)=true:=fun hq=>h ((ba_beq s x).1 hq).symm
   rw[if_neg h1,ih,decide_eq_false h,Bool.false_or]
theorem vlk_kv (l:List ByteArray) (s:ByteArray):vlk (some .str) (some ⟨.bool,1,1,.val (.bool false)⟩) (kv l) (.string s) false=some (.bool (has l s)):=by
 simp only[vlk,kv_keysOk,assoc_kv,keyFits,Bool.and_self,↓reduceIte]
 by_cases h:has l s=true
 ·simp[h]
 ·simp[h]
theorem updH_self {H:HM} {b:Nat} {o:AObj} (h:H b=some o):H.upd b o=H:=by
 funext k
 by_cases q:k=b
 ·rw[q,HM.upd_same,h]
 ·rw[HM.upd_ne _ _ q]
theorem has_same {l m:List ByteArray} (h:∀ x,x∈l↔x∈m) (s:ByteArray):has l s=has m s:=by
 rw[Bool.eq_iff_iff,P11,P11,h]
theorem itoa_size {n:Nat} (h:n<=9223372036854775807):(itoa n).size<=20:=by
 rw[<-itoaK_eq h];exact itoaK_size n
section
variable {G:GT} {H:HM}
theorem num1_c (hG:Tabs G) (p:ByteArray) (hp:p.size<=12) {w F:List ByteArray} (hw:∀ x,x∈w↔x∈F) (c:Nat) (hc9:nextN p F c<=1000000000) {b:Nat} (hb:H b=some (.cells 3 [.int ((c:Int)-1)])) :
  CallF prog G 121 [.addr b 0,.ref [.str p],.ref [.imap (kv w)]] H fun r H'=>r=.ret (.str (nthC p (nextN p F c)))/\H'=H.upd b (.cells 3 [.int (nextN p F c)]):=by
 obtain ⟨s1,s2,s3⟩:=nextN_spec p F c
 have hl20:32<=lim:=by decide
 refine A11 (fn:=f121) func121 rfl (by kernel_rfl) (Nat.le_of_ble_eq_true (by kernel_rfl)) ?_
 refine A10 [] fun N E hN hE=>?_
 simp +decide only[ZS,↓reduceIte]
 refine hN _ ?_
 clear hN hE N E
 refine J10 ?_
 refine C11 (fun (n:Nat) s'=>c<=n/\n<=nextN p F c/\s'.tmps 0=.addr b 0/\s'.tmps 1=.ref [.str p]/\s'.tmps 2=.ref [.imap (kv w)]/\s'.H=H.upd b (.cells 3 [.int ((n:Int)-1)])/\s'.defs=[]) (fun n=>nextN p F c-n) c ?_ ?_
 ·exact ⟨Nat.le_refl _,s1,rfl,rfl,rfl,(updH_self hb).symm,rfl⟩
 rintro n ⟨tm,H',ds⟩ ⟨h1,h2,v0,v1,v2,hH,hds⟩
 obtain rfl:ds=[]:=hds
 obtain rfl:H'=H.upd b (.cells 3 [.int ((n:Int)-1)]):=hH
 have hbs:∀ cs,(H.upd b (.cells 3 cs)) b=some (.cells 3 cs):=fun cs=>HM.upd_same _ _ _
 have hwr:IntKind.i64.wrap ((n:Int)-1+1)=(n:Int):=by rw[wrap64]<;>omega
 refine B10 0 _ v0 (B10 1 _ v1 (B10 2 _ v2 ?_))
 refine J10 ?_
 refine A10 [] fun N E hN hE=>?_
 simp +decide only[ZS,↓reduceIte,hbs,hwr]
 refine hN _ ?_
 clear hN hE N E
 try simp only[HM.upd_upd]
 refine' VW_mix [] [0,1] (.one 2 true (.one 3 false (.one 4 false .fin))) (fun H'=>H' b=some (.cells 3 [.int n])) (by kernel_rfl) (by kernel_rfl) (hbs _) (fun H' N hp hN=>?_) ?_
 rotate_left 1
 ·simp only[opsAt,List.drop,List.take,List.cons_append,List.nil_append]
  simp +decide only[ZS,QS,↓reduceIte,hp]
  exact hN
 refine U10 fun N hN=>?_
 simp only[List.drop,List.take]
 simp +decide only[ZS,↓reduceIte]
 refine D10 (itoa_c hG n (by omega) (Nat.le_trans (itoa_size (by omega)) (by decide))) ?_
 simp +decide only[ZS,↓reduceIte]
 refine hN _ ⟨fun _=>hbs _,?_⟩
 clear hN N
 have hsz:p.size+(itoa n).size<=lim:=by have:=itoa_size (n:=n) (by omega);omega
 refine U10 fun N hN=>?_
 simp only[List.drop,List.take]
 simp +decide only[ZS,↓reduceIte,hsz]
 refine hN _ ⟨fun h=>(by cases h),?_⟩
 clear hN N
 refine U10 fun N hN=>?_
 simp only[List.drop,List.take]
 simp +decide only[ZS,↓reduceIte]
 refine hN _ ⟨fun h=>(by cases h),O12 ?_⟩
 clear hN N
 refine A10 [] fun N E hN hE=>?_
 simp +decide only[ZS,↓reduceIte,vlk_kv]
 refine hN _ ?_
 clear hN hE N E
 refine T10 rfl (fun hc=>?_) (fun hc=>?_)
 ·have hq:has w (nthC p n)=false:=by
   show has w (p++itoa n)=false
   simpa using hc
  have he:n=nextN p F c:=by
   have:¬ n<nextN p F c:=fun q=>by
    have h3:=s3 n h1 q
    rw[has_same hw,Bool.eq_false_iff] at hq
    exact hq ((P11 _ _).2 h3)
   omega
  refine A10 [] fun N E hN hE=>?_
  simp +decide only[ZS,↓reduceIte]
  refine hN _ ?_
  clear hN hE N E
  refine L10 ?_
  show AX.inBlock 1 (AX.then _ (AX.inBlock 0 _)) .ret _
  simp only[AX.inBlock,AX.then]
  refine K10 (fn:=f121) 3 rfl ?_
  simp +decide only[ZS,↓reduceIte]
  rw[<-he]
  exact ⟨rfl,rfl⟩
 ·have hq:has w (nthC p n)=true:=by
   show has w (p++itoa n)=true
   simpa using hc
  have hlt:n<nextN p F c:=by
   have:n≠nextN p F c:=fun q=>by
    rw[has_same hw,q] at hq
    exact s2 ((P11 _ _).1 hq)
   omega
  refine G10 ?_
  refine ⟨n+1,⟨by omega,hlt,rfl,rfl,rfl,?_,rfl⟩,by omega⟩
  rw[show ((n+1:Nat):Int)-1=(n:Int) by omega]
theorem nat_pred (n:Nat):(((n+1:Nat):Int)-1)=(n:Int):=by omega
theorem numbered_c (p:ByteArray) (w:List ByteArray) {K:ARes->HM->Prop} (hk:∀ b,H b=none->K (.ret (.func (.func 121) [] [.addr b 0,.ref [.str p],.ref [.imap (kv w)]])) (H.upd b (.cells 3 [.int (-1)]))) :
  CallF prog G 75 [.str p,.imap (kv w)] H K:=by
 refine A11 (fn:=f75) func75 rfl (by kernel_rfl) (Nat.le_of_ble_eq_true (by kernel_rfl)) ?_
 refine A10 [] fun N E hN hE=>?_
 simp +decide only[ZS,↓reduceIte]
 refine hN _ ?_
 clear hN hE N E
 refine A10 [] fun N E hN hE=>?_
 simp +decide only[ZS,↓reduceIte]
 refine F10 fun b hb=>?_
 have hbs:∀ cs,(H.upd b (.cells 3 cs)) b=some (.cells 3 cs):=fun cs=>HM.upd_same _ _ _
 simp +decide only[ZS,↓reduceIte,hbs]
 refine hN _ ?_
 clear hN hE N E
 try simp only[HM.upd_upd]
 refine A10 [] fun N E hN hE=>?_
 simp +decide only[ZS,↓reduceIte]
 refine hN _ ?_
 clear hN hE N E
 refine L10 (K10 4 rfl ?_)
 simp +decide only[ZS,↓reduceIte]
 exact hk b hb
end
def oC {F:Bool->List ByteArray} (h:Bool) (a:CS F):AObj:=.cells 3 [.int ((a.num h:Int)-1)]
def capC (h:Bool) (b:Nat) (w:List ByteArray):AV:=.func (.func 121) [] [.addr b 0,.ref [.str (letter h)],.ref [.imap (kv w)]]
theorem letter_size (h:Bool):(letter h).size<=12:=by cases h<;>decide
section
variable {G:GT} {H:HM}
theorem canon1_c (hG:Tabs G) {F:Bool->List ByteArray} {w:Bool->List ByteArray} (hw:∀ h x,x∈w h↔x∈F h) (a:CS F) (hc:∀ h,a.cnt+(F h).length<=1000000000) (s:ByteArray) (h:Bool) {bv bh:Nat} (hne:bv≠bh) (hv:H bv=some (oC false a)) (hh:H bh=some (oC true a)) :
  CallF prog G 76 [.str s,.bool h,.ref [capC true bh (w true)],.ref [capC false bv (w false)]] H fun r H'=>r=.ret (.str (nxC F a s h).1)/\H'=(H.upd bv (oC false (nxC F a s h).2)).upd bh (oC true (nxC F a s h).2):=by
 have hle:∀ q,nextN (letter q) (F q) (a.num q)<=1000000000:=fun q=>by
  have:=nxC_le F a q
  have:=hc q
  omega
 have hst:∀ q,oC q (nxC F a s h).2=if q=h then .cells 3 [.int (nextN (letter h) (F h) (a.num h))] else oC q a:=fun q=>by
  show AObj.cells 3 [.int (((a.step h).num q:Int)-1)]=_
  rw[CS.step_num]
  split
  ·rw[nat_pred]
  ·rfl
 refine A11 (fn:=f76) func76 rfl (by kernel_rfl) (Nat.le_of_ble_eq_true (by kernel_rfl)) ?_
 refine A10 [] fun N E hN hE=>?_
 simp +decide only[ZS,↓reduceIte]
 refine hN _ ?_
 clear hN hE N E
 refine I10 (A10 [] fun N E hN hE=>?_)
 simp +decide only[ZS,↓reduceIte]
 refine hN _ ?_
 clear hN hE N E
 refine T10 rfl (fun hc=>?_) (fun hc=>?_)
 ·obtain rfl:h=true:=hc
  refine A10 [] fun N E hN hE=>?_
  simp +decide only[ZS,↓reduceIte]
  refine CallV.mono (CallF.callV (by kernel_rfl) (num1_c hG (letter true) (letter_size true) (hw true) (a.num true) (hle true) hh)) ?_
  rintro r' H' ⟨rfl,rfl⟩
  rw[M10]
  simp +decide only[ZS,↓reduceIte]
  refine hN _ ?_
  clear hN hE N E
  refine L10 ?_
  try simp only[AX.then]
  refine K10 (fn:=f76) 6 rfl ?_
  simp +decide only[ZS,↓reduceIte]
  refine ⟨rfl,?_⟩
  rw[hst,hst,if_neg (by decide),if_pos rfl,updH_self hv]
 ·obtain rfl:h=false:=hc
  refine G10 ?_
  refine A10 [] fun N E hN hE=>?_
  simp +decide only[ZS,↓reduceIte]
  refine CallV.mono (CallF.callV (by kernel_rfl) (num1_c hG (letter false) (letter_size false) (hw false) (a.num false) (hle false) hv)) ?_
  rintro r' H' ⟨rfl,rfl⟩
  rw[M10]
  simp +decide only[ZS,↓reduceIte]
  refine hN _ ?_
  clear hN hE N E
  refine L10 ?_
  try simp only[AX.then]
  refine K10 (fn:=f76) 6 rfl ?_
  simp +decide only[ZS,↓reduceIte]
  refine ⟨rfl,?_⟩
  rw[hst,hst,if_pos rfl,if_neg (by decide),updH_self (H:=H.upd bv _) (by rw[HM.upd_ne _ _ (Ne.symm hne)];exact hh)]
end
theorem vresults_aggT {P:Program} {fn:Func} {tm:Nat->AV} {H:HM} {a t b u:Nat} {et:Nat} {cs:List AV} {ti:TI} (h:fn.results = #[.cell a t,.tmp u]) (ht:tiOf P t=some ti) (hag:ti.agg=true) (hl:ti.size=cs.length) (ha:tm a=.addr b 0) (hb:H b=some (.cells et cs)) :
  vresults P fn H tm=some (.tup [.agg cs,tm u]):=by
 simp[vresults,vresL,vres,h,ht,ha,cellsAt,hb,ldv,hag,hl]
theorem wops_step {P:Program} {G:GT} {M:List Nat} {ops:Array Oper} {N:AS->Prop} {l:List Oper} {tm:Nat->AV} {H:HM} {ds:List ADef}
  (h:∀ N':AS->Prop,(∀ s',N s'->N' s')->wops P G M ops N' (fun _ _=>False) l tm H ds):vops P G M ops (onN N fun _ _=>False) l ⟨tm,H,ds⟩:=h _ fun _ h=>h
theorem fresh_old {H Hc:HM} {b:Nat} (ho:∀ b o,H b=some o->Hc b=some o) (hb:Hc b=none):H b=none:=by
 cases h:H b with
 |none=>rfl
 |some o=>rw[ho b o h] at hb;cases hb
theorem B11 {H:HM} {b k:Nat} {o x:AObj} (hb:H b=none) (h:H k=some x):(H.upd b o) k=some x:=by
 rw[HM.upd_ne _ _ (fun q=>by rw[q,hb] at h;cases h)];exact h
theorem K12 {H:HM} {b k:Nat} {o x:AObj} (hn:k≠b) (h:H k=some x):(H.upd b o) k=some x:=by rw[HM.upd_ne _ _ hn];exact h
def nilF:AV:=.val .nilFunc
structure CanJ (H:HM) (e:Ex) (r:Nat) (d1 d2 d4 d5 d6 d7 d8 d9:Bool) (bv bh b5 b6:Nat) (s:AS):Prop where
 ds:s.defs=[]
 t1:s.tmps 1=.ref e.av.cells
 t2:s.tmps 2=.addr r 0
 t13:s.tmps 13=e.av
 t16:s.tmps 16=e.av
 old:∀ b o,H b=some o->s.H b=some o
 f14:d1=true->s.tmps 14=.imap (kv (freeK e false))
 f17:d4=true->s.tmps 17=.imap (kv (freeK e true))
 v:d2=true->H bv=none/\s.H bv=some (.cells 3 [.int (-1)])/\s.tmps 15=capC false bv (freeK e false)
 h:d5=true->H bh=none/\s.H bh=some (.cells 3 [.int (-1)])/\s.tmps 18=capC true bh (freeK e true)
 c5:d6=true->H b5=none/\s.H b5=some (.cells 87 [if d8 then capC false bv (freeK e false) else nilF])/\s.tmps 5=.addr b5 0
 c6:d7=true->H b6=none/\s.H b6=some (.cells 87 [if d9 then capC true bh (freeK e true) else nilF])/\s.tmps 6=.addr b6 0
 n1:d2=true->d5=true->bv≠bh
 n2:d6=true->d7=true->b5≠b6
 k8:d8=true->d2=true/\d6=true
 k9:d9=true->d5=true/\d7=true
def zeroEx:Ex:=.mk 0 0 emp emp [] [] []
noncomputable def sCanon (e:Ex):Ex:=if check e=0 then canonF e else zeroEx
section
variable {H:HM}
theorem sCanon_c (e:Ex) (hi:Inp e):PureF prog G0 33 [e.av] H (.tup [(sCanon e).av,.int (check e)]):=by
 have hbb:bnd=16777216:=rfl
 refine P10 (fn:=f33) func33 rfl (by kernel_rfl) (by kernel_rfl) (Nat.le_of_ble_eq_true (by kernel_rfl)) fun K hk=>?_
 refine A10 [] fun N E hN hE=>?_
 simp +decide only[ZS,↓reduceIte]
 refine F10 fun r hr=>?_
 simp +decide only[ZS,↓reduceIte]
 refine hN _ ?_
 clear hN hE N E
 have k2:∀ cs,(H.upd r (.cells 27 cs)) r=some (.cells 27 cs):=fun cs=>HM.upd_same _ _ _
 refine I10 (A10 [] fun N E hN hE=>?_)
 simp +decide only[ZS,↓reduceIte]
 refine D10 (pCheck_c tabs2_0 e hi.1) ?_
 simp +decide only[ZS,↓reduceIte]
 refine hN _ ?_
 clear hN hE N E
 refine A10 [] fun N E hN hE=>?_
 simp +decide only[ZS,↓reduceIte]
 refine hN _ ?_
 clear hN hE N E
 refine T10 rfl (fun hc=>?_) (fun hc=>?_)
 ·have hc':check e≠0:=by simpa using hc
  refine A10 [] fun N E hN hE=>?_
  simp +decide only[ZS,↓reduceIte,k2]
  refine hN _ ?_
  clear hN hE N E
  refine L10 ?_
  simp only[AX.then]
  have hz:sCanon e=zeroEx:=by unfold sCanon;rw[if_neg hc']
  rw[hz] at hk
  try simp only[HM.upd_upd]
  have n0:View G0 (H.upd r (.cells 27 zc)) H .nil0 (.list []):=View.nil0 (Drop.upd hr)
  have v0:∀ x,View G0 (H.upd r (.cells 27 zc)) H x x:=fun x=>View.of_drop (Drop.upd hr) x
  refine ⟨fun d hd=>(by cases hd),_,.tup [zeroEx.av,.int (check e)],H,vresults_aggT (a:=2) (t:=27) (cs:=zc) rfl ti27 rfl rfl rfl (k2 _),Drop.upd hr,?_,hk⟩
  refine View.tup (.cons ?_ (.cons (v0 _) .nil))
  have hres:zeroEx.av=.agg [.int 0,.int 0,.str emp,.str emp,.list [],.list [],.list []]:=(ex_fold 0 0 emp emp [] [] []).symm
  rw[hres]
  exact View.agg (.cons (v0 _) (.cons (v0 _) (.cons (v0 _) (.cons (v0 _) (.cons n0 (.cons n0 (.cons n0 .nil)))))))
 ·have hc':check e=0:=by simpa using hc
  have he:=hi.okk hc'
  refine G10 ?_
  show VW prog G0 f33.ntmps none _ _ ⟨_,_,_⟩
  obtain ⟨Hr,hHr⟩:∃ Hr,Hr=H.upd r (.cells 27 zc):=⟨_,rfl⟩
  have hrr:Hr r=some (.cells 27 zc):=by rw[hHr,HM.upd_same]
  have hro:∀ b,b≠r->Hr b=H b:=fun b hb=>by rw[hHr,HM.upd_ne _ _ hb]
  show VW prog G0 f33.ntmps none _ _ ⟨_,H.upd r (.cells 27 zc),_⟩
  rw[<-hHr]
  clear hHr k2
  refine V12 fun tm htm=>?_
  have u1:tm 1=.ref [.int e.k,.int e.n,.str e.s,.str e.t,.list (strs e.names),.list (exs e.l),.list (ars e.arms)]:=by rw[htm];rfl
  have u2:tm 2=.addr r 0:=by rw[htm];rfl
  have u3:tm 3=.int 0:=by rw[htm];rfl
  clear htm
  refine' VW_inv [] [0,3] (fun _=>True) (fun D s=>∃ bv bh b5 b6,CanJ Hr e r (D 1) (D 2) (D 4) (D 5) (D 6) (D 7) (D 8) (D 9) bv bh b5 b6 s) (by kernel_rfl) (by kernel_rfl) trivial (fun H' N hp hN=>?_) ?_ ?_ ?_
  rotate_left 1
  ·simp only[opsAt,List.drop,List.take,List.cons_append,List.nil_append]
   simp +decide only[ZS,QS,↓reduceIte,u1]
   exact hN
  ·exact ⟨0,0,0,0,⟨rfl,by rw[C10];exact u1,u2,rfl,rfl,fun _ _ h=>h,fun h=>(by cases h),fun h=>(by cases h),fun h=>(by cases h),fun h=>(by cases h),fun h=>(by cases h),fun h=>(by cases h),fun h=>(by cases h),fun h=>(by cases h),fun h=>(by cases h),fun h=>(by cases h)⟩⟩
  ·intro i hi hq D s hD hDi
   obtain ⟨tm2,Hc,ds⟩:=s
   rintro ⟨bv,bh,b5,b6,j⟩
   obtain rfl:ds=[]:=j.ds
   have hi':i<10:=hi
   have h0:i≠0:=fun q=>by rw[q] at hq;exact absurd hq (by decide)
   have h3:i≠3:=fun q=>by rw[q] at hq;exact absurd hq (by decide)
   have j1:=j.t1
   have j13:=j.t13
   have j16:=j.t16
   simp only at j1 j13 j16
   refine wops_step fun N hN=>?_
   rcases (show i=1\/i=2\/i=4\/i=5\/i=6\/i=7\/i=8\/i=9 by omega) with rfl|rfl|rfl|rfl|rfl|rfl|rfl|rfl
   ·simp only[List.drop,List.take]
    simp +decide only[ZS,↓reduceIte,j13]
    refine D10 (free_c e he false) ?_
    simp +decide only[ZS,↓reduceIte]
    exact hN _ ⟨trivial,bv,bh,b5,b6,⟨rfl,j.t1,j.t2,j.t13,j.t16,j.old,fun _=>rfl,j.f17,j.v,j.h,j.c5,j.c6,j.n1,j.n2,j.k8,j.k9⟩⟩
   ·have j14:=j.f14 (hD 1 (by kernel_rfl))
    simp only at j14
    simp only[List.drop,List.take]
    simp +decide only[ZS,↓reduceIte,j14]
    refine W10 (by kernel_rfl) (numbered_c (letter false) (freeK e false) fun b hb=>?_)
    rw[M10]
    simp +decide only[ZS,↓reduceIte]
    have hb0:=fresh_old j.old hb
    refine hN _ ⟨trivial,b,bh,b5,b6,⟨rfl,j.t1,j.t2,j.t13,j.t16,fun k o h=>B11 hb (j.old k o h),j.f14,j.f17,fun _=>⟨hb0,HM.upd_same _ _ _,rfl⟩,fun h=>⟨(j.h h).1,B11 hb (j.h h).2.1,(j.h h).2.2⟩,fun h=>?_,fun h=>⟨(j.c6 h).1,B11 hb (j.c6 h).2.1,(j.c6 h).2.2⟩,fun _ h q=>?_,j.n2,fun h=>⟨rfl,(j.k8 h).2⟩,j.k9⟩⟩
    ·have h8:D 8=false:=by
      cases q:D 8 with
      |false=>rfl
      |true=>have:=(j.k8 q).1;rw[hDi] at this;cases this
     have:=j.c5 h
     rw[h8] at this
     refine ⟨this.1,?_,this.2.2⟩
     show (Hc.upd b _) b5=some (.cells 87 [if D 8=true then _ else nilF])
     rw[h8]
     exact B11 hb this.2.1
    ·have:=(j.h h).2.1
     rw[<-q] at this
     have hb':Hc b=none:=hb
     rw[show Hc b=some _ from this] at hb';cases hb'
   ·simp only[List.drop,List.take]
    simp +decide only[ZS,↓reduceIte,j16]
    refine D10 (free_c e he true) ?_
    simp +decide only[ZS,↓reduceIte]
    exact hN _ ⟨trivial,bv,bh,b5,b6,⟨rfl,j.t1,j.t2,j.t13,j.t16,j.old,j.f14,fun _=>rfl,j.v,j.h,j.c5,j.c6,j.n1,j.n2,j.k8,j.k9⟩⟩
   ·have j17:=j.f17 (hD 4 (by kernel_rfl))
    simp only at j17
    simp only[List.drop,List.take]
    simp +decide only[ZS,↓reduceIte,j17]
    refine W10 (by kernel_rfl) (numbered_c (letter true) (freeK e true) fun b hb=>?_)
    rw[M10]
    simp +decide only[ZS,↓reduceIte]
    have hb0:=fresh_old j.old hb
    refine hN _ ⟨trivial,bv,b,b5,b6,⟨rfl,j.t1,j.t2,j.t13,j.t16,fun k o h=>B11 hb (j.old k o h),j.f14,j.f17,fun h=>⟨(j.v h).1,B11 hb (j.v h).2.1,(j.v h).2.2⟩,fun _=>⟨hb0,HM.upd_same _ _ _,rfl⟩,fun h=>⟨(j.c5 h).1,B11 hb (j.c5 h).2.1,(j.c5 h).2.2⟩,fun h=>?_,fun h _ q=>?_,j.n2,j.k8,fun h=>⟨rfl,(j.k9 h).2⟩⟩⟩
    ·have h9:D 9=false:=by
      cases q:D 9 with
      |false=>rfl
      |true=>have:=(j.k9 q).1;rw[hDi] at this;cases this
     have:=j.c6 h
     rw[h9] at this
     refine ⟨this.1,?_,this.2.2⟩
     show (Hc.upd b _) b6=some (.cells 87 [if D 9=true then _ else nilF])
     rw[h9]
     exact B11 hb this.2.1
    ·have:=(j.v h).2.1
     rw[q] at this
     have hb':Hc b=none:=hb
     rw[show Hc b=some _ from this] at hb';cases hb'
   ·have h8:D 8=false:=by
     cases q:D 8 with
     |false=>rfl
     |true=>have:=(j.k8 q).2;rw[hDi] at this;cases this
    simp only[List.drop,List.take]
    simp +decide only[ZS,↓reduceIte]
    refine F10 fun b hb=>?_
    simp +decide only[ZS,↓reduceIte]
    have hb0:=fresh_old j.old hb
    refine hN _ ⟨trivial,bv,bh,b,b6,⟨rfl,j.t1,j.t2,j.t13,j.t16,fun k o h=>B11 hb (j.old k o h),j.f14,j.f17,fun h=>⟨(j.v h).1,B11 hb (j.v h).2.1,(j.v h).2.2⟩,fun h=>⟨(j.h h).1,B11 hb (j.h h).2.1,(j.h h).2.2⟩,fun _=>⟨hb0,?_,rfl⟩,fun h=>⟨(j.c6 h).1,B11 hb (j.c6 h).2.1,(j.c6 h).2.2⟩,j.n1,fun _ h q=>?_,fun h=>⟨(j.k8 h).1,rfl⟩,j.k9⟩⟩
    ·show (Hc.upd b _) b=some (.cells 87 [if D 8=true then _ else nilF])
     rw[h8,HM.upd_same];rfl
    ·have:=(j.c6 h).2.1
     rw[<-q] at this
     have hb':Hc b=none:=hb
     rw[show Hc b=some _ from this] at hb';cases hb'
   ·have h9:D 9=false:=by
     cases q:D 9 with
     |false=>rfl
     |true=>have:=(j.k9 q).2;rw[hDi] at this;cases this
    simp only[List.drop,List.take]
    simp +decide only[ZS,↓reduceIte]
    refine F10 fun b hb=>?_
    simp +decide only[ZS,↓reduceIte]
    have hb0:=fresh_old j.old hb
    refine hN _ ⟨trivial,bv,bh,b5,b,⟨rfl,j.t1,j.t2,j.t13,j.t16,fun k o h=>B11 hb (j.old k o h),j.f14,j.f17,fun h=>⟨(j.v h).1,B11 hb (j.v h).2.1,(j.v h).2.2⟩,fun h=>⟨(j.h h).1,B11 hb (j.h h).2.1,(j.h h).2.2⟩,fun h=>⟨(j.c5 h).1,B11 hb (j.c5 h).2.1,(j.c5 h).2.2⟩,fun _=>⟨hb0,?_,rfl⟩,j.n1,fun h _ q=>?_,j.k8,fun h=>⟨(j.k9 h).1,rfl⟩⟩⟩
    ·show (Hc.upd b _) b=some (.cells 87 [if D 9=true then _ else nilF])
     rw[h9,HM.upd_same];rfl
    ·have:=(j.c5 h).2.1
     rw[q] at this
     have hb':Hc b=none:=hb
     rw[show Hc b=some _ from this] at hb';cases hb'
   ·have hd2:=hD 2 (by kernel_rfl)
    have hd6:=hD 6 (by kernel_rfl)
    obtain ⟨c1,c2,c3⟩:=j.c5 hd6
    obtain ⟨e1,e2,e3⟩:=j.v hd2
    simp only at c2 c3 e2 e3
    rw[hDi] at c2
    simp only[List.drop,List.take]
    simp +decide only[ZS,↓reduceIte,c3,e3,c2]
    have ne5:∀ {k et cs},Hc k=some (.cells et cs)->et≠87->k≠b5:=fun h hn q=>by
     rw[q,c2] at h;injection h with h;injection h with h;exact hn h.symm
    refine ⟨⟨rfl,rfl⟩,hN _ ⟨trivial,bv,bh,b5,b6,⟨rfl,j.t1,j.t2,j.t13,j.t16,fun k o h=>K12 (fun q=>by rw[q,c1] at h;cases h) (j.old k o h),j.f14,j.f17,fun h=>⟨e1,K12 (ne5 e2 (by decide)) e2,e3⟩,fun h=>⟨(j.h h).1,K12 (ne5 (j.h h).2.1 (by decide)) (j.h h).2.1,(j.h h).2.2⟩,fun _=>⟨c1,HM.upd_same _ _ _,c3⟩,fun h=>⟨(j.c6 h).1,K12 (Ne.symm (j.n2 hd6 h)) (j.c6 h).2.1,(j.c6 h).2.2⟩,j.n1,j.n2,fun _=>⟨hd2,hd6⟩,j.k9⟩⟩⟩
   ·have hd5:=hD 5 (by kernel_rfl)
    have hd7:=hD 7 (by kernel_rfl)
    obtain ⟨c1,c2,c3⟩:=j.c6 hd7
    obtain ⟨e1,e2,e3⟩:=j.h hd5
    simp only at c2 c3 e2 e3
    rw[hDi] at c2
    simp only[List.drop,List.take]
    simp +decide only[ZS,↓reduceIte,c3,e3,c2]
    have ne6:∀ {k et cs},Hc k=some (.cells et cs)->et≠87->k≠b6:=fun h hn q=>by
     rw[q,c2] at h;injection h with h;injection h with h;exact hn h.symm
    refine ⟨⟨rfl,rfl⟩,hN _ ⟨trivial,bv,bh,b5,b6,⟨rfl,j.t1,j.t2,j.t13,j.t16,fun k o h=>K12 (fun q=>by rw[q,c1] at h;cases h) (j.old k o h),j.f14,j.f17,fun h=>⟨(j.v h).1,K12 (ne6 (j.v h).2.1 (by decide)) (j.v h).2.1,(j.v h).2.2⟩,fun h=>⟨e1,K12 (ne6 e2 (by decide)) e2,e3⟩,fun h=>⟨(j.c5 h).1,K12 (j.n2 h hd7) (j.c5 h).2.1,(j.c5 h).2.2⟩,fun _=>⟨c1,HM.upd_same _ _ _,c3⟩,j.n1,j.n2,j.k8,fun _=>⟨hd5,hd7⟩⟩⟩⟩
  ·rintro D ⟨tm2,Hc,ds⟩ hall ⟨bv,bh,b5,b6,j⟩
   obtain rfl:ds=[]:=j.ds
   have A:∀ i,i<10->[0,3].contains i=false->D i=true:=fun i h1 h2=>hall i h1 h2
   obtain ⟨v1,v2,v3⟩:=j.v (A 2 (by decide) (by decide))
   obtain ⟨h1,h2,h3⟩:=j.h (A 5 (by decide) (by decide))
   obtain ⟨p1,p2,p3⟩:=j.c5 (A 6 (by decide) (by decide))
   obtain ⟨q1,q2,q3⟩:=j.c6 (A 7 (by decide) (by decide))
   have n1:=j.n1 (A 2 (by decide) (by decide)) (A 5 (by decide) (by decide))
   have n2:=j.n2 (A 6 (by decide) (by decide)) (A 7 (by decide) (by decide))
   rw[A 8 (by decide) (by decide)] at p2
   rw[A 9 (by decide) (by decide)] at q2
   have j1:=j.t1
   have j2:=j.t2
   have hold:=j.old
   simp only at j1 j2 v2 v3 h2 h3 p2 p3 q2 q3 hold
   rw[if_pos trivial] at p2 q2
   clear j hall A
   obtain ⟨Hm,hHm⟩:∃ Hm:HM,Hm=fun k=>if k=b5 then none else Hc k:=⟨_,rfl⟩
   obtain ⟨Hn,hHn⟩:∃ Hn:HM,Hn=fun k=>if k=b6 then none else Hm k:=⟨_,rfl⟩
   have dm:Drop Hc Hm:=fun k=>by
    rw[hHm]
    by_cases q:k=b5
    ·exact .inl (if_pos q)
    ·exact .inr (if_neg q)
   have dn:Drop Hm Hn:=fun k=>by
    rw[hHn]
    by_cases q:k=b6
    ·exact .inl (if_pos q)
    ·exact .inr (if_neg q)
   have gm:∀ {k},k≠b5->Hm k=Hc k:=fun q=>by rw[hHm];exact if_neg q
   have gn:∀ {k},k≠b6->Hn k=Hm k:=fun q=>by rw[hHn];exact if_neg q
   have m5:Hm b5=none:=by rw[hHm];exact if_pos rfl
   have m6:Hn b6=none:=by rw[hHn];exact if_pos rfl
   have k6:Hm b6=some (.cells 87 [capC true bh (freeK e true)]):=by rw[gm (Ne.symm n2)];exact q2
   have ne:∀ {k et cs},Hc k=some (.cells et cs)->et≠87->k≠b5/\k≠b6:=fun h hn=>⟨fun q=>by rw[q,p2] at h;injection h with h;injection h with h;exact hn h.symm,fun q=>by rw[q,q2] at h;injection h with h;injection h with h;exact hn h.symm⟩
   have nv:Hn bv=some (.cells 3 [.int (-1)]):=by rw[gn (ne v2 (by decide)).2,gm (ne v2 (by decide)).1];exact v2
   have nh:Hn bh=some (.cells 3 [.int (-1)]):=by rw[gn (ne h2 (by decide)).2,gm (ne h2 (by decide)).1];exact h2
   have nold:∀ k o,Hr k=some o->Hn k=some o:=fun k o h=>by
    have k5:k≠b5:=fun q=>by rw[q,p1] at h;cases h
    have k6:k≠b6:=fun q=>by rw[q,q1] at h;cases h
    rw[gn k6,gm k5];exact hold k o h
   refine VW_see (s:=⟨tm2,Hc,[]⟩) (i:=5) (H1:=Hm) (v':=.ref [capC false bv (freeK e false)]) dm (by show View G0 Hc Hm (tm2 5) _;rw[p3];exact View.cells (off:=0) dm p2 m5) ?_
   refine VW_see (s:=⟨_,Hm,[]⟩) (i:=6) (H1:=Hn) (v':=.ref [capC true bh (freeK e true)]) dn (by show View G0 Hm Hn (tm2 6) _;rw[q3];exact View.cells (off:=0) dn k6 m6) ?_
   clear dm dn gm gn m5 m6 k6 ne p2 p3 q2 q3 v2 h2 hHm hHn hold
   rw[C10] at j1
   refine A10 [] fun N E hN hE=>?_
   simp +decide only[ZS,↓reduceIte,j1,j2]
   refine W10 (by kernel_rfl) (CallF.mono (renamerIn_c (nx:=nxC (FH e)) (o1:=oC false) (o2:=oC true) (cnt:=CS.cnt) (top:=900000000) (g:=76) (cap:=[.ref [capC true bh (freeK e true)],.ref [capC false bv (freeK e false)]]) n1 ?_ (nxC_cnt _) e he [] (CS.zero _) Hn nv nh (show 0+e.wid<=900000000 by have:=he.2.2.2;omega)) ?_)
   ·intro a s h H1 hca hsa hva hb1 hb2
    refine CallF.callV (by kernel_rfl) (canon1_c (F:=FH e) (w:=freeK e) tabs0 (fun h x=>by rw[freeK_mem,FH_mem he.2.1]) a (fun q=>?_) s h n1 hb1 hb2)
    have:=FH_len e q
    have:=he.2.2.1
    omega
   rintro r' H5 ⟨rfl,rfl⟩
   rw[M10]
   have hcan:(renF (nxC (FH e)) e [] (CS.zero (FH e))).1=sCanon e:=by unfold sCanon;rw[if_pos hc'];rfl
   rw[hcan]
   generalize (renF (nxC (FH e)) e [] (CS.zero (FH e))).2=a9
   have hrv:r≠bv:=fun q=>by rw[<-q,hrr] at v1;cases v1
   have hrh:r≠bh:=fun q=>by rw[<-q,hrr] at h1;cases h1
   have n5:((Hn.upd bv (oC false a9)).upd bh (oC true a9)) r=some (.cells 27 zc):=by rw[HM.upd_ne _ _ hrh,HM.upd_ne _ _ hrv];exact nold r _ hrr
   have d5:Drop ((Hn.upd bv (oC false a9)).upd bh (oC true a9)) H:=fun k=>by
    by_cases qr:k=r
    ·rw[qr];exact .inl hr
    ·have hv0:H bv=none:=by
      rw[<-hro bv (Ne.symm hrv)];exact v1
     have hh0:H bh=none:=by rw[<-hro bh (Ne.symm hrh)];exact h1
     by_cases qh:k=bh
     ·rw[qh];exact .inl hh0
     ·by_cases qv:k=bv
      ·rw[qv];exact .inl hv0
      ·rw[HM.upd_ne _ _ qh,HM.upd_ne _ _ qv]
       cases hk':H k with
       |none=>exact .inl rfl
       |some o=>exact .inr (nold k o (by rw[hro k qr];exact hk')).symm
   generalize (Hn.upd bv (oC false a9)).upd bh (oC true a9)=H9 at n5 d5
   simp +decide only[ZS,↓reduceIte,j2,n5]
   refine hN _ ?_
   clear hN hE N E
   refine L10 ?_
   try simp only[AX.then]
   have hd:Drop (H9.upd r (.cells 27 (sCanon e).av.cells)) H:=fun k=>by
    by_cases qr:k=r
    ·rw[qr];exact .inl hr
    ·rw[HM.upd_ne _ _ qr];exact d5 k
   rw[C10] at hd
   have hav:(sCanon e).av=.agg [.int (sCanon e).k,.int (sCanon e).n,.str (sCanon e).s,.str (sCanon e).t,.list (strs (sCanon e).names),.list (exs (sCanon e).l),.list (ars (sCanon e).arms)]:=by
    have:=ex_fold (sCanon e).k (sCanon e).n (sCanon e).s (sCanon e).t (sCanon e).names (sCanon e).l (sCanon e).arms
    rw[ex_eta] at this;exact this.symm
   rw[hc',hav] at hk
   refine ⟨fun d hd=>(by cases hd),_,.tup [.agg [.int (sCanon e).k,.int (sCanon e).n,.str (sCanon e).s,.str (sCanon e).t,.list (strs (sCanon e).names),.list (exs (sCanon e).l),.list (ars (sCanon e).arms)],.int 0],H,vresults_aggT (et:=27) (a:=2) (t:=27) (cs:=[.int (sCanon e).k,.int (sCanon e).n,.str (sCanon e).s,.str (sCanon e).t,.list (strs (sCanon e).names),.list (exs (sCanon e).l),.list (ars (sCanon e).arms)]) rfl ti27 rfl rfl j2 (HM.upd_same _ _ _),hd,View.of_drop hd _,hk⟩
end
end Go.V
