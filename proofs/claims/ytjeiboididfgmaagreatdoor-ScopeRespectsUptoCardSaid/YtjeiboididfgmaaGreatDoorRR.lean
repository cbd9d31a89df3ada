/- The laws ScopeRespects and ScopeCommute over abstract states. No condition. The law ScopeCommute over abstract states. No condition. Arguments that are strings, and pairs. No condition. -/
import Derived.Test.YtjeiboididfgmaaGreatDoorRQ
import Derived.Test.YtjeiboididfgmaaGreatDoorRP
import Derived.Test.YtjeiboididfgmaaGreatDoorRI
import Derived.ChangeMaps5
set_option linter.unusedVariables false
set_option linter.unusedSimpArgs false
set_option linter.defProp false
set_option maxRecDepth 100000
namespace Go.V
open Go Go.Proofs.Tryz
section
variable {H:HM}
theorem respectsLaw_c (e:Ex) (x:ByteArray) (w:Ex) (hie:Inp e) (hx:x.size<=bnd) (hiw:Inp w):PureF prog G0 10 [e.av,.str x,w.av] H (.bool true):=by
 have hs:=fun H0=>sSubst_c (H:=H0) e hie x hx w hiw
 have hok:=fun h=>sSub_ok (x:=x) hie hiw h
 have hre:=respects (x:=x) hie hiw
 obtain ⟨er,her⟩:∃ er,er=(sSub e x w).2:=⟨_,rfl⟩
 obtain ⟨a,haa⟩:∃ a,a=(sSub e x w).1:=⟨_,rfl⟩
 rw[<-her,<-haa] at hre
 simp only[<-her,<-haa] at hs hok
 refine P10 (fn:=f10) func10 rfl (by kernel_rfl) (by kernel_rfl) (Nat.le_of_ble_eq_true (by kernel_rfl)) fun K hk=>?_
 refine A10 [] fun N E hN hE=>?_
 simp +decide only[ZS,↓reduceIte]
 refine hN _ ?_
 clear hN hE N E
 refine A10 [] fun N E hN hE=>?_
 simp +decide only[ZS,↓reduceIte]
 refine D10 (hs _) ?_
 simp +decide only[ZS,↓reduceIte]
 refine F10 fun b7 hb7=>?_
 have k7:∀ cs,(H.upd b7 (.cells 27 cs)) b7=some (.cells 27 cs):=fun cs=>HM.upd_same _ _ _
 simp +decide only[ZS,↓reduceIte,k7]
 refine hN _ ?_
 clear hN hE N E
 try simp only[HM.upd_upd]
 refine V11 (i:=7) hb7 rfl ?_
 clear k7 hb7
 refine I10 (A10 [] fun N E hN hE=>?_)
 simp +decide only[ZS,↓reduceIte]
 refine hN _ ?_
 clear hN hE N E
 refine T10 rfl (fun hc=>?_) (fun hc=>?_)
 ·refine A10 [] fun N E hN hE=>?_
  simp +decide only[ZS,↓reduceIte]
  refine D10 (awake_c _) ?_
  simp +decide only[ZS,↓reduceIte]
  refine hN _ ?_
  clear hN hE N E
  refine L10 (K10 6 rfl ?_)
  simp +decide only[ZS,↓reduceIte]
  exact hk
 have hz:er=0:=by simpa using hc
 refine G10 ?_
 have g:=hok hz
 obtain ⟨r1,r2,r3,r4⟩:=hre hz
 obtain ⟨gc,_⟩:=sCanon_good hie g.ce
 obtain ⟨gd,_⟩:=sUniq_good hiw g.cv
 have hc1:=fun H0=>sCanon_c (H:=H0) e hie
 have hu1:=fun H0=>sUnique_c (H:=H0) w hiw
 have ce:=g.ce
 have cv:=g.cv
 simp only[ce] at hc1
 simp only[cv] at hu1
 generalize sCanon e=c at *
 generalize sUniq w=d at *
 have hs2:=fun H0=>sSubst_c (H:=H0) c gc.inp x hx d gd.inp
 simp only[r1] at hs2
 generalize (sSub c x d).1=b at *
 have ha1:=fun H0=>sAlpha_c (H:=H0) a b g.inp r2.inp g.c r2.c
 have ha2:=fun H0=>sAlpha_c (H:=H0) b a r2.inp g.inp r2.c g.c
 simp only[r3] at ha1
 simp only[r4] at ha2
 refine A10 [] fun N E hN hE=>?_
 simp +decide only[ZS,↓reduceIte]
 refine D10 (hc1 _) ?_
 simp +decide only[ZS,↓reduceIte]
 refine F10 fun b9 hb9=>?_
 have k9:∀ cs,(H.upd b9 (.cells 27 cs)) b9=some (.cells 27 cs):=fun cs=>HM.upd_same _ _ _
 simp +decide only[ZS,↓reduceIte,k9]
 refine hN _ ?_
 clear hN hE N E
 try simp only[HM.upd_upd]
 refine V11 (i:=9) hb9 rfl ?_
 clear k9 hb9
 refine A10 [] fun N E hN hE=>?_
 simp +decide only[ZS,↓reduceIte]
 refine D10 (hu1 _) ?_
 simp +decide only[ZS,↓reduceIte]
 refine F10 fun b11 hb11=>?_
 have k11:∀ cs,(H.upd b11 (.cells 27 cs)) b11=some (.cells 27 cs):=fun cs=>HM.upd_same _ _ _
 simp +decide only[ZS,↓reduceIte,k11]
 refine hN _ ?_
 clear hN hE N E
 try simp only[HM.upd_upd]
 refine V11 (i:=11) hb11 rfl ?_
 clear k11 hb11
 refine I10 (A10 [] fun N E hN hE=>?_)
 simp +decide only[ZS,↓reduceIte,decide_true]
 refine hN _ ?_
 clear hN hE N E
 refine T10 rfl (fun hc=>?_) (fun hc=>?_)
 ·cases hc
 refine G10 ?_
 refine A10 [] fun N E hN hE=>?_
 simp +decide only[ZS,↓reduceIte]
 refine D10 (hs2 _) ?_
 simp +decide only[ZS,↓reduceIte]
 refine F10 fun b13 hb13=>?_
 have k13:∀ cs,(H.upd b13 (.cells 27 cs)) b13=some (.cells 27 cs):=fun cs=>HM.upd_same _ _ _
 simp +decide only[ZS,↓reduceIte,k13]
 refine hN _ ?_
 clear hN hE N E
 try simp only[HM.upd_upd]
 refine V11 (i:=13) hb13 rfl ?_
 clear k13 hb13
 refine A10 [] fun N E hN hE=>?_
 simp +decide only[ZS,↓reduceIte]
 refine D10 (ha1 _) ?_
 simp +decide only[ZS,↓reduceIte]
 refine hN _ ?_
 clear hN hE N E
 refine A10 [] fun N E hN hE=>?_
 simp +decide only[ZS,↓reduceIte]
 refine D10 (ha2 _) ?_
 simp +decide only[ZS,↓reduceIte]
 refine hN _ ?_
 clear hN hE N E
 refine A10 [] fun N E hN hE=>?_
 simp +decide only[ZS,↓reduceIte,decide_true]
 refine D10 (awake_c _) ?_
 simp +decide only[ZS,↓reduceIte]
 refine hN _ ?_
 clear hN hE N E
 refine L10 (K10 6 rfl ?_)
 simp +decide only[ZS,↓reduceIte]
 exact hk
end
section
variable {H:HM}
end
open Go.Proofs Go.Proofs.YtjeiboididfgmaaGreatDoor Go.ChangeShapes Go.WideShapes
section
variable {H:Type} {enc:TypeId×Value->H}
theorem arg_str {W:World} {v:Value} {d:DataW H} {p:List MemPlace} {b0:Nat} (h:DataW.Trod enc prog W 0 (fun _=>true) true 9 v d p) (hval:Value.okWide prog W .any b0 9 v) (hb:Rows.uptoBulk d<=bnd):∃ s:ByteArray,s.size<=bnd/\Rep (Imm H00 W) W (.str s) v:=by
 obtain ⟨s,rfl,rfl,rfl,_⟩:=Go.ChangeMaps.open_string u9 hval h
 have hs:s.size+1=Rows.uptoBulk (DataW.lit (H:=H) (.string s.data.toList)):=by
  show s.data.size+1=s.data.toList.length+1
  rw[Array.length_toList]
 have hl:bnd<=lim:=by decide
 exact ⟨s,by omega,.val _ (by show s.size<=lim;omega)⟩
end
end Go.V
