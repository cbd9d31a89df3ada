/- The laws ScopeRespects and ScopeCommute over abstract states. No condition. The law ScopeCommute over abstract states. No condition. Arguments that are strings, and pairs. No condition. -/
import Derived.Test.YtjeiboididfgmaaGreatDoorQQ
import Derived.Test.YtjeiboididfgmaaGreatDoorQP
import Derived.Test.YtjeiboididfgmaaGreatDoorQI
import Derived.ChangeMaps5
set_option linter.unusedVariables false
set_option linter.unusedSimpArgs false
set_option linter.defProp false
set_option maxRecDepth 100000
namespace Go.V
open Go Go.Proofs.Tryz
section
variable {H:HM}
end
def pairC (x y:ByteArray) (v w:Ex):List AV:=[.str x,.str y,.int v.k,.int v.n,.str v.s,.str v.t,.list (strs v.names),.list (exs v.l),.list (ars v.arms),.int w.k,.int w.n,.str w.s,.str w.t,.list (strs w.names),.list (exs w.l),.list (ars w.arms)]
section
variable {H:HM}
theorem commuteLaw_c (e:Ex) (x y:ByteArray) (v w:Ex) (hie:Inp e) (hx:x.size<=bnd) (hy:y.size<=bnd) (hiv:Inp v) (hiw:Inp w):PureF prog G0 9 [e.av,.agg (pairC x y v w)] H (.bool true):=by
 have hlim:bnd<=lim:=by decide
 refine M10 (fn:=f9) func9 rfl (by kernel_rfl) (by kernel_rfl) (Nat.le_of_ble_eq_true (by kernel_rfl)) fun K hk=>?_
 simp only[pairC]
 refine A10 [] fun N E hN hE=>?_
 simp +decide only[ZS,↓reduceIte]
 refine hN _ ?_
 clear hN hE N E
 refine I10 (VW_regqC [] (fun s'=>(∃ b,s'.tmps 42=.bool b/\(b=false->check e=0/\check v=0/\check w=0/\x≠y/\x∉freeOf w))/\s'.tmps 2=.ref e.av.cells/\s'.tmps 3=.ref (pairC x y v w)/\s'.H=H/\s'.defs=[]) 30 (by kernel_rfl) (headOkW_ok (by kernel_rfl)) (by kernel_rfl) (fun N E hN hE=>?_) ?_)
 ·clear hE hk
  simp +decide only[ZS,QS,↓reduceIte]
  refine V10 (check_c e hie.1) ?_
  by_cases c1:check e=0
  rotate_left 1
  ·simp +decide only[ZS,QS,↓reduceIte,decide_eq_false c1]
   refine hN _ ⟨⟨true,rfl,fun q=>(by cases q)⟩,by rw[C10];rfl,rfl,rfl,rfl⟩
  simp +decide only[ZS,QS,↓reduceIte,decide_eq_true c1]
  refine V10 (check_c v hiv.1) ?_
  by_cases c2:check v=0
  rotate_left 1
  ·simp +decide only[ZS,QS,↓reduceIte,decide_eq_true c1,decide_eq_false c2]
   refine hN _ ⟨⟨true,rfl,fun q=>(by cases q)⟩,by rw[C10];rfl,rfl,rfl,rfl⟩
  simp +decide only[ZS,QS,↓reduceIte,decide_eq_true c1,decide_eq_true c2]
  refine V10 (check_c w hiw.1) ?_
  by_cases c3:check w=0
  rotate_left 1
  ·simp +decide only[ZS,QS,↓reduceIte,decide_eq_true c1,decide_eq_true c2,decide_eq_false c3]
   refine hN _ ⟨⟨true,rfl,fun q=>(by cases q)⟩,by rw[C10];rfl,rfl,rfl,rfl⟩
  by_cases c4:x=y
  ·simp +decide only[ZS,QS,↓reduceIte,decide_eq_true c1,decide_eq_true c2,decide_eq_true c3,decide_eq_true c4]
   refine hN _ ⟨⟨true,rfl,fun q=>(by cases q)⟩,by rw[C10];rfl,rfl,rfl,rfl⟩
  have how:=hiw.okk c3
  simp +decide only[ZS,QS,↓reduceIte,decide_eq_true c1,decide_eq_true c2,decide_eq_true c3,decide_eq_false c4]
  refine V10 (freeOf_c w how) ?_
  simp +decide only[ZS,QS,↓reduceIte,decide_eq_true c1,decide_eq_true c2,decide_eq_true c3,decide_eq_false c4]
  refine V10 (has_c (freeOf w) x (Nat.le_trans (freeOf_len w) (Nat.le_trans how.2.2.1 hlim))) ?_
  simp +decide only[ZS,QS,↓reduceIte,decide_eq_true c1,decide_eq_true c2,decide_eq_true c3,decide_eq_false c4]
  refine hN _ ⟨⟨has (freeOf w) x,rfl,fun q=>⟨c1,c2,c3,c4,fun r=>?_⟩⟩,by rw[C10];rfl,rfl,rfl,rfl⟩
  rw[(W11 _ _).2 r] at q;cases q
 rintro ⟨tm,H1,ds⟩ ⟨⟨bb,f42,hgood⟩,f2,f3,gH,gds⟩
 obtain rfl:H1=H:=gH
 obtain rfl:ds=[]:=gds
 simp only[pairC] at f3
 rw[C10] at f2
 refine B10 42 _ f42 (B10 2 _ f2 (B10 3 _ f3 ?_))
 clear f42 f2 f3
 refine O10 rfl (fun hc=>?_) (fun hc=>?_)
 ·refine A10 [] fun N E hN hE=>?_
  simp +decide only[ZS,↓reduceIte]
  refine D10 (awake_c _) ?_
  simp +decide only[ZS,↓reduceIte]
  refine hN _ ?_
  clear hN hE N E
  refine J10 (F10 4 rfl ?_)
  simp +decide only[ZS,↓reduceIte]
  exact hk
 obtain ⟨c1,c2,c3,hxy,hxw⟩:=hgood hc
 refine G10 ?_
 have s1:=fun H0=>sSubst_c (H:=H0) e hie x hx v hiv
 have g1:=fun h=>sSub_ok (x:=x) hie hiv h
 generalize (sSub e x v).2=e1 at s1 g1
 generalize (sSub e x v).1=a1 at s1 g1
 have s3:=fun H0=>sSubst_c (H:=H0) e hie y hy w hiw
 have g3:=fun h=>sSub_ok (x:=y) hie hiw h
 generalize (sSub e y w).2=e3 at s3 g3
 generalize (sSub e y w).1=b1 at s3 g3
 have s4:=fun H0=>sSubst_c (H:=H0) v hiv y hy w hiw
 have g4:=fun h=>sSub_ok (x:=y) hiv hiw h
 generalize (sSub v y w).2=e4 at s4 g4
 generalize (sSub v y w).1=d1 at s4 g4
 refine A10 [5] fun N E hN hE=>?_
 simp +decide only[ZS,↓reduceIte]
 refine D10 (s1 _) ?_
 simp +decide only[ZS,↓reduceIte]
 refine L10 fun b5 hb5=>?_
 have k5:∀ cs,(H1.upd b5 (.cells 27 cs)) b5=some (.cells 27 cs):=fun cs=>HM.upd_same _ _ _
 simp +decide only[ZS,↓reduceIte,k5]
 refine hN _ ?_
 clear hN hE N E
 try simp only[HM.upd_upd]
 refine I10 (A10 [] fun N E hN hE=>?_)
 simp +decide only[ZS,↓reduceIte]
 refine hN _ ?_
 clear hN hE N E
 refine O10 rfl (fun hc=>?_) (fun hc=>?_)
 ·refine U11 (i:=5) hb5 rfl ?_
  refine A10 [] fun N E hN hE=>?_
  simp +decide only[ZS,↓reduceIte]
  refine D10 (awake_c _) ?_
  simp +decide only[ZS,↓reduceIte]
  refine hN _ ?_
  clear hN hE N E
  refine J10 (F10 4 rfl ?_)
  simp +decide only[ZS,↓reduceIte]
  exact hk
 have z1:e1=0:=by simpa using hc
 refine G10 ?_
 have q1:=g1 z1
 have s2:=fun H0=>sSubst_c (H:=H0) a1 q1.inp y hy w hiw
 have g2:=fun h=>sSub_ok (x:=y) q1.inp hiw h
 generalize (sSub a1 y w).2=e2 at s2 g2
 generalize (sSub a1 y w).1=a at s2 g2
 refine A10 [] fun N E hN hE=>?_
 simp +decide only[ZS,↓reduceIte,k5]
 refine D10 (s2 _) ?_
 simp +decide only[ZS,↓reduceIte,k5]
 refine hN _ ?_
 clear hN hE N E
 try simp only[HM.upd_upd]
 refine U11 (i:=5) hb5 rfl ?_
 clear k5 hb5
 refine A10 [7] fun N E hN hE=>?_
 simp +decide only[ZS,↓reduceIte]
 refine D10 (s3 _) ?_
 simp +decide only[ZS,↓reduceIte]
 refine L10 fun b7 hb7=>?_
 have k7:∀ cs,(H1.upd b7 (.cells 27 cs)) b7=some (.cells 27 cs):=fun cs=>HM.upd_same _ _ _
 simp +decide only[ZS,↓reduceIte,k7]
 refine hN _ ?_
 clear hN hE N E
 try simp only[HM.upd_upd]
 refine A10 [] fun N E hN hE=>?_
 simp +decide only[ZS,↓reduceIte]
 refine D10 (s4 _) ?_
 simp +decide only[ZS,↓reduceIte]
 refine L10 fun b9 hb9=>?_
 have k9:∀ X cs,((H1.upd b7 X).upd b9 (.cells 27 cs)) b9=some (.cells 27 cs):=fun X cs=>HM.upd_same _ _ _
 simp +decide only[ZS,↓reduceIte,k9]
 refine hN _ ?_
 clear hN hE N E
 try simp only[HM.upd_upd]
 refine U11 (i:=9) hb9 rfl ?_
 clear k9 hb9
 refine F13 fun tn htn=>?_
 have u2:tn 2=.ref [.int e.k,.int e.n,.str e.s,.str e.t,.list (strs e.names),.list (exs e.l),.list (ars e.arms)]:=by rw[htn];rfl
 have u3:tn 3=.ref [.str x,.str y,.int v.k,.int v.n,.str v.s,.str v.t,.list (strs v.names),.list (exs v.l),.list (ars v.arms),.int w.k,.int w.n,.str w.s,.str w.t,.list (strs w.names),.list (exs w.l),.list (ars w.arms)]:=by rw[htn];rfl
 have u5:tn 5=.ref a.av.cells:=by rw[htn,C10];rfl
 have u6:tn 6=.int e2:=by rw[htn];rfl
 have u7:tn 7=.addr b7 0:=by rw[htn];rfl
 have u8:tn 8=.int e3:=by rw[htn];rfl
 have u9:tn 9=.ref d1.av.cells:=by rw[htn,C10];rfl
 have u10:tn 10=.int e4:=by rw[htn];rfl
 clear htn
 rw[C10] at u5 u9
 refine VW_seqC (fun s'=>(e2=0/\e3=0/\e4=0)/\s'.tmps 2=tn 2/\s'.tmps 3=tn 3/\s'.tmps 5=tn 5/\s'.tmps 7=tn 7/\s'.tmps 9=tn 9/\s'.H=H1.upd b7 (.cells 27 b1.av.cells)/\s'.defs=[]) ?_ ?_
 ·by_cases z2:e2=0
  rotate_left 1
  ·refine A10 [] fun N E hN hE=>?_
   simp +decide only[ZS,↓reduceIte,u6,decide_eq_false z2]
   refine hN _ ?_
   clear hN hE N E
   refine O10 rfl (fun hc=>?_) (fun hc=>?_)
   ·refine U11 (i:=7) hb7 u7 ?_
    refine A10 [] fun N E hN hE=>?_
    simp +decide only[ZS,↓reduceIte]
    refine D10 (awake_c _) ?_
    simp +decide only[ZS,↓reduceIte]
    refine hN _ ?_
    clear hN hE N E
    refine J10 (F10 4 rfl ?_)
    simp +decide only[ZS,↓reduceIte]
    exact hk
   ·cases hc
  by_cases z3:e3=0
  rotate_left 1
  ·refine A10 [] fun N E hN hE=>?_
   simp +decide only[ZS,↓reduceIte,u6,u8,decide_eq_true z2,decide_eq_false z3]
   refine hN _ ?_
   clear hN hE N E
   refine O10 rfl (fun hc=>?_) (fun hc=>?_)
   ·refine U11 (i:=7) hb7 u7 ?_
    refine A10 [] fun N E hN hE=>?_
    simp +decide only[ZS,↓reduceIte]
    refine D10 (awake_c _) ?_
    simp +decide only[ZS,↓reduceIte]
    refine hN _ ?_
    clear hN hE N E
    refine J10 (F10 4 rfl ?_)
    simp +decide only[ZS,↓reduceIte]
    exact hk
   ·cases hc
  by_cases z4:e4=0
  rotate_left 1
  ·refine A10 [] fun N E hN hE=>?_
   simp +decide only[ZS,↓reduceIte,u6,u8,u10,decide_eq_true z2,decide_eq_true z3,decide_eq_false z4]
   refine hN _ ?_
   clear hN hE N E
   refine O10 rfl (fun hc=>?_) (fun hc=>?_)
   ·refine U11 (i:=7) hb7 u7 ?_
    refine A10 [] fun N E hN hE=>?_
    simp +decide only[ZS,↓reduceIte]
    refine D10 (awake_c _) ?_
    simp +decide only[ZS,↓reduceIte]
    refine hN _ ?_
    clear hN hE N E
    refine J10 (F10 4 rfl ?_)
    simp +decide only[ZS,↓reduceIte]
    exact hk
   ·cases hc
  refine A10 [] fun N E hN hE=>?_
  simp +decide only[ZS,↓reduceIte,u6,u8,u10,decide_eq_true z2,decide_eq_true z3,decide_eq_true z4]
  refine hN _ ?_
  clear hN hE N E
  refine O10 rfl (fun hc=>?_) (fun hc=>?_)
  ·cases hc
  exact G10 ⟨⟨z2,z3,z4⟩,rfl,rfl,rfl,rfl,rfl,by rw[C10],rfl⟩
 rintro ⟨tp,Hc,ds⟩ ⟨⟨z2,z3,z4⟩,p2,p3,p5,p7,p9,hHc,hds⟩
 obtain rfl:Hc=_:=hHc
 obtain rfl:ds=[]:=hds
 simp only at p2 p3 p5 p7 p9
 rw[u2] at p2
 rw[u3] at p3
 rw[u5] at p5
 rw[u7] at p7
 rw[u9] at p9
 clear u2 u3 u5 u6 u7 u8 u9 u10
 have q2:=g2 z2
 have q3:=g3 z3
 have q4:=g4 z4
 have s5:=fun H0=>sSubst_c (H:=H0) b1 q3.inp x hx d1 q4.inp
 have g5:=fun h=>sSub_ok (x:=x) q3.inp q4.inp h
 generalize (sSub b1 x d1).2=e5 at s5 g5
 generalize (sSub b1 x d1).1=b at s5 g5
 have k7':(H1.upd b7 (.cells 27 b1.av.cells)) b7=some (.cells 27 [.int b1.k,.int b1.n,.str b1.s,.str b1.t,.list (strs b1.names),.list (exs b1.l),.list (ars b1.arms)]):=by rw[HM.upd_same,C10]
 rw[C10] at k7'
 show VW prog G0 f9.ntmps none _ _ ⟨_,H1.upd b7 (.cells 27 b1.av.cells),_⟩
 rw[C10]
 refine A10 [] fun N E hN hE=>?_
 simp +decide only[ZS,↓reduceIte,p2,p3,p7,p9,k7]
 refine D10 (s5 _) ?_
 simp +decide only[ZS,↓reduceIte,p7,k7]
 refine hN _ ?_
 clear hN hE N E
 try simp only[HM.upd_upd]
 refine U11 (i:=7) hb7 p7 ?_
 refine I10 (A10 [] fun N E hN hE=>?_)
 simp +decide only[ZS,↓reduceIte]
 refine hN _ ?_
 clear hN hE N E
 refine O10 rfl (fun hc=>?_) (fun hc=>?_)
 ·refine A10 [] fun N E hN hE=>?_
  simp +decide only[ZS,↓reduceIte]
  refine D10 (awake_c _) ?_
  simp +decide only[ZS,↓reduceIte]
  refine hN _ ?_
  clear hN hE N E
  refine J10 (F10 4 rfl ?_)
  simp +decide only[ZS,↓reduceIte]
  exact hk
 have z5:e5=0:=by simpa using hc
 refine G10 ?_
 have q5:=g5 z5
 have hal:=commute_alpha hxy hxw q1 q2 q3 q4 q5
 have ha1:=fun H0=>sAlpha_c (H:=H0) a b q2.inp q5.inp q2.c q5.c
 simp only[hal] at ha1
 refine A10 [] fun N E hN hE=>?_
 simp +decide only[ZS,↓reduceIte,p5]
 refine D10 (ha1 _) ?_
 simp +decide only[ZS,↓reduceIte]
 refine hN _ ?_
 clear hN hE N E
 refine A10 [] fun N E hN hE=>?_
 simp +decide only[ZS,↓reduceIte,decide_true]
 refine D10 (awake_c _) ?_
 simp +decide only[ZS,↓reduceIte]
 refine hN _ ?_
 clear hN hE N E
 refine J10 (F10 4 rfl ?_)
 simp +decide only[ZS,↓reduceIte]
 exact hk
end
open Go.Proofs Go.Proofs.YtjeiboididfgmaaGreatDoor Go.ChangeShapes Go.WideShapes
theorem pairU:prog.underlying 61=some (.struct (fieldsOf 61)):=by kernel_rfl
theorem pair_fld:(List.range 4).map (fld 61)=[some (0,9,1),some (1,9,1),some (2,27,7),some (9,27,7)]:=by kernel_rfl
theorem pairN:(fieldsOf 61).size=4:=by kernel_rfl
theorem pairCe:prog.cellsOf 61=16:=by kernel_rfl
section
variable {H:Type} {enc:TypeId×Value->H}
theorem arg_pair {W:World} {v:Value} {d:DataW H} {p:List MemPlace} (h:DataW.Trod enc prog W 0 (fun _=>true) true 61 v d p) (hb:Rows.uptoBulk d<=bnd) :
  ∃ (x y:ByteArray) (e f:Ex),x.size<=bnd/\y.size<=bnd/\Inp e/\Inp f/\Rep (Imm H00 W) W (.agg (pairC x y e f)) v:=by
 obtain ⟨n,hn⟩:=h
 obtain ⟨xs,m,rfl,rfl,hl,hxl,hf⟩:=read_fields pairU hn
 rw[pairCe] at hl
 rw[pairN] at hxl
 have hfl:∀ i r,(List.range 4)[i]?=some i->((List.range 4).map (fld 61))[i]?=some r->fld 61 i=r:=fun i r h1 h2=>by
  rw[List.getElem?_map,h1] at h2;simpa using h2
 rw[pair_fld] at hfl
 have f0:=hf 0 0 9 1 (hfl 0 _ rfl rfl)
 have f1:=hf 1 1 9 1 (hfl 1 _ rfl rfl)
 have f2:=hf 2 2 27 7 (hfl 2 _ rfl rfl)
 have f3:=hf 3 9 27 7 (hfl 3 _ rfl rfl)
 obtain ⟨x0,x1,x2,x3,rfl⟩:∃ x0 x1 x2 x3,xs=[x0,x1,x2,x3]:=by
  match xs,hxl with
  |[x0,x1,x2,x3],_=>exact ⟨x0,x1,x2,x3,rfl⟩
 obtain ⟨d0,p0⟩:=x0;obtain ⟨d1,p1⟩:=x1;obtain ⟨d2,p2⟩:=x2;obtain ⟨d3,p3⟩:=x3
 have hbk:Rows.uptoBulk (DataW.agg (List.map (fun x=>x.1) [(d0,p0),(d1,p1),(d2,p2),(d3,p3)]))=Rows.uptoBulk d0+(Rows.uptoBulk d1+(Rows.uptoBulk d2+(Rows.uptoBulk d3+0)))+1:=by simp[Rows.uptoBulk,Rows.uptoBulkAll]
 rw[hbk] at hb
 obtain ⟨s,a1,a2,a5,a3,a4⟩:=read_str f0 (by omega)
 obtain ⟨t,b1,b2,b5,b3,b4⟩:=read_str f1 (by omega)
 obtain ⟨e,⟨g1,g2,g3⟩,g4,g5⟩:=read_expr _ _ _ _ f2 (by omega)
 obtain ⟨f,⟨k1,k2,k3⟩,k4,k5⟩:=read_expr _ _ _ _ f3 (by omega)
 refine ⟨s,t,e,f,a2,b2,⟨g1,by omega,by omega⟩,⟨k1,by omega,by omega⟩,?_⟩
 have hcs:v.cells.toList=(v.cells.toList.drop 0).take 1++((v.cells.toList.drop 1).take 1++((v.cells.toList.drop 2).take 7++(v.cells.toList.drop 9).take 7)):=by
  generalize v.cells.toList=cs at hl
  match cs,hl with
  |[c0,c1,c2,c3,c4,c5,c6,c7,c8,c9,c10,c11,c12,c13,c14,c15],_=>rfl
 have hrep:RepL (Imm H00 W) W (pairC s t e f) v.cells.toList:=by
  rw[hcs]
  have h1:=a3.append (b3.append (g4.append k4))
  have h2:[AV.str s]++([AV.str t]++(e.av.cells++f.av.cells))=pairC s t e f:=by rw[C10,C10];rfl
  rw[h2] at h1
  exact h1
 have hone:∀ u∈v.cells.toList,u.oneCell'=true:=fun u hu=>by
  rw[hcs] at hu
  simp only[List.mem_append] at hu
  rcases hu with q|q|q|q
  ·exact a4 u q
  ·exact b4 u q
  ·exact g5 u q
  ·exact k5 u q
 cases v with
 |agg cs=>
  have:=Rep.agg (I:=Imm H00 W) (w:=W) (cs:=pairC s t e f) (vs:=cs.toList) hone hrep
  simpa using this
 |_=>simp[Value.cells] at hl
end
end Go.V
