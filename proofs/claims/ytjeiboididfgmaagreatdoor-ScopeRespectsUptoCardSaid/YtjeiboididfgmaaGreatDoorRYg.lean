/- copy, and cutting to nothing, for rows of one's own. No condition. -/
import Derived.Test.YtjeiboididfgmaaGreatDoorRYf
set_option linter.unusedVariables false
set_option linter.unusedSimpArgs false
namespace Go.V
open Go
section
variable {P:Program} {G:GT} {ρ:Operand->AV} {H:HM} {o:Oper} {K:ARes->HM->Prop}
theorem VX_slice0 {t e sz b n cap:Nat} {x hi mx:Operand} {k1 k2:IntKind} (hop:o.op=.slice t x none (some hi) (some mx)) (ht:tdAt P t=some (.slice e sz)) (hx:ρ x=.mlist b n cap) (h1:ρ hi=.val (.int k1 0)) (h2:ρ mx=.val (.int k2 0))
  (hk:K (.ret .nil0) H):VX P G ρ H o K:=by
 intro ρc w ho hst
 obtain ⟨hu,hs⟩:=R11 (w:=w) ht
 have rx:=ho x (by simp[hop,Op.operands])
 have r1:=ho hi (by simp[hop,Op.operands])
 have r2:=ho mx (by simp[hop,Op.operands])
 rw[hx] at rx;rw[h1] at r1;rw[h2] at r2
 generalize hp:ρc x=p at rx
 cases rx
 have e:∃ a',(Instr.sliceAt t (.slice (some ⟨b,0,none⟩) n cap) none (some (.int k1 0)) (some (.int k2 0))).run P w=.ok (.slice a' 0 0) w:=⟨_,by
  simp only[Instr.sliceAt,Instr.slice,Sem.run_bind,run_underlying hu,Result.andThen,Instr.sliceBounds,Y10 (Int.le_refl 0) (Int.natCast_nonneg cap),
   Y10 (Int.le_refl 0) (show (0:Int)<=(((0:Int).toNat:Nat):Int) by simp),Sem.run_pure,hs]
  rfl⟩
 obtain ⟨a',e⟩:=e
 have:(execOp ρc o).run P w=.ok (.value (.slice a' 0 0)) w:=by
  simp only[execOp,hop,Option.map_some,Option.map_none,hp,r1.val_eq,r2.val_eq,Sem.run_bind,e,Result.andThen,Sem.run_pure]
 rw[this]
 exact ⟨_,_,hk,.nil0 _,hst,Evo.refl _ _⟩
theorem VX_slicepre {t e sz b n cap et sz2:Nat} {xs:List AV} {x hi:Operand} {k1:IntKind} {i:Int} (hop:o.op=.slice t x none (some hi) none) (ht:tdAt P t=some (.slice e sz)) (hx:ρ x=.mlist b n cap) (h1:ρ hi=.val (.int k1 i))
  (hb:H b=some (.row et sz2 cap xs)) (h0:0<=i) (hle:i<=xs.length) (hk:K (.ret (.mlist b i.toNat cap)) H):VX P G ρ H o K:=by
 intro ρc w ho hst
 obtain ⟨hu,hs⟩:=R11 (w:=w) ht
 have rx:=ho x (by simp[hop,Op.operands])
 have r1:=ho hi (by simp[hop,Op.operands])
 rw[hx] at rx;rw[h1] at r1
 generalize hp:ρc x=p at rx
 cases rx
 obtain ⟨vs0,rest,q1,q2,q3,q4,q5,q6⟩:=hst.obj _ _ hb
 have hic:i<=(cap:Int):=by omega
 have e:(Instr.sliceAt t (.slice (some ⟨b,0,none⟩) n cap) none (some (.int k1 i)) none).run P w=.ok (.slice (some ⟨b,0,none⟩) i.toNat cap) w:=by
  simp only[Instr.sliceAt,Instr.slice,Sem.run_bind,run_underlying hu,Result.andThen,Instr.sliceBounds,Y10 h0 hic,Sem.run_pure,hs]
  simp[D11]
 have:(execOp ρc o).run P w=.ok (.value (.slice (some ⟨b,0,none⟩) i.toNat cap)) w:=by
  simp only[execOp,hop,Option.map_some,Option.map_none,hp,r1.val_eq,Sem.run_bind,e,Result.andThen,Sem.run_pure]
 rw[this]
 exact ⟨_,_,hk,.mlist b i.toNat cap,hst,Evo.refl _ _⟩
theorem VX_slicesuf {t e sz b n cap:Nat} {x lo:Operand} {k1:IntKind} {i:Int} (hop:o.op=.slice t x (some lo) none none) (ht:tdAt P t=some (.slice e sz)) (hx:ρ x=.mlist b n cap) (h1:ρ lo=.val (.int k1 i))
  (h0:i=n) (hk:K (.ret (.list [])) H):VX P G ρ H o K:=by
 intro ρc w ho hst
 obtain ⟨hu,hs⟩:=R11 (w:=w) ht
 have rx:=ho x (by simp[hop,Op.operands])
 have r1:=ho lo (by simp[hop,Op.operands])
 rw[hx] at rx;rw[h1] at r1
 generalize hp:ρc x=p at rx
 cases rx
 subst h0
 have e:∃ a c,(Instr.sliceAt t (.slice (some ⟨b,0,none⟩) n cap) (some (.int k1 n)) none none).run P w=.ok (.slice a 0 c) w:=⟨_,_,by
  simp only[Instr.sliceAt,Instr.slice,Sem.run_bind,run_underlying hu,Result.andThen,Instr.sliceBounds,Y10 (Int.natCast_nonneg n) (Int.le_refl _),Sem.run_pure,hs]
  simp
  exact ⟨rfl,rfl⟩⟩
 obtain ⟨a,c,e⟩:=e
 have:(execOp ρc o).run P w=.ok (.value (.slice a 0 c)) w:=by
  simp only[execOp,hop,Option.map_some,Option.map_none,hp,r1.val_eq,Sem.run_bind,e,Result.andThen,Sem.run_pure]
 rw[this]
 exact ⟨_,_,hk,.nil a c,hst,Evo.refl _ _⟩
theorem copy_fin {d x:Operand} {td tx:Nat} (hop:o.op=.call ⟨.builtin .copy,#[d,x],#[td,tx]⟩) {ρc:Operand->Value} {w w':World} {u:Value} (e:(Builtin.copy_ #[td,tx] o.type #[ρc d,ρc x]).run P w=.ok u w') :
  (execOp ρc o).run P w=.ok (.value u) w':=by
 simp only[execOp,hop,resolve,Sem.run_bind,Sem.run_pure,Result.andThen,invoke,builtin]
 have e2:Array.map ρc #[d,x] = #[ρc d,ρc x]:=by simp
 rw[e2,e]
theorem VX_copy0 {d x:Operand} {td tx e sz:Nat} (hop:o.op=.call ⟨.builtin .copy,#[d,x],#[td,tx]⟩) (htd:tdAt P td=some (.slice e sz)) (hd:ρ d=.nil0\/ρ d=.list []) (hx:∃ ys,srcOf H (ρ x)=some ys) (hk:K (.ret (.int 0)) H):VX P G ρ H o K:=by
 intro ρc w ho hst
 obtain ⟨hu,hsz⟩:=R11 htd (w:=w)
 have rd:=ho d (by simp[hop,Op.operands,Call.operands])
 have rx:=ho x (by simp[hop,Op.operands,Call.operands])
 have hdv:∃ a cp,ρc d=.slice a 0 cp:=by
  generalize ρc d=dv at rd
  rcases hd with hd|hd<;>rw[hd] at rd
  ·cases rd;exact ⟨_,_,rfl⟩
  ·cases rd<;>exact ⟨_,_,rfl⟩
 have hxv:∃ q m c,ρc x=.slice q m c:=by
  obtain ⟨ys,hx⟩:=hx
  generalize ρc x=xv at rx
  cases hq:ρ x<;>rw[hq] at hx rx<;>simp only[srcOf] at hx<;>try (cases hx;done)
  ·cases rx<;>exact ⟨_,_,_,rfl⟩
  ·cases rx;exact ⟨_,_,_,rfl⟩
  ·cases rx;exact ⟨_,_,_,rfl⟩
 obtain ⟨a,cp,hdv⟩:=hdv
 obtain ⟨q,m,c,hxv⟩:=hxv
 have hfc:(Builtin.firstCells sz 0 (.slice q m c)).run P w=.ok #[] w:=by
  cases q with
  |none=>rfl
  |some a=>simpa[Builtin.firstCells] using run_loadCells_list (P:=P) (w:=w) a [] (by simp)
 have e1:(Builtin.copy_ #[td,tx] o.type #[ρc d,ρc x]).run P w=.ok (goInt 0) w:=by
  rw[hdv,hxv]
  cases a with
  |none=>simp[Builtin.copy_,Sem.run_bind,run_underlying hu,Result.andThen,Builtin.lenOf,hsz,hfc]
  |some a=>simp[Builtin.copy_,Sem.run_bind,run_underlying hu,Result.andThen,Builtin.lenOf,hsz,hfc,storeCells]
 rw[copy_fin hop e1]
 exact ⟨_,_,hk,.val _ trivial,hst,Evo.refl _ _⟩
theorem VX_copyM {d x:Operand} {td tx e sz b n cap b2 n2 cap2 cap' e' e2 capr2 sz2:Nat} {xs ys:List AV} (hop:o.op=.call ⟨.builtin .copy,#[d,x],#[td,tx]⟩) (htd:tdAt P td=some (.slice e sz)) (hd:ρ d=.mlist b n cap) (hx:ρ x=.mlist b2 n2 cap2)
  (hb:H b=some (.row e' sz cap' xs)) (hb2:H b2=some (.row e2 sz2 capr2 ys)) (hne:b2≠b) (hn:n=xs.length) (hn2:n2=ys.length) (hle:xs.length<=ys.length) (hz:∀ y∈ys,y.cells.length=sz)
  (hk:K (.ret (.int n)) (H.upd b (.row e' sz cap' (ys.take n)))):VX P G ρ H o K:=by
 intro ρc w ho hst
 obtain ⟨hu,hsz⟩:=R11 htd (w:=w)
 have rd:=ho d (by simp[hop,Op.operands,Call.operands])
 have rx:=ho x (by simp[hop,Op.operands,Call.operands])
 rw[hd] at rd;rw[hx] at rx
 generalize hdv:ρc d=dv at rd
 generalize hxv:ρc x=xv at rx
 cases rd;cases rx
 subst hn hn2
 obtain ⟨vs0,rest,q1,q2,q3,q4,q5,q6⟩:=hst.obj _ _ hb
 obtain ⟨ws0,rest2,p1,p2,p3,p4,p5,p6⟩:=hst.obj _ _ hb2
 have hl0:=q2.length
 rw[F12 q3] at hl0
 have hlw:=p2.length
 rw[F12 hz] at hlw
 have hmul:xs.length*sz<=ys.length*sz:=Nat.mul_le_mul_right _ hle
 have htl:(ws0.take (xs.length*sz)).length=xs.length*sz:=by rw[List.length_take];omega
 have s2:(Builtin.firstCells sz xs.length (.slice (some ⟨b2,0,none⟩) ys.length cap2)).run P w=.ok (ws0.take (xs.length*sz)).toArray w:=by
  have:=run_loadCells_list (P:=P) (w:=w) ⟨b2,0,none⟩ (ws0.take (xs.length*sz)) (fun i v hi=>by
   rw[D11,G12 p1]
   have hi':=(List.getElem?_eq_some_iff.1 hi).1
   rw[htl] at hi'
   rw[List.getElem?_take_of_lt hi'] at hi
   rw[List.getElem?_toArray,List.getElem?_append_left (by omega)];simpa using hi)
  rw[htl] at this
  simpa[Builtin.firstCells] using this
 have s3:RepL (Imm H w) w (flat (ys.take xs.length)) (ws0.take (xs.length*sz)):=by
  have e:flat (ys.take xs.length)=(flat ys).take (xs.length*sz):=by
   conv=>rhs;rw[<-List.take_append_drop xs.length ys,flat_append]
   rw[List.take_left' (by rw[F12 (fun y hy=>hz y (List.mem_of_mem_take hy)),List.length_take];congr 1;omega)]
  rw[e];exact p2.take _
 have s4:∀ u∈ws0.take (xs.length*sz),u.oneCell'=true:=fun u hu=>p4 u (List.mem_of_mem_take hu)
 generalize ws0.take (xs.length*sz)=vs at htl s2 s3 s4
 have hoff:0+vs.length<=(vs0++rest).toArray.size:=by simp;omega
 have hrun:=T12 (P:=P) vs 0 0 (vs0++rest).toArray w q1 (by simpa using hoff) s4
 rw[set_range hoff] at hrun
 have hmin:Nat.min ys.length xs.length=xs.length:=Nat.min_eq_right hle
 have e1:(Builtin.copy_ #[td,tx] o.type #[ρc d,ρc x]).run P w=.ok (goInt xs.length) (w.putObj b (.cells ((vs0++rest).toArray.toList.take 0++vs++(vs0++rest).toArray.toList.drop (0+vs.length)).toArray e' (0,0))):=by
  simp only[List.take_zero,List.nil_append,Nat.zero_add] at hrun
  rw[hdv,hxv]
  simp[Builtin.copy_,Sem.run_bind,run_underlying hu,Result.andThen,Builtin.lenOf,hsz,hmin,s2,hrun]
 rw[copy_fin hop e1]
 have hlt:=(Array.getElem?_eq_some_iff.1 q1).1
 have hdrop:(vs0++rest).toArray.toList.drop (0+vs.length)=rest:=by
  simp only[Nat.zero_add]
  rw[List.drop_left' (by omega)]
 rw[hdrop]
 have he:Evo H w (H.upd b (.row e' sz cap' (ys.take xs.length))) (w.putObj b (.cells ((vs0++rest).toArray.toList.take 0++vs++rest).toArray e' (0,0))):=evo_set rfl rfl rfl (by simp) (fun k hk=>World.putObj_heap_other hk) (by simp[hb])
 have htk:(ys.take xs.length).length=xs.length:=by rw[List.length_take];omega
 refine ⟨_,_,hk,.val _ trivial,(St.put_cells hst (by simp[hb]) (show RepO _ _ _ (.row e' sz cap' (ys.take xs.length)) from ⟨vs,rest,?_,he.repL s3,fun y hy=>hz y (List.mem_of_mem_take hy),s4,by rw[htk];exact q5,by rw[htk];exact q6⟩)).1,he⟩
 simpa using World.putObj_heap_same (w:=w) hlt
theorem VX_app0 {s x:Operand} {ts tx e sz:Nat} (hop:o.op=.call ⟨.builtin .append,#[s,x],#[ts,tx]⟩) (hd:tdAt P ts=some (.slice e sz)) (htx:txOk (tdAt P tx)=true) {ei:TI} (hei:tiOf P e=some ei) (hby:ei.bytes<=1024)
  (hs:ρ s=.nil0) (hx:srcOf H (ρ x)=some []) (hk:K (.ret .nil0) H):VX P G ρ H o K:=by
 intro ρc w ho hst
 have rs:=ho s (by simp[hop,Op.operands,Call.operands])
 have rx:=ho x (by simp[hop,Op.operands,Call.operands])
 rw[hs] at rs
 have fin:∀ u w',(Builtin.append_ #[ts,tx] o.type #[ρc s,ρc x]).run P w=.ok u w'->(execOp ρc o).run P w=.ok (.value u) w':=by
  intro u w' e
  simp only[execOp,hop,resolve,Sem.run_bind,Sem.run_pure,Result.andThen,invoke,builtin]
  have e2:Array.map ρc #[s,x] = #[ρc s,ρc x]:=by simp
  rw[e2,e]
 have hxd:∃ xd,P.underlying tx=some xd/\∀ k,xd≠.int k:=by
  cases htd:tdAt P tx with
  |none=>rw[htd] at htx;cases htx
  |some td=>
   obtain ⟨ti,i,dd,z,hi,hdd⟩:=D12 htd
   refine ⟨dd,hi.und,fun k e=>?_⟩
   subst e
   simp only[tdOf] at hdd
   rw[htd,<-hdd] at htx
   cases htx
 obtain ⟨xd,hxu,hxn⟩:=hxd
 obtain ⟨hu,hsz⟩:=R11 (w:=w) hd
 generalize hsv:ρc s=sv at rs
 cases rs with
 |nil0 a=>
  obtain ⟨vs,l1,l2,l3,l4,l5⟩:=src_get (P:=P) (sz:=sz) hx (by simp) rx hst
  have l2'':(Builtin.firstCells sz 0 (ρc x)).run P w=.ok vs.toArray w:=l2 w.drawn
  have hv:vs=[]:=List.eq_nil_of_length_eq_zero (by simpa using l5)
  subst hv
  have:=run_append_fit (ty:=o.type) (w:=w) (base:=a) (sl:=0) (sc:=0) (w':=w) hu hxu hxn l1 hsz l2'' (by simp) (fun q hq=>by simp[storeCells]) (fun _=>rfl)
  rw[fin _ _ (by rw[hsv];exact this)]
  exact ⟨_,_,hk,.nil0 _,hst,Evo.refl _ _⟩
end
end Go.V
