/- Operations that only compute and read, up to the numbers of objects. No condition. -/
import Derived.Test.YtjeiboididfgmaaGreatDoorRYa
set_option linter.unusedVariables false
set_option linter.unusedSimpArgs false
namespace Go.V
open Go
section
variable {R:NR} {n:Nat} {h:Hp} {H:HM} {P:Program}
theorem vslice_ren {lo hi mx:Option AV} {lo' hi' mx':Option AV} (h1:∀ u,lo=some (.val u)->lo'=some (.val u)) (h2:∀ u,hi=some (.val u)->hi'=some (.val u)) (h3:∀ u,mx=some (.val u)->mx'=some (.val u))
  (n1:lo=none->lo'=none) (n2:hi=none->hi'=none) (n3:mx=none->mx'=none) {x x' v:AV} (hx:Ren R x x') (hv:vslice lo hi mx x=some v):∃ v',vslice lo' hi' mx' x'=some v'/\Ren R v v':=by
 cases hx<;>simp only[vslice] at hv<;>try (cases hv;done)
 case val w=>
  cases w<;>dsimp only at hv<;>try (cases hv;done)
  have hn:∃ w',v=.val w':=by
   repeat' split at hv
   all_goals first|(cases hv;done)|(cases hv;exact ⟨_,rfl⟩)
  obtain ⟨w',rfl⟩:=hn
  refine ⟨.val w',?_,.val _⟩
  simp only[vslice]
  split at hv<;>try (cases hv;done)
  ·rw[n1 rfl,n2 rfl,n3 rfl];exact hv
  ·rw[h1 _ rfl,n2 rfl,n3 rfl];exact hv
  ·rw[n1 rfl,h2 _ rfl,n3 rfl];exact hv
  ·rw[h1 _ rfl,h2 _ rfl,n3 rfl];exact hv
 case list xs xs' hl=>
  have hlen:=hl.length
  split at hv<;>try (cases hv;done)
  ·rw[h1 _ rfl,n2 rfl,n3 rfl]
   simp only[vslice,hlen]
   split at hv<;>cases hv
   rw[if_pos (by assumption)]
   exact ⟨_,rfl,.list (hl.drop _)⟩
  ·rw[n1 rfl,h2 _ rfl,n3 rfl]
   simp only[vslice,hlen]
   split at hv<;>cases hv
   rw[if_pos (by assumption)]
   exact ⟨_,rfl,.list (hl.take _)⟩
  ·rw[h1 _ rfl,h2 _ rfl,n3 rfl]
   simp only[vslice,hlen]
   split at hv<;>cases hv
   rw[if_pos (by assumption)]
   exact ⟨_,rfl,.list ((hl.take _).drop _)⟩
  ·rw[n1 rfl,h2 _ rfl,h3 _ rfl]
   cases hv
   exact ⟨_,rfl,.nil0⟩
 case nil0=>
  split at hv<;>try (cases hv;done)
  ·rw[n1 rfl,h2 _ rfl,h3 _ rfl]
   cases hv
   exact ⟨_,rfl,.nil0⟩
  ·rw[n1 rfl,h2 _ rfl,n3 rfl]
   cases hv
   exact ⟨_,rfl,.nil0⟩
theorem vbuild_ren {fs:List (Nat×Nat×Bool)}:∀ {ps ps':List (Nat×AV)} {z z' v:AV} {zs zs':List AV},ps'.map (·.1)=ps.map (·.1)->RenL R (ps.map (·.2)) (ps'.map (·.2))->RenL R zs zs' ->
  vval.vbuild fs zs ps=some v->∃ v',vval.vbuild fs zs' ps'=some v'/\Ren R v v'
 |[],[],_,_,_,_,_,_,_,hz,hv=>by simp only[vval.vbuild] at hv ⊢;cases hv;exact ⟨_,rfl,.agg hz⟩
 |[],_::_,_,_,_,_,_,e,_,_,_=>by simp at e
 |_::_,[],_,_,_,_,_,e,_,_,_=>by simp at e
 |(i,a)::ps,(i',a')::ps',_,_,_,zs,zs',e,h,hz,hv=>by
  simp only[List.map_cons,List.cons.injEq] at e
  obtain ⟨rfl,e⟩:=e
  simp only[List.map_cons] at h
  cases h with
  |cons h1 h2=>
   simp only[vval.vbuild] at hv ⊢
   split at hv
   ·rename_i off sz bb ef
    split at hv
    ·rename_i hc
     rw[if_pos ⟨by rw[h1.clen];exact hc.1,by rw[hz.length];exact hc.2.1,by rw[h1.one];exact hc.2.2⟩]
     exact vbuild_ren (z:=.unit) (z':=.unit) e h2 (((hz.take off).append h1.cells).append (hz.drop _)) hv
    ·cases hv
   ·cases hv
def vmm (f:Int->Int->Int):List AV->Option AV
 |[.val (.int k x),.val (.int k' y)]=>if k=k' then some (.val (.int k (f x y))) else none
 |_=>none
theorem vmm_ren {args args':List AV} {f:Int->Int->Int} (hl:RenL R args args') {v:AV} (hv:vmm f args=some v):vmm f args'=some v/\∃ u,v=.val u:=by
 unfold vmm at hv
 split at hv
 ·cases hl with
  |cons h1 h2=>cases h2 with
   |cons h3 h4=>
    cases h1;cases h3;cases h4
    refine ⟨by unfold vmm;exact hv,?_⟩
    split at hv<;>cases hv
    exact ⟨_,rfl⟩
 ·cases hv
def fnPlain:Op->Bool
 |.makeFunc (.func _) _ _=>true
 |.makeFunc _ _ _=>false
 |_=>true
theorem vval_ren {ρ ρ':Operand->AV} {o:Oper} {v:AV} (hr:RelH R n h H) (hρ:∀ x,Ren R (ρ x) (ρ' x)) (hp:fnPlain o.op=true) (hv:vval P ρ (hm h) o=some v):∃ v',vval P ρ' H o=some v'/\Ren R v v':=by
 have hopt:∀ (x:Option Operand),(∀ u,x.map ρ=some (.val u)->x.map ρ'=some (.val u))/\(x.map ρ=none->x.map ρ'=none):=by
  intro x
  cases x with
  |none=>exact ⟨fun u e=>(by cases e),fun _=>rfl⟩
  |some y=>
   refine ⟨fun u e=>?_,fun e=>by cases e⟩
   simp only[Option.map_some,Option.some.injEq] at e ⊢
   have:=hρ y;rw[e] at this;exact this.val_inv
 have hmap:∀ (l:List Operand),RenL R (l.map ρ) (l.map ρ'):=fun l=>RenL.of_map l fun x _=>hρ x
 unfold vval at hv ⊢
 generalize o.op=op at hv hp ⊢
 cases op<;>dsimp only at hv ⊢
 case move x=>cases hv;exact ⟨_,rfl,hρ _⟩
 case assign x=>cases hv;exact ⟨_,rfl,hρ _⟩
 case pick c a b=>
  have hc:=hρ c
  split at hv
  ·rename_i t e
   rw[e] at hc
   simp only[hc.val_inv]
   cases hv
   refine ⟨_,rfl,?_⟩
   split<;>exact hρ _
  ·cases hv
 case load t x=>
  split at hv
  ·rename_i ti cs e1 e2
   obtain ⟨cs',f1,f2⟩:=cellsAt_ren hr (hρ x) e2
   simp only[e1,f1]
   exact ldv_ren f2 hv
  ·cases hv
 case nilCheck x=>
  have hx:=hρ x
  split at hv<;>first|(cases hv;done)|skip
  all_goals (rename_i e;rw[e] at hx;cases hv;generalize hq:ρ' x=q at hx;cases hx)
  ·exact ⟨_,rfl,.ref ‹_›⟩
  ·exact ⟨_,rfl,.addr _ ‹_›⟩
  ·exact ⟨_,rfl,.elem _ _ _ ‹_›⟩
 case binOp op t x y t2=>
  obtain ⟨e,u,rfl⟩:=vbin_ren (hρ x) (hρ y) hv
  exact ⟨_,e,.val _⟩
 case unOp op t x=>
  have hx:=hρ x
  split at hv<;>first|(cases hv;done)|skip
  all_goals (rename_i e;rw[e] at hx;cases hv;rw[hx.val_inv];exact ⟨_,rfl,.val _⟩)
 case convert src dst x=>
  have hx:=hρ x
  split at hv<;>first|(cases hv;done)|skip
  ·rename_i e1 e2 e;rw[e] at hx;cases hv;simp only[e1,e2,hx.val_inv];exact ⟨_,rfl,.val _⟩
  ·rename_i e1 e2 e;rw[e] at hx;cases hv;simp only[e1,e2,hx.val_inv];exact ⟨_,rfl,.val _⟩
  ·rename_i e1 e2 e;rw[e] at hx;simp only[e1,e2,hx.val_inv]
   split at hv
   ·rename_i hc;cases hv;rw[if_pos hc];exact ⟨_,rfl,.val _⟩
   ·cases hv
 case fieldAddr t x i=>
  have hx:=hρ x
  split at hv<;>first|(cases hv;done)|skip
  all_goals (rename_i e1 e;rw[e] at hx;simp only[e1];split at hv<;>first|(cases hv;done)|skip)
  all_goals (rename_i hc;cases hv;generalize hq:ρ' x=q at hx;cases hx;simp only[if_neg hc])
  ·exact ⟨_,rfl,.ref (‹RenL _ _ _›.drop _)⟩
  ·exact ⟨_,rfl,.addr _ ‹_›⟩
  ·exact ⟨_,rfl,.elem _ _ _ ‹_›⟩
 case field t x i=>
  have hx:=hρ x
  split at hv<;>first|(cases hv;done)|skip
  ·rename_i e1 e;rw[e] at hx;simp only[e1]
   generalize hq:ρ' x=q at hx
   cases hx with
   |agg hl=>
    split at hv<;>first|(cases hv;done)|skip
    rename_i hc
    cases hv
    simp only[hl.length,if_pos hc]
    exact ⟨_,rfl,.agg ((hl.drop _).take _)⟩
  ·rename_i e1 e;rw[e] at hx;simp only[e1]
   generalize hq:ρ' x=q at hx
   cases hx with
   |agg hl=>exact hl.get hv
 case indexAddr t x i=>
  have hx:=hρ x
  have hi:=hρ i
  split at hv<;>first|(cases hv;done)|skip
  ·rename_i sz xs kk j e1 e2 e3;rw[e2] at hx;rw[e3] at hi;simp only[e1,hi.val_inv]
   generalize hq:ρ' x=q at hx
   cases hx with
   |list hl=>
    simp only at hv ⊢
    split at hv<;>first|(cases hv;done)|skip
    rename_i hc
    rw[if_pos hc]
    cases hj:xs[j.toNat]? with
    |none=>rw[hj] at hv;cases hv
    |some a=>
     obtain ⟨a',f1,f2⟩:=hl.get hj
     rw[hj] at hv
     simp only[Option.bind_some] at hv
     rw[f1]
     simp only[Option.bind_some]
     split at hv<;>first|(cases hv;done)|skip
     rename_i hz
     cases hv
     rw[if_pos (by rw[f2.clen];exact hz)]
     exact ⟨_,rfl,.ref f2.cells⟩
  ·rename_i e1 e2 e3;rw[e2] at hx;rw[e3] at hi;simp only[e1,hi.val_inv]
   generalize hq:ρ' x=q at hx
   cases hx with
   |mlist m c0 hb=>
    simp only at hv ⊢
    split at hv<;>first|(cases hv;done)|skip
    rename_i hc
    cases hv
    rw[if_pos hc]
    exact ⟨_,rfl,.elem _ _ _ hb⟩
  ·rename_i e1 e2 e3;rw[e2] at hx;rw[e3] at hi;simp only[e1,hi.val_inv]
   generalize hq:ρ' x=q at hx
   cases hx with
   |ref hl=>
    simp only at hv ⊢
    split at hv<;>first|(cases hv;done)|skip
    rename_i hc
    cases hv
    rw[if_pos hc]
    exact ⟨_,rfl,.ref (hl.drop _)⟩
 case index t x i=>
  have hx:=hρ x
  have hi:=hρ i
  split at hv<;>first|(cases hv;done)|skip
  rename_i e1 e2 e3;rw[e2] at hx;rw[e3] at hi;simp only[e1,hi.val_inv,hx.val_inv]
  refine ⟨v,hv,?_⟩
  split at hv<;>first|(cases hv;done)|skip
  rename_i s _ j _
  cases hj:s[j.toNat]? with
  |none=>rw[hj] at hv;cases hv
  |some a=>rw[hj] at hv;cases hv;exact .val _
 case slice t x lo hi mx=>
  have hx:=hρ x
  split at hv<;>first|(cases hv;done)|skip
  ·rename_i e1 e2;rw[e2] at hx;simp only[e1,hx.val_inv]
   exact vslice_ren (hopt lo).1 (hopt hi).1 (hopt mx).1 (hopt lo).2 (hopt hi).2 (hopt mx).2 (.val _) hv
  ·rename_i e1 e2;rw[e2] at hx;simp only[e1]
   split at hv<;>first|(cases hv;done)|skip
   rename_i hz
   generalize hq:ρ' x=q at hx
   cases hx with
   |list hl=>
    simp only
    rw[if_pos (hl.clen hz)]
    exact vslice_ren (hopt lo).1 (hopt hi).1 (hopt mx).1 (hopt lo).2 (hopt hi).2 (hopt mx).2 (.list hl) hv
  ·rename_i e1 e2;rw[e2] at hx;simp only[e1]
   generalize hq:ρ' x=q at hx
   cases hx with
   |nil0=>exact vslice_ren (hopt lo).1 (hopt hi).1 (hopt mx).1 (hopt lo).2 (hopt hi).2 (hopt mx).2 .nil0 hv
 case lookup t x k ok=>
  split at hv<;>first|(cases hv;done)|skip
  rename_i kt et es key e1 e2 e3
  obtain ⟨es',f1,f2,f3⟩:=entriesOf_ren hr (hρ x) e2
  have fk:=keyOf_ren (hρ k) e3
  simp only[e1,f1,fk]
  split at hv<;>first|(cases hv;done)|skip
  rename_i kd ei g1 g2
  split at hv<;>first|(cases hv;done)|skip
  rename_i hc
  simp only[Bool.and_eq_true] at hc
  rw[if_pos (by simp only[Bool.and_eq_true];exact ⟨hc.1,keysOk_ren f2 hc.2⟩)]
  obtain ⟨a1,a2⟩:=assoc_ren (key:=key) f2 f3
  split at hv
  ·rename_i w ea
   obtain ⟨w',b1,b2⟩:=a1 _ ea
   cases hv
   simp only[b1]
   refine ⟨_,rfl,?_⟩
   split
   ·exact .tup (.cons b2 (.cons (.val _) .nil))
   ·exact b2
  ·rename_i ea
   cases hv
   simp only[a2 ea]
   refine ⟨_,rfl,?_⟩
   split
   ·exact .tup (.cons (ren_zero g2) (.cons (.val _) .nil))
   ·exact ren_zero g2
 case extract x i=>
  have hx:=hρ x
  split at hv<;>first|(cases hv;done)|skip
  rename_i e;rw[e] at hx
  generalize hq:ρ' x=q at hx
  cases hx with
  |tup hl=>exact hl.get hv
 case build t parts=>
  split at hv<;>first|(cases hv;done)|skip
  rename_i ti e1
  split at hv<;>first|(cases hv;done)|skip
  rename_i fs z e2 e3
  have hz:=ren_zero (R:=R) e1
  rw[e3] at hz
  cases hz with
  |agg hz=>
   refine vbuild_ren (z:=.unit) (z':=.unit) ?_ ?_ hz hv
   ·simp
   ·rw[List.map_map,List.map_map];exact RenL.of_map (R:=R) parts.toList (f:=fun p=>ρ p.2) (g:=fun p=>ρ' p.2) fun p _=>hρ _
 case makeFunc fn first cap=>
  cases hv
  cases fn<;>simp only[fnPlain] at hp<;>first|(cases hp;done)|skip
  exact ⟨_,rfl,.func rfl (hmap _) (hmap _)⟩
 case makeInterface t x=>
  split at hv<;>first|(cases hv;done)|skip
  cases hv
  exact ⟨_,rfl,.iface (hρ x)⟩
 case call c=>
  have hl:=hmap c.args.toList
  split at hv<;>first|(cases hv;done)|skip
  ·split at hv<;>first|(cases hv;done)|skip
   rename_i x t ea et
   rw[ea] at hl
   have hx:=hρ x
   simp only at hv ⊢
   split at hv<;>first|(cases hv;done)|skip
   all_goals (rename_i e1 e2;rw[e2] at hx;generalize hq:ρ' x=q at hx;simp only[e1])
   ·cases hx;cases hv;exact ⟨_,rfl,.val _⟩
   ·cases hx with|list hl=>cases hv;simp only[hl.length];exact ⟨_,rfl,.val _⟩
   ·cases hx;cases hv;exact ⟨_,rfl,.val _⟩
   ·cases hx;cases hv;exact ⟨_,rfl,.val _⟩
   ·cases hx;cases hv;exact ⟨_,rfl,.val _⟩
   ·cases hx with
    |imap h1 h2=>
     cases hv
     have:=h1.length
     simp only[List.length_map] at this
     simp only[this];exact ⟨_,rfl,.val _⟩
   ·cases hx with
    |map hb=>
     simp only at hv ⊢
     split at hv<;>first|(cases hv;done)|skip
     rename_i em
     cases hv
     obtain ⟨es',f1,f2,f3⟩:=hr.map em hb
     have:=f2.length
     simp only[List.length_map] at this
     simp only[f1,this];exact ⟨_,rfl,.val _⟩
  ·obtain ⟨e,u,rfl⟩:=vmm_ren (f:=fun x y=>if y<x then y else x) hl hv
   exact ⟨_,e,.val _⟩
  ·obtain ⟨e,u,rfl⟩:=vmm_ren (f:=fun x y=>if x<y then y else x) hl hv
   exact ⟨_,e,.val _⟩
 all_goals cases hv
end
end Go.V
