/- Values up to the numbers of their objects. No condition. -/
import Derived.Test.YtjeiboididfgmaaGreatDoorRB
set_option linter.unusedVariables false
set_option linter.unusedSimpArgs false
namespace Go.V
open Go
abbrev NR:=Nat->Nat->Nat->Prop
def FnR (R:NR):Fn->Fn->Prop
 |.yield l,.yield l'=>∃ c,R l l' c
 |.yield _,_=>False
 |f,f'=>f=f'
mutual
inductive Ren (R:NR):AV->AV->Prop
 |val (v:Value):Ren R (.val v) (.val v)
 |agg {cs cs'} (h:RenL R cs cs'):Ren R (.agg cs) (.agg cs')
 |tup {cs cs'} (h:RenL R cs cs'):Ren R (.tup cs) (.tup cs')
 |list {cs cs'} (h:RenL R cs cs'):Ren R (.list cs) (.list cs')
 |ref {cs cs'} (h:RenL R cs cs'):Ren R (.ref cs) (.ref cs')
 |addr {b b' c:Nat} (off:Nat) (h:R b b' c):Ren R (.addr b off) (.addr b' off)
 |elem {b b' c:Nat} (i sz off:Nat) (h:R b b' c):Ren R (.elem b i sz off) (.elem b' i sz off)
 |nil0:Ren R .nil0 .nil0
 |mlist {b b' c:Nat} (n c0:Nat) (h:R b b' c):Ren R (.mlist b n c0) (.mlist b' n c)
 |map {b b' c:Nat} (h:R b b' c):Ren R (.map b) (.map b')
 |imap {es es':List (AV×AV)} (hk:RenL R (es.map (·.1)) (es'.map (·.1))) (hv:RenL R (es.map (·.2)) (es'.map (·.2))):Ren R (.imap es) (.imap es')
 |func {f f' fs fs' cs cs'} (hf:FnR R f f') (h1:RenL R fs fs') (h2:RenL R cs cs'):Ren R (.func f fs cs) (.func f' fs' cs')
 |iface {t a a'} (h:Ren R a a'):Ren R (.iface t a) (.iface t a')
inductive RenL (R:NR):List AV->List AV->Prop
 |nil:RenL R [] []
 |cons {a a' as as'} (h:Ren R a a') (hs:RenL R as as'):RenL R (a::as) (a'::as')
end
theorem FnR.mono {R R':NR} (hR:∀ k b c,R k b c->R' k b c) {f f':Fn} (h:FnR R f f'):FnR R' f f':=by
 cases f<;>cases f'<;>simp only[FnR] at h ⊢ <;> first|exact h|exact (let ⟨c,h⟩:=h;⟨c,hR _ _ _ h⟩)
theorem Ren.mono {R R':NR} (hR:∀ k b c,R k b c->R' k b c) {a a':AV} (h:Ren R a a'):Ren R' a a':=by
 refine Ren.rec (motive_1:=fun a a' _=>Ren R' a a') (motive_2:=fun as as' _=>RenL R' as as') ?_ ?_ ?_ ?_ ?_ ?_ ?_ ?_ ?_ ?_ ?_ ?_ ?_ ?_ ?_ h
 ·exact fun v=>.val v
 ·exact fun _ h=>.agg h
 ·exact fun _ h=>.tup h
 ·exact fun _ h=>.list h
 ·exact fun _ h=>.ref h
 ·exact fun off h=>.addr off (hR _ _ _ h)
 ·exact fun i sz off h=>.elem i sz off (hR _ _ _ h)
 ·exact .nil0
 ·exact fun n c0 h=>.mlist n c0 (hR _ _ _ h)
 ·exact fun h=>.map (hR _ _ _ h)
 ·exact fun _ _ h1 h2=>.imap h1 h2
 ·exact fun hf _ _ h1 h2=>.func (hf.mono hR) h1 h2
 ·exact fun _ h=>.iface h
 ·exact .nil
 ·exact fun _ _ h1 h2=>.cons h1 h2
theorem RenL.mono {R R':NR} (hR:∀ k b c,R k b c->R' k b c):∀ {as as':List AV},RenL R as as'->RenL R' as as'
 |_,_,.nil=>.nil
 |_,_,.cons h hs=>.cons (h.mono hR) (hs.mono hR)
section
variable {R:NR}
theorem RenL.length:∀ {as as':List AV},RenL R as as'->as'.length=as.length
 |_,_,.nil=>rfl
 |_,_,.cons _ hs=>by simp[hs.length]
theorem RenL.get:∀ {as as':List AV} {i:Nat} {a:AV},RenL R as as'->as[i]?=some a->∃ a',as'[i]?=some a'/\Ren R a a'
 |_,_,_,_,.nil,h=>by simp at h
 |_,_,0,_,.cons (a':=a') h hs,e=>by simp at e;subst e;exact ⟨a',by simp,h⟩
 |_,_,i+1,_,.cons h hs,e=>by simp at e;simpa using hs.get e
theorem RenL.take:∀ {as as':List AV} (k:Nat),RenL R as as'->RenL R (as.take k) (as'.take k)
 |_,_,0,_=>by simp;exact .nil
 |_,_,k+1,.nil=>by simp;exact .nil
 |_,_,k+1,.cons h hs=>by simp;exact .cons h (hs.take k)
theorem RenL.drop:∀ {as as':List AV} (k:Nat),RenL R as as'->RenL R (as.drop k) (as'.drop k)
 |_,_,0,h=>by simpa using h
 |_,_,k+1,.nil=>by simp;exact .nil
 |_,_,k+1,.cons h hs=>by simpa using hs.drop k
theorem RenL.append:∀ {as as' bs bs':List AV},RenL R as as'->RenL R bs bs'->RenL R (as++bs) (as'++bs')
 |_,_,_,_,.nil,h=>h
 |_,_,_,_,.cons h hs,h2=>.cons h (hs.append h2)
theorem RenL.set:∀ {as as':List AV} {a a':AV} (i:Nat),RenL R as as'->Ren R a a'->RenL R (as.set i a) (as'.set i a')
 |_,_,_,_,_,.nil,_=>by simp;exact .nil
 |_,_,_,_,0,.cons h hs,h2=>by simp;exact .cons h2 hs
 |_,_,_,_,i+1,.cons h hs,h2=>by simp;exact .cons h (hs.set i h2)
theorem RenL.of_map {α:Type} {f g:α->AV}:∀ (l:List α),(∀ x∈l,Ren R (f x) (g x))->RenL R (l.map f) (l.map g)
 |[],_=>.nil
 |x::l,h=>.cons (h x (by simp)) (RenL.of_map l fun y hy=>h y (by simp[hy]))
theorem RenL.all {p q:AV->Prop} (hpq:∀ a a',Ren R a a'->p a->q a'):∀ {as as':List AV},RenL R as as'->(∀ a∈as,p a)->∀ a∈as',q a
 |_,_,.nil,_,_,h=>by cases h
 |_,_,.cons h hs,hp,a,ha=>by
  rcases List.mem_cons.1 ha with e|e
  ·subst e;exact hpq _ _ h (hp _ (by simp))
  ·exact hs.all hpq (fun a h=>hp a (by simp[h])) a e
theorem Ren.cells {a a':AV} (h:Ren R a a'):RenL R a.cells a'.cells:=by
 cases h with
 |agg h=>exact h
 |val v=>exact .cons (.val v) .nil
 |tup h=>exact .cons (.tup h) .nil
 |list h=>exact .cons (.list h) .nil
 |ref h=>exact .cons (.ref h) .nil
 |addr off h=>exact .cons (.addr off h) .nil
 |elem i sz off h=>exact .cons (.elem i sz off h) .nil
 |nil0=>exact .cons .nil0 .nil
 |mlist n c0 h=>exact .cons (.mlist n c0 h) .nil
 |map h=>exact .cons (.map h) .nil
 |imap h1 h2=>exact .cons (.imap h1 h2) .nil
 |func h1 h2 h3=>exact .cons (.func h1 h2 h3) .nil
 |iface h=>exact .cons (.iface h) .nil
theorem Ren.clen {a a':AV} (h:Ren R a a'):a'.cells.length=a.cells.length:=h.cells.length
theorem Ren.one {a a':AV} (h:Ren R a a'):a'.one=a.one:=by cases h<;>rfl
theorem Ren.val_inv {v:Value} {a:AV} (h:Ren R (.val v) a):a=.val v:=by cases h;rfl
theorem RenL.clen {as as':List AV} {sz:Nat} (h:RenL R as as') (ha:∀ a∈as,a.cells.length=sz):∀ a∈as',a.cells.length=sz:=
 h.all (p:=fun a=>a.cells.length=sz) (fun _ _ hr e=>by rw[hr.clen,e]) ha
theorem ren_cst1 (v:Value):Ren R (cst1 v) (cst1 v):=by unfold cst1;split<;>first|exact .nil0|exact .val _
theorem ren_cst (v:Value):Ren R (cst v) (cst v):=by
 unfold cst;split
 ·exact .nil0
 ·exact .agg (RenL.of_map _ fun x _=>ren_cst1 x)
 ·exact .val _
theorem ren_zero {P:Program} {t:TypeId} {ti:TI} (h:tiOf P t=some ti):Ren R ti.zero ti.zero:=by
 obtain ⟨i,d,z,hi⟩:=P12 h
 rw[hi.eq];exact ren_cst z
end
inductive Tr where
 |leaf
 |node (v:AV) (l r:Tr)
def Tr.get:Tr->Nat->AV
 |.leaf,_=>.unit
 |.node v l r,k=>match k with
  |0=>v
  |k+1=>if k % 2=0 then l.get (k / 2) else r.get (k / 2)
def Tr.set:Nat->Tr->Nat->AV->Tr
 |0,t,_,_=>t
 |f+1,.leaf,k,x=>match k with
  |0=>.node x .leaf .leaf
  |k+1=>if k % 2=0 then .node .unit (Tr.set f .leaf (k / 2) x) .leaf else .node .unit .leaf (Tr.set f .leaf (k / 2) x)
 |f+1,.node v l r,k,x=>match k with
  |0=>.node x l r
  |k+1=>if k % 2=0 then .node v (Tr.set f l (k / 2) x) r else .node v l (Tr.set f r (k / 2) x)
theorem Tr.get_leaf (k:Nat):Tr.leaf.get k=.unit:=rfl
theorem Tr.get_zero (v:AV) (l r:Tr):(Tr.node v l r).get 0=v:=rfl
theorem Tr.get_succ (v:AV) (l r:Tr) (k:Nat):(Tr.node v l r).get (k+1)=if k % 2=0 then l.get (k / 2) else r.get (k / 2):=rfl
theorem Tr.get_set:∀ (f:Nat) (t:Tr) (k:Nat) (x:AV),k+1<2 ^ f->∀ j,(Tr.set f t k x).get j=if j=k then x else t.get j
 |0,t,k,x,h,j=>by simp at h
 |f+1,t,k,x,h,j=>by
  have hp:2 ^ (f+1)=2*2 ^ f:=by rw[Nat.pow_succ];omega
  have key:∀ (v:AV) (l r:Tr),(Tr.set (f+1) (.node v l r) k x).get j=if j=k then x else (Tr.node v l r).get j:=by
   intro v l r
   cases k with
   |zero=>
    show (Tr.node x l r).get j=_
    cases j with
    |zero=>rfl
    |succ j=>rw[Tr.get_succ,Tr.get_succ,if_neg (show ¬ j+1=0 by omega)]
   |succ k=>
    have h1:=Tr.get_set f l (k / 2) x (by omega)
    have h2:=Tr.get_set f r (k / 2) x (by omega)
    show (if k % 2=0 then Tr.node v (Tr.set f l (k / 2) x) r else Tr.node v l (Tr.set f r (k / 2) x)).get j=_
    cases j with
    |zero=>split<;>simp[Tr.get_zero]
    |succ j=>
     by_cases hk:k % 2=0
     ·rw[if_pos hk,Tr.get_succ,Tr.get_succ,h1]
      by_cases hj:j % 2=0
      ·rw[if_pos hj,if_pos hj]
       by_cases e:j / 2=k / 2
       ·rw[if_pos e,if_pos (by omega)]
       ·rw[if_neg e,if_neg (by omega)]
      ·rw[if_neg hj,if_neg hj,if_neg (by omega)]
     ·rw[if_neg hk,Tr.get_succ,Tr.get_succ,h2]
      by_cases hj:j % 2=0
      ·rw[if_pos hj,if_pos hj,if_neg (by omega)]
      ·rw[if_neg hj,if_neg hj]
       by_cases e:j / 2=k / 2
       ·rw[if_pos e,if_pos (by omega)]
       ·rw[if_neg e,if_neg (by omega)]
  cases t with
  |node v l r=>exact key v l r
  |leaf=>
   have hl:(Tr.set (f+1) .leaf k x)=Tr.set (f+1) (.node .unit .leaf .leaf) k x:=by
    cases k with
    |zero=>rfl
    |succ k=>rfl
   rw[hl,key]
   split
   ·rfl
   ·cases j with
    |zero=>rfl
    |succ j=>rw[Tr.get_succ,Tr.get_leaf,Tr.get_leaf];simp
inductive EObj where
 |ob (o:AObj)
 |loop (ps:Array Nat) (asg body:Code) (pend:Option Code) (m:Nat) (tr:Tr)
 |pm (es:List (AV×AV))
abbrev Hp:=List (Nat×EObj)
def hget:Hp->Nat->Option EObj
 |[],_=>none
 |(j,o)::h,k=>if Nat.beq j k then some o else hget h k
def hset:Hp->Nat->EObj->Hp
 |[],_,_=>[]
 |(j,o)::h,k,x=>if Nat.beq j k then (j,x)::h else (j,o)::hset h k x
def hdel:Hp->Nat->Hp
 |[],_=>[]
 |(j,o)::h,k=>if Nat.beq j k then hdel h k else (j,o)::hdel h k
def hm (h:Hp):HM:=fun k=>match hget h k with|some (.ob o)=>some o|_=>none
theorem hget_set:∀ (h:Hp) (k:Nat) (x:EObj) (j:Nat),hget (hset h k x) j=if j=k then (hget h k).map (fun _=>x) else hget h j
 |[],k,x,j=>by simp[hset,hget]
 |(i,o)::h,k,x,j=>by
  simp only[hset,hget]
  by_cases h1:i=k
  ·subst h1
   have n0:Nat.beq i i=true:=Nat.beq_refl i
   rw[if_pos n0,if_pos n0]
   by_cases h2:i=j
   ·subst h2;simp only[hget,if_pos n0];simp
   ·have n2:¬ Nat.beq i j=true:=fun e=>h2 (Nat.eq_of_beq_eq_true e)
    simp only[hget,if_neg n2,if_neg (fun e:j=i=>h2 e.symm)]
  ·have n1:¬ Nat.beq i k=true:=fun e=>h1 (Nat.eq_of_beq_eq_true e)
   rw[if_neg n1,if_neg n1,hget,hget_set h k x j]
   by_cases h2:i=j
   ·subst h2;simp[h1]
   ·have n2:¬ Nat.beq i j=true:=fun e=>h2 (Nat.eq_of_beq_eq_true e)
    rw[if_neg n2,if_neg n2]
theorem hget_del:∀ (h:Hp) (k:Nat) (j:Nat),hget (hdel h k) j=if j=k then none else hget h j
 |[],k,j=>by simp[hdel,hget]
 |(i,o)::h,k,j=>by
  simp only[hdel]
  by_cases h1:i=k
  ·subst h1
   rw[if_pos (Nat.beq_refl i),hget_del h i j]
   by_cases h2:i=j
   ·subst h2;simp
   ·have n2:¬ Nat.beq i j=true:=fun e=>h2 (Nat.eq_of_beq_eq_true e)
    simp only[hget,if_neg n2]
  ·have n1:¬ Nat.beq i k=true:=fun e=>h1 (Nat.eq_of_beq_eq_true e)
   rw[if_neg n1,hget,hget_del h k j]
   by_cases h2:i=j
   ·subst h2;simp[h1,hget]
   ·have n2:¬ Nat.beq i j=true:=fun e=>h2 (Nat.eq_of_beq_eq_true e)
    simp only[hget,if_neg n2]
def nodupK:List (AV×AV)->Bool
 |[]=>true
 |(.val k,_)::es=>(sameKeyV k k&&es.all (fun e=>match e.1 with | .val k'=>!sameKeyV k k'&&!sameKeyV k' k|_=>false))&&nodupK es
 |_=>false
def RenO (R:NR) (c:Nat):EObj->AObj->Prop
 |.ob (.cells t cs),o'=>∃ cs',o'=.cells t cs'/\RenL R cs cs'
 |.ob (.row t sz _ xs),o'=>∃ xs',o'=.row t sz c xs'/\RenL R xs xs'
 |.ob (.map es),o'=>∃ es',o'=.map es'/\RenL R (es.map (·.1)) (es'.map (·.1))/\RenL R (es.map (·.2)) (es'.map (·.2))
 |.ob (.siter s p),o'=>o'=.siter s p
 |.ob (.miter ..),_=>False
 |.ob (.loop ..),_=>False
 |.pm es,o'=>∃ es1 es',es1.Perm es/\nodupK es1=true/\o'=.map es'/\RenL R (es1.map (·.1)) (es'.map (·.1))/\RenL R (es1.map (·.2)) (es'.map (·.2))
 |.loop ps asg body pend m tr,o'=>∃ rec tm,o'=.loop rec tm/\rec.params=ps/\rec.assign=asg/\rec.body=body/\rec.pending=pend/\rec.tmps.size=m/\(pend=none->rec.state=.ready)/\rec.state≠.busy /\
   (∀ p∈ps,p<m)/\cok m asg=true/\cok m body=true/\∀ t,Ren R (tr.get t) (tm t)
theorem RenO.mono {R R':NR} (hR:∀ k b c,R k b c->R' k b c) {c:Nat} {o:EObj} {o':AObj} (h:RenO R c o o'):RenO R' c o o':=by
 cases o with
 |ob o=>
  cases o<;>simp only[RenO] at h ⊢ <;> try exact h
  ·obtain ⟨cs,e,h⟩:=h;exact ⟨cs,e,h.mono hR⟩
  ·obtain ⟨cs,e,h⟩:=h;exact ⟨cs,e,h.mono hR⟩
  ·obtain ⟨cs,e,h,h2⟩:=h;exact ⟨cs,e,h.mono hR,h2.mono hR⟩
 |pm es=>
  obtain ⟨es1,es',h1,h2,h3,h4,h5⟩:=h
  exact ⟨es1,es',h1,h2,h3,h4.mono hR,h5.mono hR⟩
 |loop ps asg body pend m tr=>
  obtain ⟨rec,tm,h1,h2,h3,h4,h5,h6,h7,h8,h9,h10,h11,h12⟩:=h
  exact ⟨rec,tm,h1,h2,h3,h4,h5,h6,h7,h8,h9,h10,h11,fun t=>(h12 t).mono hR⟩
structure RelH (R:NR) (n:Nat) (h:Hp) (H:HM):Prop where
 obj:∀ k o,hget h k=some o->∃ b c o',R k b c/\H b=some o'/\RenO R c o o'
 fn:∀ k b c b' c',R k b c->R k b' c'->b=b'/\c=c'
 inj:∀ k k' o o' b c c',hget h k=some o->hget h k'=some o'->R k b c->R k' b c'->k=k'
section
variable {R:NR} {n:Nat} {h:Hp} {H:HM}
theorem RelH.at (hr:RelH R n h H) {k b c:Nat} {o:EObj} (hk:hget h k=some o) (hb:R k b c):∃ o',H b=some o'/\RenO R c o o':=by
 obtain ⟨b',c',o',h1,h2,h3⟩:=hr.obj k o hk
 obtain ⟨rfl,rfl⟩:=hr.fn _ _ _ _ _ hb h1
 exact ⟨o',h2,h3⟩
theorem U12 {k:Nat} {o:AObj} (e:hm h k=some o):hget h k=some (.ob o):=by
 unfold hm at e;split at e
 ·rename_i o' e';cases e;exact e'
 ·cases e
theorem RelH.cells (hr:RelH R n h H) {k b c t:Nat} {cs:List AV} (hk:hm h k=some (.cells t cs)) (hb:R k b c):∃ cs',H b=some (.cells t cs')/\RenL R cs cs':=by
 obtain ⟨o',h1,cs',rfl,h2⟩:=hr.at (U12 hk) hb;exact ⟨cs',h1,h2⟩
theorem RelH.row (hr:RelH R n h H) {k b c t sz cp:Nat} {xs:List AV} (hk:hm h k=some (.row t sz cp xs)) (hb:R k b c):∃ xs',H b=some (.row t sz c xs')/\RenL R xs xs':=by
 obtain ⟨o',h1,cs',rfl,h2⟩:=hr.at (U12 hk) hb;exact ⟨cs',h1,h2⟩
theorem RelH.map (hr:RelH R n h H) {k b c:Nat} {es:List (AV×AV)} (hk:hm h k=some (.map es)) (hb:R k b c) :
  ∃ es',H b=some (.map es')/\RenL R (es.map (·.1)) (es'.map (·.1))/\RenL R (es.map (·.2)) (es'.map (·.2)):=by
 obtain ⟨o',h1,cs',rfl,h2,h3⟩:=hr.at (U12 hk) hb;exact ⟨cs',h1,h2,h3⟩
theorem RelH.siter (hr:RelH R n h H) {k b c:Nat} {s:ByteArray} {p:Nat} (hk:hm h k=some (.siter s p)) (hb:R k b c):H b=some (.siter s p):=by
 obtain ⟨o',h1,h2⟩:=hr.at (U12 hk) hb
 simp only[RenO] at h2;subst h2;exact h1
theorem cellsAt_ren (hr:RelH R n h H) {a a':AV} {cs:List AV} (ha:Ren R a a') (hc:cellsAt (hm h) a=some cs):∃ cs',cellsAt H a'=some cs'/\RenL R cs cs':=by
 cases ha<;>simp only[cellsAt] at hc<;>try (cases hc;done)
 case ref h=>cases hc;exact ⟨_,rfl,h⟩
 case addr off hb=>
  split at hc
  ·rename_i e
   cases hc
   obtain ⟨cs',e1,e2⟩:=hr.cells e hb
   exact ⟨cs'.drop off,by simp only[cellsAt,e1],e2.drop off⟩
  ·cases hc
 case elem i sz off hb=>
  split at hc
  ·rename_i e
   obtain ⟨xs',e1,e2⟩:=hr.row e hb
   split at hc
   ·rename_i hsz
    rename_i xs
    cases hx:xs[i]? with
    |none=>simp[hx] at hc
    |some x=>
     simp only[hx,Option.map_some,Option.some.injEq] at hc
     subst hc
     obtain ⟨x',f1,f2⟩:=e2.get hx
     exact ⟨x'.cells.drop off,by simp only[cellsAt,e1,hsz,if_true,f1,Option.map_some],f2.cells.drop off⟩
   ·cases hc
  ·cases hc
theorem ldv_ren {ti:TI} {cs cs':List AV} {v:AV} (hc:RenL R cs cs') (h:ldv ti cs=some v):∃ v',ldv ti cs'=some v'/\Ren R v v':=by
 unfold ldv at h ⊢
 split at h
 ·rename_i ha
  split at h
  ·cases h
   rw[if_pos ha,if_pos (by rw[hc.length];assumption)]
   exact ⟨_,rfl,.agg (hc.take _)⟩
  ·cases h
 ·rename_i ha
  rw[if_neg ha]
  cases hc with
  |nil=>cases h
  |cons h1 h2=>cases h;exact ⟨_,rfl,h1⟩
theorem entriesOf_ren (hr:RelH R n h H) {a a':AV} {es:List (AV×AV)} (ha:Ren R a a') (hc:entriesOf (hm h) a=some es) :
  ∃ es',entriesOf H a'=some es'/\RenL R (es.map (·.1)) (es'.map (·.1))/\RenL R (es.map (·.2)) (es'.map (·.2)):=by
 cases ha<;>simp only[entriesOf] at hc
 case val v=>
  cases v with
  |map r=>cases r with
   |none=>cases hc;exact ⟨_,rfl,.nil,.nil⟩
   |some r=>cases hc
  |_=>cases hc
 case imap h1 h2=>cases hc;exact ⟨_,rfl,h1,h2⟩
 case map hb=>
  split at hc
  ·rename_i e
   cases hc
   obtain ⟨es',e1,e2,e3⟩:=hr.map e hb
   exact ⟨es',by simp only[entriesOf,e1],e2,e3⟩
  ·cases hc
 all_goals cases hc
theorem keyOf_ren {a a':AV} {k:Value} (ha:Ren R a a') (hk:keyOf a=some k):keyOf a'=some k:=by
 cases ha<;>simp only[keyOf] at hk ⊢ <;> first|exact hk|cases hk
theorem keysOk_ren {d:TD}:∀ {es es':List (AV×AV)},RenL R (es.map (·.1)) (es'.map (·.1))->keysOk d es=true->keysOk d es'=true
 |[],[],_,_=>rfl
 |[],_::_,h,_=>by cases h
 |_::_,[],h,_=>by cases h
 |(k,v)::es,(k',v')::es',h,hk=>by
  simp only[List.map_cons] at h
  cases h with
  |cons h1 h2=>
   simp only[keysOk,List.all_cons,Bool.and_eq_true] at hk ⊢
   refine ⟨?_,keysOk_ren h2 hk.2⟩
   have:=hk.1
   cases h1<;>first|exact this|cases this
theorem assoc_ren {key:Value}:∀ {es es':List (AV×AV)},RenL R (es.map (·.1)) (es'.map (·.1))->RenL R (es.map (·.2)) (es'.map (·.2)) ->
  (∀ v,assoc key es=some v->∃ v',assoc key es'=some v'/\Ren R v v')/\(assoc key es=none->assoc key es'=none)
 |[],[],_,_=>⟨by simp[assoc],fun _=>rfl⟩
 |[],_::_,h,_=>by cases h
 |_::_,[],h,_=>by cases h
 |(k,v)::es,(k',v')::es',h,hv=>by
  simp only[List.map_cons] at h hv
  cases h with
  |cons h1 h2=>cases hv with
   |cons h3 h4=>
    have ih:=assoc_ren (key:=key) h2 h4
    cases h1<;>simp only[assoc]
    case val u=>
     split
     ·exact ⟨fun w hw=>by cases hw;exact ⟨_,rfl,h3⟩,fun h=>by cases h⟩
     ·exact ih
    all_goals exact ih
theorem assocSet_ren {key:Value} {x x':AV} (hx:Ren R x x'):∀ {es es':List (AV×AV)},RenL R (es.map (·.1)) (es'.map (·.1))->RenL R (es.map (·.2)) (es'.map (·.2)) ->
  RenL R ((assocSet key x es).map (·.1)) ((assocSet key x' es').map (·.1))/\RenL R ((assocSet key x es).map (·.2)) ((assocSet key x' es').map (·.2))
 |[],[],_,_=>⟨.cons (.val _) .nil,.cons hx .nil⟩
 |[],_::_,h,_=>by cases h
 |_::_,[],h,_=>by cases h
 |(k,v)::es,(k',v')::es',h,hv=>by
  simp only[List.map_cons] at h hv
  cases h with
  |cons h1 h2=>cases hv with
   |cons h3 h4=>
    have ih:=assocSet_ren (key:=key) hx h2 h4
    cases h1<;>simp only[assocSet]
    case val u=>
     split
     ·exact ⟨.cons (.val _) h2,.cons hx h4⟩
     ·exact ⟨.cons (.val _) ih.1,.cons h3 ih.2⟩
    all_goals first
     |exact ⟨.cons (by first|exact .agg ‹_› | exact .tup ‹_› | exact .list ‹_› | exact .ref ‹_› | exact .addr _ ‹_› | exact .elem _ _ _ ‹_› | exact .nil0|exact .mlist _ _ ‹_› | exact .map ‹_› | exact .imap ‹_› ‹_› | exact .func ‹_› ‹_› ‹_› | exact .iface ‹_›) ih.1,.cons h3 ih.2⟩
theorem vnil_ren {d:TD} {x x':AV} {u:Value} (hx:Ren R x x'):vnil d x' u=vnil d x u:=by
 cases hx<;>cases d<;>first|rfl|(cases u<;>first|rfl|(rename_i a;cases a<;>rfl))
theorem vbin_ren {P:Program} {op:BinOp} {t:TypeId} {x x' y y' v:AV} (hx:Ren R x x') (hy:Ren R y y') (h:vbin P op t x y=some v):vbin P op t x' y'=some v/\∃ u,v=.val u:=by
 have hres:∀ {o:Option Bool} {f:Bool->AV} (hf:∀ b,∃ u,f b=.val u),o.map f=some v->∃ u,v=.val u:=by
  intro o f hf h
  cases o with
  |none=>cases h
  |some b=>cases h;exact hf b
 cases hy with
 |val u=>
  have hv:=fun d=>vnil_ren (d:=d) (u:=u) hx
  cases hx with
  |val w=>
   refine ⟨h,?_⟩
   unfold vbin at h
   repeat' split at h
   all_goals first
    |(cases h;done)
    |(cases h;exact ⟨_,rfl⟩)
    |exact hres (fun b=>⟨_,rfl⟩) h
  |_=>
   simp only[vbin] at h ⊢
   split at h
   ·refine ⟨by first|(rw[hv];exact h)|(simp only[hv];exact h),hres (fun b=>⟨_,rfl⟩) h⟩
   ·refine ⟨by first|(rw[hv];exact h)|(simp only[hv];exact h),hres (fun b=>⟨_,rfl⟩) h⟩
   ·cases h
 |_=>cases hx<;>simp only[vbin] at h<;>first|(cases h;done)|(split at h<;>cases h)
end
end Go.V
