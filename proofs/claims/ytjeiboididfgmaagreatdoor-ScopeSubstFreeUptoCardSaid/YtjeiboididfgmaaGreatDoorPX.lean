/- The program's scope: pairs of names, nodes that are alike. No condition. The program's scope: nodes that are alike. No condition. The program's scope: equal up to renaming. No condition. Equality up to renaming: plain laws. No condition. Alpha; the law ScopeAlpha over abstract states. No condition. -/
import Derived.Test.YtjeiboididfgmaaGreatDoorPH
import Derived.Test.YtjeiboididfgmaaGreatDoorPYh
set_option linter.unusedVariables false
set_option linter.unusedSimpArgs false
set_option linter.defProp false
set_option maxRecDepth 100000
namespace Go.V
open Go Go.Proofs.Tryz
abbrev Nm:=List ByteArray×List ByteArray
def selN (h:Bool) (p:Nm):List ByteArray:=if h then p.2 else p.1
section
variable {G:GT} {H:HM}
end
def armF (a b:Ar):Bool:=decide (a.op=b.op)&&decide ((a.names.length:Int)=b.names.length)
def eqArms:List Ar->List Ar->Bool
 |[],[]=>true
 |a::l,b::m=>armF a b&&eqArms l m
 |_,_=>false
section
variable {G:GT} {H:HM}
end
theorem vresults_bit {P:Program} {fn:Func} {tm:Nat->AV} {H:HM} {a t b:Nat} {et:Nat} {v:AV} {ti:TI} (h:fn.results = #[.cell a t]) (ht:tiOf P t=some ti) (hag:ti.agg=false) (ha:tm a=.addr b 0) (hb:H b=some (.cells et [v])) :
  vresults P fn H tm=some v:=by
 simp[vresults,vresL,vres,h,ht,ha,cellsAt,hb,ldv,hag]
theorem eqArms_at:∀ {l m:List Ar} {j:Nat} (h:eqArms l m=true) (h1:j<l.length) (h2:j<m.length),armF l[j] m[j]=true
 |[],_,_,_,h1,_=>absurd h1 (by simp)
 |_::_,[],_,h,_,_=>by cases h
 |a::l,b::m,j,h,h1,h2=>by
  have h':(armF a b&&eqArms l m)=true:=h
  simp only[Bool.and_eq_true] at h'
  cases j with
  |zero=>exact h'.1
  |succ j=>exact eqArms_at h'.2 (by simpa using h1) (by simpa using h2)
structure Like (a b:Ex):Prop where
 k:a.k=b.k
 n:a.n=b.n
 t:a.t=b.t
 names:a.names.length=b.names.length
 l:a.l.length=b.l.length
 arms:a.arms.length=b.arms.length
 s:(occ a).2.2=false->a.s=b.s
 labels:a.k=17->a.names.drop 1=b.names.drop 1
 arm:eqArms a.arms b.arms=true
theorem Like.parts {a b:Ex} (h:Like a b):a.parts.length=b.parts.length:=by
 rw[D11,D11,h.l,h.arms]
section
variable {G:GT}
end
def fr (e:Ex) (i:Nat):Nm:=(vOf e i,hOf e i)
def env (h:Bool):List Nm->List ByteArray
 |[]=>[]
 |c::L=>(selN h c).reverse++env h L
theorem Like.refl (a:Ex) (h:eqArms a.arms a.arms=true):Like a a:=⟨rfl,rfl,rfl,rfl,rfl,rfl,fun _=>rfl,fun _=>rfl,h⟩
theorem eqArms_refl:∀ l:List Ar,eqArms l l=true
 |[]=>rfl
 |a::l=>by
  have:eqArms (a::l) (a::l)=(armF a a&&eqArms l l):=rfl
  rw[this,eqArms_refl l];simp[armF]
theorem eqArms_trans:∀ {l m n:List Ar},eqArms l m=true->eqArms m n=true->eqArms l n=true
 |[],[],[],_,_=>rfl
 |[],_::_,_,h,_=>by cases h
 |_::_,[],_,h,_=>by cases h
 |[],[],_::_,_,h=>by cases h
 |_::_,_::_,[],_,h=>by cases h
 |a::l,b::m,c::n,h,h2=>by
  have h':(armF a b&&eqArms l m)=true:=h
  have h2':(armF b c&&eqArms m n)=true:=h2
  show (armF a c&&eqArms l n)=true
  simp only[Bool.and_eq_true,armF,decide_eq_true_eq] at h' h2' ⊢
  exact ⟨⟨h'.1.1.trans h2'.1.1,h'.1.2.trans h2'.1.2⟩,eqArms_trans h'.2 h2'.2⟩
theorem occ_kind {a b:Ex} (h:a.k=b.k):(occ a).2=(occ b).2:=by
 unfold occ
 rw[h]
 split
 ·rfl
 ·split<;>rfl
theorem Like.trans {a b c:Ex} (h:Like a b) (g:Like b c):Like a c:=⟨h.k.trans g.k,h.n.trans g.n,h.t.trans g.t,h.names.trans g.names,h.l.trans g.l,h.arms.trans g.arms,fun q=>(h.s q).trans (g.s (by rw[<-occ_kind h.k];exact q)),fun q=>(h.labels q).trans (g.labels (h.k.symm.trans q)),eqArms_trans h.arm g.arm⟩
section
variable {H:HM}
end
end Go.V
