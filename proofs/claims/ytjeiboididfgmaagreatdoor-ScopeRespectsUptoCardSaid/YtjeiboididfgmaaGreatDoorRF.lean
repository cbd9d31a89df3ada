/- The second reference: trees. No condition. The second reference: nodes. No condition. The third reference: names of nodes, sorted lists. No condition. The third reference: sorted lists, free names. No condition. The third reference: free names. No condition. The third reference: Free, Handlers, Closed, Uses. No condition. The second reference: equality of trees. No condition. -/
import Derived.Test.YtjeiboididfgmaaGreatDoorRD
set_option linter.unusedVariables false
set_option linter.unusedSimpArgs false
set_option linter.defProp false
set_option maxRecDepth 100000
namespace Go.V
open Go Go.Proofs.Tryz
section
variable {G:GT} {H:HM}
def leftL:List (Int->Int->Int)->Int->Int->Int
 |[],n,_=>n
 |r::rs,n,d=>if 0<=n then leftL rs (r n d) d else n
def left:Ex->Int->Int->Int:=Ex.para fun _ rs n d=>if d<1 then -1 else leftL rs (n-1) (d-1)
theorem left_eq (e:Ex) (n d:Int):left e n d=if d<1 then -1 else leftL (e.parts.map left) (n-1) (d-1):=by
 unfold left;rw[Ex.para_eq]
theorem leftL_stop:∀ (rs:List (Int->Int->Int)) (n d:Int),n<0->leftL rs n d=n
 |[],_,_,_=>rfl
 |r::rs,n,d,h=>by unfold leftL;rw[if_neg (by omega)]
theorem left_le (e:Ex):∀ n d:Int,0<=n -> -1<=left e n d/\left e n d<=n:=by
 induction e using Ex.ind with
 |step e ih=>
  intro n d hn
  rw[left_eq]
  split
  ·omega
  ·have key:∀ (l:List Ex),(∀ x∈l,x∈e.parts)->∀ m:Int,-1<=m -> -1<=leftL (l.map left) m (d-1)/\leftL (l.map left) m (d-1)<=m:=by
    intro l
    induction l with
    |nil=>intro _ m hm;exact ⟨hm,Int.le_refl _⟩
    |cons x l ihl=>
     intro hx m hm
     simp only[List.map_cons,leftL]
     split
     ·have h1:=ih x (hx x (by simp)) m (d-1) (by omega)
      have h2:=ihl (fun y hy=>hx y (by simp[hy])) (left x m (d-1)) h1.1
      omega
     ·omega
   have:=key e.parts (fun x h=>h) (n-1) (by omega)
   omega
def prims:List ByteArray:=[⟨#[43]⟩,⟨#[45]⟩,⟨#[42]⟩,⟨#[60]⟩,⟨#[61,61]⟩]
def cls (s:ByteArray) (n:Int):Bool:=if n=1 then isVar s else if n=2 then isUpper s else if n=3 then has prims s else decide (s=⟨#[]⟩)
def distinctF:List ByteArray->List ByteArray->Int
 |_,[]=>0
 |b,x::l=>if isVar x then (if has b x then 5 else distinctF (b++[x]) l) else 4
def distinct (l:List ByteArray):Int:=distinctF [] l
theorem drop_at {α:Type} {l:List α} {k:Nat} (h:k<l.length):l.drop k=l[k]::l.drop (k+1):=List.drop_eq_getElem_cons h
theorem take_at {α:Type} {l:List α} {k:Nat} (h:k<l.length):l.take (k+1)=l.take k++[l[k]]:=by simp
def uppersF:List ByteArray->List ByteArray->Int
 |_,[]=>0
 |b,x::l=>if isUpper x then (if has b x then 5 else uppersF (b++[x]) l) else 4
def namesErr (e:Ex):Int:=if e.k=17 then (if distinct (e.names.take 1)=0 then uppersF [] (e.names.drop 1) else distinct (e.names.take 1)) else distinct e.names
def retStr:ByteArray:=⟨#[114,101,116,117,114,110]⟩
def armArity (h first:Bool) (a:Ar):Bool:=(first&&(!decide (a.op=retStr)||!decide ((a.names.length:Int)=1)))||(h&&!first&&!decide ((a.names.length:Int)=2))||(!h&&decide ((4:Int)<a.names.length))
def armName (h first:Bool) (a:Ar):Bool:=(!first&&!cls a.op 2&&!h)||(!first&&h&&!cls a.op 1)
def armsF (h:Bool):List Ar->List Ar->Int
 |_,[]=>0
 |b,a::l=>if armArity h (h&&b.isEmpty) a then 7 else if armName h (h&&b.isEmpty) a then 4 else if distinct a.names=0 then (if (b.map Ar.op).any (fun o=>decide (o=a.op)) then 5 else armsF h (b++[a]) l) else distinct a.names
def armsErr (e:Ex):Int:=if armsF (!decide (e.k=11)) [] e.arms=0 then (if !decide (e.k=11)&&decide ((e.arms.length:Int)=0) then 7 else 0) else armsF (!decide (e.k=11)) [] e.arms
end
section
variable {G:GT} {H:HM}
structure Shape where
 S:Int
 T:Int
 Names:Int
 L:Int
 Arms:Bool
 Low:Int
 High:Int
def shapes:List Shape:=[⟨1,0,0,0,false,0,0⟩,⟨0,0,0,0,false,-999999999,999999999⟩,⟨0,0,0,0,false,0,1⟩,⟨0,0,0,0,false,0,0⟩,⟨0,0,1,1,false,0,0⟩,⟨0,0,0,2,false,0,0⟩,⟨0,0,1,2,false,0,0⟩,
 ⟨0,0,2,2,false,0,0⟩,⟨0,0,0,3,false,0,0⟩,⟨3,0,0,2,false,0,0⟩,⟨2,0,0,0,false,0,0⟩,⟨0,0,0,1,true,0,0⟩,⟨1,0,0,1,false,0,0⟩,⟨1,1,0,1,false,0,0⟩,⟨2,0,0,1,true,0,1⟩,
 ⟨2,0,1,1,true,0,0⟩,⟨2,0,0,1,false,0,0⟩,⟨0,0,1,3,false,0,0⟩,⟨1,0,0,1,false,0,0⟩,⟨1,0,0,0,false,0,0⟩]
def nodeMany (x:Shape) (e:Ex):Bool:=decide ((e.names.length:Int)=x.Names)||(decide (e.k=17)&&decide ((1:Int)<=e.names.length)&&decide ((e.names.length:Int)<=13))
def nodeParts (x:Shape) (e:Ex):Bool:=decide ((e.l.length:Int)=x.L)||(decide (e.k=10)&&decide ((e.l.length:Int)<=4))
def nodeBad (x:Shape) (e:Ex):Bool:=!nodeMany x e||!nodeParts x e||(!x.Arms&&decide ((0:Int)<e.arms.length))||decide ((9:Int)<e.arms.length)
def nodeOf (x:Shape) (e:Ex):Int:=
 if decide (x.Low<=e.n)&&decide (e.n<=x.High) then
  if !cls e.s x.S||!cls e.t x.T then 4 else if nodeBad x e then 7 else if namesErr e=0 then (if x.Arms then armsErr e else 0) else namesErr e
 else 1
def nodeErr (e:Ex):Int:=if decide (0<=e.k)&&decide (e.k<=19) then (match shapes[e.k.toNat]? with|some x=>nodeOf x e|none=>1) else 1
def firstErr:List Int->Int
 |[]=>0
 |r::rs=>if r=0 then firstErr rs else r
def checked:Ex->Int:=Ex.para fun e rs=>if nodeErr e=0 then firstErr rs else nodeErr e
theorem checked_eq (e:Ex):checked e=if nodeErr e=0 then firstErr (e.parts.map checked) else nodeErr e:=by
 unfold checked;rw[Ex.para_eq]
def check (e:Ex):Int:=if left e 3000 200<0 then 3 else checked e
def size (e:Ex):Int:=if check e=0 then 3000-left e 3000 200 else 0
end
section
variable {G:GT} {H:HM}
def emp:ByteArray:=⟨#[]⟩
def occurs (e:Ex):ByteArray:=if decide (e.k=0)||decide (e.k=18)||decide (e.k=19) then e.s else emp
def occursH (e:Ex):ByteArray:=if decide (e.k=13) then e.s else emp
def boundH (e:Ex) (i:Nat):List ByteArray:=if decide (e.k=15)&&decide ((i:Int)=0) then e.names else []
def bound (e:Ex) (i:Nat):List ByteArray:=
 if e.l.length<=i then (match e.arms[i-e.l.length]? with|some a=>a.names|none=>[])
 else if e.k=4 then e.names
 else if e.k=6 then (if i=1 then e.names else [])
 else if e.k=7 then e.names.take (2-i)
 else if e.k=17 then (if i=2/\0<e.names.length then e.names.take 1 else [])
 else []
def minus (l less:List ByteArray):List ByteArray:=less.foldl without l
theorem without_len (l:List ByteArray) (s:ByteArray):(without l s).length<=l.length:=List.length_filter_le _ _
theorem minus_len (l less:List ByteArray):(minus l less).length<=l.length:=by
 unfold minus
 induction less generalizing l with
 |nil=>exact Nat.le_refl _
 |cons x less ih=>exact Nat.le_trans (ih _) (without_len l x)
def ins (x:ByteArray):List ByteArray->List ByteArray
 |[]=>[x]
 |y::l=>if strLt x y then x::y::l else y::ins x l
def addS (l more:List ByteArray):List ByteArray:=more.foldl (fun l x=>if has l x then l else ins x l) l
theorem ins_len (x:ByteArray):∀ l:List ByteArray,(ins x l).length=l.length+1
 |[]=>rfl
 |y::l=>by
  unfold ins
  split
  ·rfl
  ·simp[ins_len x l]
theorem addS_len (l more:List ByteArray):(addS l more).length<=l.length+more.length:=by
 unfold addS
 induction more generalizing l with
 |nil=>simp
 |cons x more ih=>
  simp only[List.foldl_cons,List.length_cons]
  refine Nat.le_trans (ih _) ?_
  split
  ·omega
  ·rw[ins_len];omega
end
section
variable {G:GT} {H:HM}
end
theorem firstErr_zero:∀ l:List Int,firstErr l=0↔∀ x∈l,x=0
 |[]=>by simp[firstErr]
 |r::rs=>by
  unfold firstErr
  by_cases h:r=0
  ·simp[h,firstErr_zero rs]
  ·simp[h]
theorem M11 (e:Ex):checked e=0↔nodeErr e=0/\∀ x∈e.parts,checked x=0:=by
 rw[checked_eq]
 by_cases h:nodeErr e=0
 ·rw[if_pos h,firstErr_zero]
  simp[h]
 ·simp[h]
theorem node_shape {e:Ex} (h:nodeErr e=0):∃ x,shapes[e.k.toNat]?=some x/\0<=e.k/\e.k<=19/\nodeMany x e=true/\nodeParts x e=true/\(x.Arms=false->e.arms.length=0)/\cls e.s x.S=true/\cls e.t x.T=true/\namesErr e=0/\(x.Arms=true->armsErr e=0)/\x.Low<=e.n/\e.n<=x.High:=by
 unfold nodeErr at h
 split at h
 ·rename_i hk
  simp only[Bool.and_eq_true,decide_eq_true_eq] at hk
  split at h
  ·rename_i x hx
   unfold nodeOf at h
   split at h
   ·rename_i hn
    split at h
    ·cases h
    ·rename_i hcl
     split at h
     ·cases h
     ·rename_i hb
      simp only[Bool.not_eq_true,Bool.or_eq_false_iff,Bool.not_eq_false',nodeBad] at hcl hb
      simp only[Bool.and_eq_true,decide_eq_true_eq] at hn
      have hz:namesErr e=0:=by
       split at h
       ·assumption
       ·rename_i hq;exact absurd h hq
      rw[if_pos hz] at h
      refine ⟨x,hx,hk.1,hk.2,hb.1.1.1,hb.1.1.2,fun ha=>?_,hcl.1,hcl.2,hz,fun ha=>?_,hn.1,hn.2⟩
      ·have:=hb.1.2
       rw[ha] at this
       simp only[Bool.not_false,Bool.true_and,decide_eq_false_iff_not] at this;omega
      ·rw[if_pos ha] at h;exact h
   ·cases h
  ·cases h
 ·cases h
theorem rec_shape {e:Ex} (h:nodeErr e=0) (h7:e.k=7):e.names.length=2/\e.l.length=2:=by
 obtain ⟨x,hx,_,_,hm,hp,_⟩:=node_shape h
 rw[h7] at hx
 have:shapes[(7:Int).toNat]?=some ⟨0,0,2,2,false,0,0⟩:=rfl
 rw[this] at hx
 cases hx
 simp[nodeMany,nodeParts,h7] at hm hp
 omega
def Ex.wid:Ex->Nat:=Ex.para fun e rs=>1+e.names.length+(e.arms.map fun a=>a.names.length).sum+rs.sum
theorem Ex.wid_eq (e:Ex):e.wid=1+e.names.length+(e.arms.map fun a=>a.names.length).sum+(e.parts.map Ex.wid).sum:=Ex.para_eq _ e
theorem Ex.part_wid {e x:Ex} (h:x∈e.parts):x.wid<=e.wid:=by
 rw[Ex.wid_eq e]
 have:=le_sum (List.mem_map_of_mem (f:=Ex.wid) h)
 omega
def Okk (e:Ex):Prop:=Fit e/\checked e=0/\e.nodes<=bnd/\e.wid<=bnd
theorem Okk.part {e x:Ex} (h:Okk e) (hx:x∈e.parts):Okk x:=⟨h.1.part hx,((M11 e).1 h.2.1).2 x hx,Nat.le_of_lt (Nat.lt_of_lt_of_le (Ex.part_lt hx) h.2.2.1),Nat.le_trans (Ex.part_wid hx) h.2.2.2⟩
theorem Okk.node {e:Ex} (h:Okk e):nodeErr e=0:=((M11 e).1 h.2.1).1
def goF (f:Nat->List ByteArray):Nat->List (List ByteArray)->List ByteArray->List ByteArray
 |_,[],acc=>acc
 |i,r::rs,acc=>goF f (i+1) rs (addS acc (minus r (f i)))
theorem goF_len (f:Nat->List ByteArray):∀ (rs:List (List ByteArray)) (i:Nat) (acc:List ByteArray),(goF f i rs acc).length<=acc.length+(rs.map List.length).sum
 |[],i,acc=>by simp[goF]
 |q::rs,i,acc=>by
  simp only[goF,List.map_cons,List.sum_cons]
  have h1:=goF_len f rs (i+1) (addS acc (minus q (f i)))
  have h2:=addS_len acc (minus q (f i))
  have h3:=minus_len q (f i)
  omega
def one (s:ByteArray):List ByteArray:=if s=emp then [] else [s]
def freeOf:Ex->List ByteArray:=Ex.para fun e rs=>goF (bound e) 0 rs (one (occurs e))
def handlersOf:Ex->List ByteArray:=Ex.para fun e rs=>goF (boundH e) 0 rs (one (occursH e))
theorem freeOf_eq (e:Ex):freeOf e=goF (bound e) 0 (e.parts.map freeOf) (one (occurs e)):=by unfold freeOf;rw[Ex.para_eq]
theorem handlersOf_eq (e:Ex):handlersOf e=goF (boundH e) 0 (e.parts.map handlersOf) (one (occursH e)):=by unfold handlersOf;rw[Ex.para_eq]
theorem one_len (s:ByteArray):(one s).length<=1:=by unfold one;split<;>simp
theorem sum_le {α:Type} {f g:α->Nat}:∀ {l:List α},(∀ x∈l,f x<=g x)->(l.map f).sum<=(l.map g).sum
 |[],_=>Nat.le_refl _
 |a::l,h=>by
  have h1:=h a (by simp)
  have h2:=sum_le (l:=l) fun x hx=>h x (by simp[hx])
  simp only[List.map_cons,List.sum_cons];omega
theorem freeOf_len (e:Ex):(freeOf e).length<=e.nodes:=by
 induction e using Ex.ind with
 |step e ih=>
  rw[freeOf_eq,Ex.nodes_eq]
  have h1:=goF_len (bound e) (e.parts.map freeOf) 0 (one (occurs e))
  have h2:=one_len (occurs e)
  have h3:=sum_le (l:=e.parts) (f:=fun x=>(freeOf x).length) (g:=Ex.nodes) ih
  rw[List.map_map] at h1
  have e1:(e.parts.map (List.length∘freeOf)).sum=(e.parts.map fun x=>(freeOf x).length).sum:=rfl
  omega
theorem handlersOf_len (e:Ex):(handlersOf e).length<=e.nodes:=by
 induction e using Ex.ind with
 |step e ih=>
  rw[handlersOf_eq,Ex.nodes_eq]
  have h1:=goF_len (boundH e) (e.parts.map handlersOf) 0 (one (occursH e))
  have h2:=one_len (occursH e)
  have h3:=sum_le (l:=e.parts) (f:=fun x=>(handlersOf x).length) (g:=Ex.nodes) ih
  rw[List.map_map] at h1
  have e1:(e.parts.map (List.length∘handlersOf)).sum=(e.parts.map fun x=>(handlersOf x).length).sum:=rfl
  omega
section
variable {G:GT} {H:HM}
end
def Inp (e:Ex):Prop:=Fit e/\e.nodes<=bnd/\e.wid<=bnd
theorem Inp.okk {e:Ex} (h:Inp e) (hc:check e=0):Okk e:=by
 refine ⟨h.1,?_,h.2.1,h.2.2⟩
 unfold check at hc
 split at hc
 ·cases hc
 ·exact hc
section
variable {G:GT} {H:HM}
end
section
variable {G:GT} {H:HM}
end
end Go.V
