/- The second reference: trees. No condition. The second reference: nodes. No condition. The third reference: names of nodes, sorted lists. No condition. The third reference: sorted lists, free names. No condition. The third reference: free names. No condition. The third reference: Free, Handlers, Closed, Uses. No condition. The second reference: equality of trees. No condition. -/
import Derived.Test.YtjeiboididfgmaaGreatDoorQD
set_option linter.unusedVariables false
set_option linter.unusedSimpArgs false
set_option linter.defProp false
set_option maxRecDepth 100000
namespace Go.V
open Go Go.Proofs.Tryz
section
variable {G:GT} {H:HM}
theorem parts_c (e:Ex) (hf:fit1 e):PureF prog G 87 [e.av] H (.list (exs e.parts)):=by
 obtain ⟨_,_,_,hl,ha,_⟩:=hf
 refine M10 (fn:=f87) func87 rfl (by kernel_rfl) (by kernel_rfl) (Nat.le_of_ble_eq_true (by kernel_rfl)) fun K hk=>?_
 refine A10 [] fun N E hN hE=>?_
 simp +decide only[ZS,↓reduceIte,Nat.reduceAdd]
 refine hN _ ?_
 clear hN hE N E
 refine A10 [] fun N E hN hE=>?_
 simp +decide only[ZS,↓reduceIte,Nat.reduceAdd]
 refine T12 (by kernel_rfl) (OutG.nil (Drop.refl H) 27 7) rfl (fun _ _ _ e=>by cases e) (exs_sz _) (by simp[W10];exact D13 hl) fun v0 H0 ho=>?_
 rw[T10]
 simp +decide only[ZS,↓reduceIte,Nat.reduceAdd]
 refine hN _ ?_
 clear hN hE N E
 refine I10 (A10 [] fun N E hN hE=>?_)
 simp +decide only[ZS,↓reduceIte,Nat.reduceAdd]
 refine hN _ ?_
 clear hN hE N E
 refine K10 ?_
 refine Y10 (fun k s'=>k<=e.arms.length/\s'.tmps 1=.ref e.av.cells/\s'.tmps 4=.int k/\OutG H s'.H (s'.tmps 3) 27 7 (exs (e.l++(e.arms.take k).map Ar.body))/\s'.defs=[]) (fun k=>e.arms.length-k) 0
  ⟨Nat.zero_le _,by rw[C10];rfl,rfl,by rw[List.take_zero,List.map_nil,List.append_nil];exact ho,rfl⟩ ?_
 rintro k ⟨tm,H',ds⟩ ⟨hk1,h1,h4,ho,rfl⟩
 simp only at ho
 generalize h3:tm 3=out at ho
 rw[C10] at h1
 refine B10 1 _ h1 (B10 4 _ h4 (B10 3 _ h3 ?_))
 refine I10 (A10 [] fun N E hN hE=>?_)
 simp +decide only[ZS,↓reduceIte,Nat.reduceAdd,V11]
 refine hN _ ?_
 clear hN hE N E
 refine O10 rfl (fun hc=>?_) (fun hc=>?_)
 ·have hlt:k<e.arms.length:=by have:=of_decide_eq_true hc;omega
  have htk:exs (e.l++(e.arms.take (k+1)).map Ar.body)=exs (e.l++(e.arms.take k).map Ar.body)++[e.arms[k].body.av]:=by
   have h:e.arms.take (k+1)=e.arms.take k++[e.arms[k]]:=by simp
   rw[h,List.map_append,<-List.append_assoc];simp only[exs,List.map_append,List.map_cons,List.map_nil]
  refine G10 ?_
  refine I10 (K10 ?_)
  refine P10 [] fun N E hN hE=>?_
  simp +decide only[ZS,↓reduceIte,Nat.reduceAdd,ars_at hlt,nat0,Int.toNat_natCast]
  refine ⟨bs_ok (by kernel_rfl) (B12 ⟨ex_size _,ex_one _⟩),?_⟩
  refine T12 (by kernel_rfl) ho rfl (fun _ _ _ e=>by cases e) (B12 (ex_size _)) ?_ fun v' H1 ho'=>?_
  ·have:=bnd2_lim hl ha
   simp[W10];omega
  rw[T10]
  simp +decide only[ZS,↓reduceIte,Nat.reduceAdd]
  refine hN _ ?_
  clear hN hE N E
  refine P10 [] fun N E hN hE=>?_
  simp +decide only[ZS,↓reduceIte,Nat.reduceAdd,wrapN (show k<9223372036854775807 by have:=V13;omega)]
  refine hN _ ?_
  clear hN hE N E
  refine ⟨k+1,⟨hlt,?_,rfl,?_,rfl⟩,by omega⟩
  ·rw[C10];rfl
  ·simp +decide only[ZS,↓reduceIte,Nat.reduceAdd]
   rw[htk];exact ho'
 ·refine B11 ?_
  have hk3:k=e.arms.length:=by have:=of_decide_eq_false hc;omega
  subst hk3
  rw[List.take_length] at ho
  refine A10 [] fun N E hN hE=>?_
  simp +decide only[ZS,↓reduceIte,Nat.reduceAdd]
  refine hN _ ?_
  clear hN hE N E
  refine J10 (Fin_drop (L11 2 rfl) ho.drop (ho.view ?_) hk)
  have:=bnd2_lim hl ha
  simp[W10];omega
def leftL:List (Int->Int->Int)->Int->Int->Int
 |[],n,_=>n
 |r::rs,n,d=>if 0<=n then leftL rs (r n d) d else n
def left:Ex->Int->Int->Int:=Ex.para fun _ rs n d=>if d<1 then -1 else leftL rs (n-1) (d-1)
theorem left_eq (e:Ex) (n d:Int):left e n d=if d<1 then -1 else leftL (e.parts.map left) (n-1) (d-1):=by
 unfold left;rw[Ex.para_eq]
theorem leftL_stop:∀ (rs:List (Int->Int->Int)) (n d:Int),n<0->leftL rs n d=n
 |[],_,_,_=>rfl
 |r::rs,n,d,h=>by unfold leftL;rw[if_neg (by omega)]
theorem leftL_snoc:∀ (rs:List (Int->Int->Int)) (r:Int->Int->Int) (n d:Int),leftL (rs++[r]) n d=if 0<=leftL rs n d then r (leftL rs n d) d else leftL rs n d
 |[],r,n,d=>rfl
 |q::rs,r,n,d=>by
  simp only[List.cons_append,leftL]
  split
  ·exact leftL_snoc rs r _ d
  ·rfl
theorem left_le (e:Ex):∀ n d:Int,0<=n -> -1<=left e n d/\left e n d<=n:=by
 induction e using Ex.ind with
 |step e ih=>
  intro n d hn
  rw[left_eq]
  split
  ·omega
  ·have key:∀ (l:List Ex),(∀ x∈l,x∈e.parts)->∀ m:Int,-1<=m -> -1<=leftL (l.map left) m (d-1)/\leftL (l.map left) m (d-1)<=m:=by
    intro l
    induction l with
    |nil=>intro _ m hm;exact ⟨hm,Int.le_refl _⟩
    |cons x l ihl=>
     intro hx m hm
     simp only[List.map_cons,leftL]
     split
     ·have h1:=ih x (hx x (by simp)) m (d-1) (by omega)
      have h2:=ihl (fun y hy=>hx y (by simp[hy])) (left x m (d-1)) h1.1
      omega
     ·omega
   have:=key e.parts (fun x h=>h) (n-1) (by omega)
   omega
theorem left_c (e:Ex):Fit e->∀ (n d:Int),0<=n->n<=3000->0<=d->d<=200->PureF prog G 82 [e.av,.int n,.int d] H (.int (left e n d)):=by
 induction e using Ex.ind with
 |step e ih=>
  intro hfit n d hn0 hn1 hd0 hd1
  have hll:=hfit.one.2.2.2.1
  have hla:=hfit.one.2.2.2.2.1
  have hbb:=V13
  have hs:IntKind.i64.wrap ((e.l.length:Int)+(e.arms.length:Int))=((e.parts.length:Nat):Int):=by
   rw[F11,wrap64]<;>omega
  have hw1:IntKind.i64.wrap (n-1)=n-1:=wrap64 (by omega) (by omega)
  have hw2:IntKind.i64.wrap (d-1)=d-1:=wrap64 (by omega) (by omega)
  refine M10 (fn:=f82) func82 rfl (by kernel_rfl) (by kernel_rfl) (Nat.le_of_ble_eq_true (by kernel_rfl)) fun K hk=>?_
  refine A10 [] fun N E hN hE=>?_
  simp +decide only[ZS,↓reduceIte,Nat.reduceAdd]
  refine hN _ ?_
  clear hN hE N E
  refine A10 [] fun N E hN hE=>?_
  simp +decide only[ZS,↓reduceIte,Nat.reduceAdd,hw1]
  refine hN _ ?_
  clear hN hE N E
  refine I10 (A10 [] fun N E hN hE=>?_)
  simp +decide only[ZS,↓reduceIte,Nat.reduceAdd]
  refine hN _ ?_
  clear hN hE N E
  refine O10 rfl (fun hc=>?_) (fun hc=>?_)
  ·refine A10 [] fun N E hN hE=>?_
   simp +decide only[ZS,↓reduceIte,Nat.reduceAdd]
   refine hN _ ?_
   clear hN hE N E
   refine J10 (F10 6 rfl ?_)
   simp +decide only[ZS,↓reduceIte,Nat.reduceAdd]
   rwa [left_eq,if_pos (of_decide_eq_true hc)] at hk
  have hd:¬ d<1:=of_decide_eq_false hc
  refine G10 ?_
  refine A10 [] fun N E hN hE=>?_
  simp +decide only[ZS,↓reduceIte,Nat.reduceAdd,W10,V11,hs]
  refine hN _ ?_
  clear hN hE N E
  refine I10 (A10 [] fun N E hN hE=>?_)
  simp +decide only[ZS,↓reduceIte,Nat.reduceAdd]
  refine hN _ ?_
  clear hN hE N E
  refine K10 ?_
  refine Y10 (fun k s'=>k<=e.parts.length/\s'.tmps 1=.int (leftL ((e.parts.take k).map left) (n-1) (d-1))/\s'.tmps 2=.int d/\s'.tmps 3=.ref e.av.cells/\s'.tmps 7=.int e.parts.length/\s'.tmps 8=.int k/\s'.H=H/\s'.defs=[])
   (fun k=>e.parts.length-k) 0 ⟨Nat.zero_le _,rfl,rfl,by rw[C10];rfl,rfl,rfl,rfl,rfl⟩ ?_
  rintro k ⟨tm,H',ds⟩ ⟨hk1,h1,h2,h3,h7,h8,hH,hds⟩
  obtain rfl:H'=H:=hH
  obtain rfl:ds=[]:=hds
  rw[C10] at h3
  have hkey:∀ k,k<=e.parts.length -> -1<=leftL ((e.parts.take k).map left) (n-1) (d-1)/\leftL ((e.parts.take k).map left) (n-1) (d-1)<=n-1:=by
   intro k
   induction k with
   |zero=>intro _;simp only[List.take_zero,List.map_nil,leftL];omega
   |succ k ihk=>
    intro hk
    have hk':k<e.parts.length:=by omega
    have h:e.parts.take (k+1)=e.parts.take k++[e.parts[k]]:=by simp
    have:=ihk (by omega)
    rw[h,List.map_append,List.map_cons,List.map_nil,leftL_snoc]
    split
    ·have:=left_le e.parts[k] (leftL ((e.parts.take k).map left) (n-1) (d-1)) (d-1) (by assumption)
     omega
    ·omega
  have hstep:∀ (hk:k<e.parts.length),0<=leftL ((e.parts.take k).map left) (n-1) (d-1)->leftL ((e.parts.take (k+1)).map left) (n-1) (d-1)=left e.parts[k] (leftL ((e.parts.take k).map left) (n-1) (d-1)) (d-1):=by
   intro hk h0
   have h:e.parts.take (k+1)=e.parts.take k++[e.parts[k]]:=by simp
   rw[h,List.map_append,List.map_cons,List.map_nil,leftL_snoc,if_pos h0]
  have hkk:=hkey k hk1
  generalize hm:leftL ((e.parts.take k).map left) (n-1) (d-1)=m at *
  refine B10 1 _ h1 (B10 2 _ h2 (B10 3 _ h3 (B10 7 _ h7 (B10 8 _ h8 ?_))))
  have fin:leftL (e.parts.map left) (n-1) (d-1)=m->K (.ret (.int m)) H':=fun h=>by
   rwa [left_eq,if_neg hd,h] at hk
  refine I10 (C11 [] (fun s'=>s'.tmps 26=.bool (decide (k<e.parts.length)&&decide (0<=m))/\s'.tmps 1=.int m/\s'.tmps 2=.int d/\s'.tmps 3=tm 3/\s'.tmps 7=.int e.parts.length/\s'.tmps 8=.int k/\s'.H=H'/\s'.defs=[]) (fun N E hN hE=>?_) ?_)
  ·clear hE hk fin
   simp +decide only[ZS,↓reduceIte,Nat.reduceAdd,Int.ofNat_lt]
   refine U10 (fun hb=>?_) (fun hb=>?_)
   ·simp +decide only[ZS,↓reduceIte,Nat.reduceAdd,hb]
    refine hN _ ⟨?_,rfl,rfl,h3.symm,rfl,rfl,rfl,rfl⟩
    simp +decide only[ZS,↓reduceIte,Nat.reduceAdd]
    rw[hb,Bool.true_and]
   ·simp +decide only[ZS,↓reduceIte,Nat.reduceAdd,hb]
    refine hN _ ⟨?_,rfl,rfl,h3.symm,rfl,rfl,rfl,rfl⟩
    simp +decide only[ZS,↓reduceIte,Nat.reduceAdd]
    rw[hb,Bool.false_and]
  rintro ⟨tm1,H1,ds⟩ ⟨g26,g1,g2,g3,g7,g8,gH,gds⟩
  obtain rfl:H1=H':=gH
  obtain rfl:ds=[]:=gds
  simp only at g26 g1 g2 g3 g7 g8 h3
  rw[h3] at g3
  refine B10 26 _ g26 (B10 1 _ g1 (B10 2 _ g2 (B10 3 _ g3 (B10 7 _ g7 (B10 8 _ g8 ?_)))))
  refine O10 rfl (fun hc=>?_) (fun hc=>?_)
  ·simp only[Bool.and_eq_true,decide_eq_true_eq] at hc
   obtain ⟨hlt,hm0⟩:=hc
   have hst:=hstep hlt hm0
   have hpl:=F11 e
   have hsub:IntKind.i64.wrap ((k:Int)-(e.l.length:Int))=(k:Int)-e.l.length:=wrap64 (by omega) (by omega)
   have hwk:=wrapN (show k<9223372036854775807 by rw[F11] at hlt;omega)
   refine G10 ?_
   refine I10 (K10 ?_)
   refine A10 [] fun N E hN hE=>?_
   simp +decide only[ZS,↓reduceIte,Nat.reduceAdd,W10]
   refine hN _ ?_
   clear hN hE N E
   refine O10 rfl (fun hc=>?_) (fun hc=>?_)
   ·have hkl:k<e.l.length:=by have:=of_decide_eq_true hc;omega
    have hpe:e.parts[k]=e.l[k]:=by simp[Ex.parts,hkl]
    refine P10 [] fun N E hN hE=>?_
    simp +decide only[ZS,↓reduceIte,Nat.reduceAdd,exs_at hkl,nat0,Int.toNat_natCast,hw2]
    refine D10 (ih _ (mem_l hkl) (hfit.part (mem_l hkl)) m (d-1) hm0 (by omega) (by omega) (by omega)) ?_
    simp +decide only[ZS,↓reduceIte,Nat.reduceAdd]
    refine hN _ ?_
    clear hN hE N E
    refine P10 [] fun N E hN hE=>?_
    simp +decide only[ZS,↓reduceIte,Nat.reduceAdd,hwk]
    refine hN _ ?_
    clear hN hE N E
    refine ⟨k+1,⟨hlt,?_,rfl,?_,rfl,rfl,rfl,rfl⟩,by omega⟩
    ·simp +decide only[ZS,↓reduceIte,Nat.reduceAdd]
     rw[hst,hpe]
    ·rw[C10];rfl
   ·have hkl:¬ k<e.l.length:=by have:=of_decide_eq_false hc;omega
    have hka:k-e.l.length<e.arms.length:=by rw[F11] at hlt;omega
    have hpe:e.parts[k]=e.arms[k-e.l.length].body:=by
     simp only[Ex.parts]
     rw[List.getElem_append_right (by omega)];simp
    have htn:((k:Int)-(e.l.length:Int)).toNat=k-e.l.length:=by omega
    have hge:(0:Int)<=(k:Int)-(e.l.length:Int):=by omega
    refine P10 [] fun N E hN hE=>?_
    simp +decide only[ZS,↓reduceIte,Nat.reduceAdd,W10,hsub,hge,htn,ars_at hka,hw2]
    refine D10 (ih _ (mem_arm hka) (hfit.part (mem_arm hka)) m (d-1) hm0 (by omega) (by omega) (by omega)) ?_
    simp +decide only[ZS,↓reduceIte,Nat.reduceAdd]
    refine hN _ ?_
    clear hN hE N E
    refine P10 [] fun N E hN hE=>?_
    simp +decide only[ZS,↓reduceIte,Nat.reduceAdd,hwk]
    refine hN _ ?_
    clear hN hE N E
    refine ⟨k+1,⟨hlt,?_,rfl,?_,rfl,rfl,rfl,rfl⟩,by omega⟩
    ·simp +decide only[ZS,↓reduceIte,Nat.reduceAdd]
     rw[hst,hpe]
    ·rw[C10];rfl
  ·refine B11 ?_
   refine A10 [] fun N E hN hE=>?_
   simp +decide only[ZS,↓reduceIte,Nat.reduceAdd]
   refine hN _ ?_
   clear hN hE N E
   refine J10 (F10 6 rfl ?_)
   simp +decide only[ZS,↓reduceIte,Nat.reduceAdd]
   refine fin ?_
   simp only[Bool.and_eq_false_iff,decide_eq_false_iff_not] at hc
   rcases hc with h|h
   ·have:k=e.parts.length:=by omega
    subst this
    rwa [List.take_length] at hm
   ·have:∀ j,k<=j->j<=e.parts.length->leftL ((e.parts.take j).map left) (n-1) (d-1)=m:=by
     intro j hj
     induction j with
     | zero => intro _; have : k = 0 := by omega
               subst this;exact hm
     |succ j ihj=>
      intro hj2
      by_cases hjk:k=j+1
      ·subst hjk;exact hm
      ·have h1:=ihj (by omega) (by omega)
       have h2:e.parts.take (j+1)=e.parts.take j++[e.parts[j]]:=by simp
       rw[h2,List.map_append,List.map_cons,List.map_nil,leftL_snoc,h1,if_neg h]
    have:=this e.parts.length hk1 (Nat.le_refl _)
    rwa [List.take_length] at this
def prims:List ByteArray:=[⟨#[43]⟩,⟨#[45]⟩,⟨#[42]⟩,⟨#[60]⟩,⟨#[61,61]⟩]
def cls (s:ByteArray) (n:Int):Bool:=if n=1 then isVar s else if n=2 then isUpper s else if n=3 then has prims s else decide (s=⟨#[]⟩)
theorem class_c (s:ByteArray) (n:Int) (hs:s.size<=lim):PureF prog G 154 [.str s,.int n] H (.bool (cls s n)):=by
 refine M10 (fn:=f154) func154 rfl (by kernel_rfl) (by kernel_rfl) (Nat.le_of_ble_eq_true (by kernel_rfl)) fun K hk=>?_
 refine A10 [] fun N E hN hE=>?_
 simp +decide only[ZS,↓reduceIte,Nat.reduceAdd]
 refine hN _ ?_
 clear hN hE N E
 refine I10 (A10 [] fun N E hN hE=>?_)
 simp +decide only[ZS,↓reduceIte,Nat.reduceAdd]
 refine hN _ ?_
 clear hN hE N E
 refine O10 rfl (fun hc=>?_) (fun hc=>?_)
 ·have h:=of_decide_eq_true hc
  refine A10 [] fun N E hN hE=>?_
  simp +decide only[ZS,↓reduceIte,Nat.reduceAdd]
  refine D10 (isVar_c s hs) ?_
  simp +decide only[ZS,↓reduceIte,Nat.reduceAdd]
  refine hN _ ?_
  clear hN hE N E
  refine J10 (F10 4 rfl ?_)
  simp +decide only[ZS,↓reduceIte,Nat.reduceAdd]
  simpa[cls,h] using hk
 have h1:=of_decide_eq_false hc
 refine G10 ?_
 refine I10 (A10 [] fun N E hN hE=>?_)
 simp +decide only[ZS,↓reduceIte,Nat.reduceAdd]
 refine hN _ ?_
 clear hN hE N E
 refine O10 rfl (fun hc=>?_) (fun hc=>?_)
 ·have h:=of_decide_eq_true hc
  refine A10 [] fun N E hN hE=>?_
  simp +decide only[ZS,↓reduceIte,Nat.reduceAdd]
  refine D10 (isUpper_c s hs) ?_
  simp +decide only[ZS,↓reduceIte,Nat.reduceAdd]
  refine hN _ ?_
  clear hN hE N E
  refine J10 (F10 4 rfl ?_)
  simp +decide only[ZS,↓reduceIte,Nat.reduceAdd]
  simpa[cls,h] using hk
 have h2:=of_decide_eq_false hc
 refine G10 ?_
 refine I10 (A10 [] fun N E hN hE=>?_)
 simp +decide only[ZS,↓reduceIte,Nat.reduceAdd]
 refine hN _ ?_
 clear hN hE N E
 refine O10 rfl (fun hc=>?_) (fun hc=>?_)
 ·have h:=of_decide_eq_true hc
  refine A10 [] fun N E hN hE=>?_
  simp +decide only[ZS,↓reduceIte,Nat.reduceAdd]
  refine ⟨bs_ok (by kernel_rfl) (fun x hx=>all_strs prims x hx),?_⟩
  refine D10 (has_c prims s (by decide)) ?_
  simp +decide only[ZS,↓reduceIte,Nat.reduceAdd]
  refine hN _ ?_
  clear hN hE N E
  refine J10 (F10 4 rfl ?_)
  simp +decide only[ZS,↓reduceIte,Nat.reduceAdd]
  simpa[cls,h] using hk
 have h3:=of_decide_eq_false hc
 refine G10 ?_
 refine A10 [] fun N E hN hE=>?_
 simp +decide only[ZS,↓reduceIte,Nat.reduceAdd]
 refine hN _ ?_
 clear hN hE N E
 refine J10 (F10 4 rfl ?_)
 simp +decide only[ZS,↓reduceIte,Nat.reduceAdd]
 simpa[cls,h1,h2,h3] using hk
def distinctF:List ByteArray->List ByteArray->Int
 |_,[]=>0
 |b,x::l=>if isVar x then (if has b x then 5 else distinctF (b++[x]) l) else 4
def distinct (l:List ByteArray):Int:=distinctF [] l
theorem drop_at {α:Type} {l:List α} {k:Nat} (h:k<l.length):l.drop k=l[k]::l.drop (k+1):=List.drop_eq_getElem_cons h
theorem take_at {α:Type} {l:List α} {k:Nat} (h:k<l.length):l.take (k+1)=l.take k++[l[k]]:=by simp
theorem distinct_c (l:List ByteArray) (hl:l.length<=bnd) (hx:∀ x∈l,x.size<=bnd):PureF prog G 170 [.list (strs l)] H (.int (distinct l)):=by
 have hbb:=V13
 refine M10 (fn:=f170) func170 rfl (by kernel_rfl) (by kernel_rfl) (Nat.le_of_ble_eq_true (by kernel_rfl)) fun K hk=>?_
 refine A10 [] fun N E hN hE=>?_
 simp +decide only[ZS,↓reduceIte,Nat.reduceAdd]
 refine hN _ ?_
 clear hN hE N E
 refine I10 (A10 [] fun N E hN hE=>?_)
 simp +decide only[ZS,↓reduceIte,Nat.reduceAdd]
 refine hN _ ?_
 clear hN hE N E
 refine K10 ?_
 refine Y10 (fun k s'=>k<=l.length/\distinct l=distinctF (l.take k) (l.drop k)/\s'.tmps 0=.list (strs l)/\s'.tmps 3=.int k/\s'.H=H/\s'.defs=[]) (fun k=>l.length-k) 0 ⟨Nat.zero_le _,rfl,rfl,rfl,rfl,rfl⟩ ?_
 rintro k ⟨tm,H',ds⟩ ⟨hk1,hk2,h0,h3,hH,hds⟩
 obtain rfl:H'=H:=hH
 obtain rfl:ds=[]:=hds
 refine B10 0 _ h0 (B10 3 _ h3 ?_)
 refine I10 (A10 [] fun N E hN hE=>?_)
 simp +decide only[ZS,↓reduceIte,Nat.reduceAdd,R10]
 refine hN _ ?_
 clear hN hE N E
 refine O10 rfl (fun hc=>?_) (fun hc=>?_)
 ·have hlt:k<l.length:=by have:=of_decide_eq_true hc;omega
  have hxk:=hx l[k] (List.getElem_mem hlt)
  rw[drop_at hlt,distinctF] at hk2
  refine G10 ?_
  refine I10 (K10 ?_)
  refine I10 (A10 [] fun N E hN hE=>?_)
  simp +decide only[ZS,↓reduceIte,Nat.reduceAdd,O12 hlt,nat0,Int.toNat_natCast]
  refine D10 (isVar_c l[k] (D13 hxk)) ?_
  simp +decide only[ZS,↓reduceIte,Nat.reduceAdd]
  refine hN _ ?_
  clear hN hE N E
  refine O10 rfl (fun hc=>?_) (fun hc=>?_)
  ·refine A10 [] fun N E hN hE=>?_
   simp +decide only[ZS,↓reduceIte,Nat.reduceAdd]
   refine hN _ ?_
   clear hN hE N E
   refine J10 (F10 2 rfl ?_)
   simp +decide only[ZS,↓reduceIte,Nat.reduceAdd]
   have hv:isVar l[k]=false:=by simpa using hc
   rw[hk2,hv] at hk;exact hk
  have hv:isVar l[k]=true:=by simpa using hc
  rw[hv,if_pos rfl] at hk2
  refine G10 ?_
  have hsl:(k:Int)<=(l.length:Int):=by omega
  refine X12 [] 8 (by kernel_rfl) (by kernel_rfl) (by kernel_rfl) fun N E hN hE=>?_
  simp only[List.take,List.drop]
  simp +decide only[ZS,QS,↓reduceIte,Nat.reduceAdd,O12 hlt,nat0,Int.toNat_natCast,K13,R10,hsl,J13]
  refine V10 (has_c (l.take k) l[k] (by rw[List.length_take];exact Nat.le_trans (Nat.min_le_right _ _) (D13 hl))) ?_
  simp +decide only[ZS,QS,↓reduceIte,Nat.reduceAdd]
  refine hN _ ?_
  refine O10 rfl (fun hc=>?_) (fun hc=>?_)
  ·refine A10 [] fun N E hN hE=>?_
   simp +decide only[ZS,↓reduceIte,Nat.reduceAdd]
   refine hN _ ?_
   clear hN hE N E
   refine J10 (F10 2 rfl ?_)
   simp +decide only[ZS,↓reduceIte,Nat.reduceAdd]
   rw[hk2,if_pos hc] at hk;exact hk
  ·refine G10 ?_
   refine P10 [] fun N E hN hE=>?_
   simp +decide only[ZS,↓reduceIte,Nat.reduceAdd,wrapN (show k<9223372036854775807 by omega)]
   refine hN _ ?_
   clear hN hE N E
   refine ⟨k+1,⟨hlt,?_,rfl,rfl,rfl,rfl⟩,by omega⟩
   rw[take_at hlt,hk2,hc];rfl
 ·refine B11 ?_
  have hk3:k=l.length:=by have:=of_decide_eq_false hc;omega
  subst hk3
  refine A10 [] fun N E hN hE=>?_
  simp +decide only[ZS,↓reduceIte,Nat.reduceAdd]
  refine hN _ ?_
  clear hN hE N E
  refine J10 (F10 2 rfl ?_)
  simp +decide only[ZS,↓reduceIte,Nat.reduceAdd]
  rw[hk2,List.drop_length] at hk;exact hk
def uppersF:List ByteArray->List ByteArray->Int
 |_,[]=>0
 |b,x::l=>if isUpper x then (if has b x then 5 else uppersF (b++[x]) l) else 4
def namesErr (e:Ex):Int:=if e.k=17 then (if distinct (e.names.take 1)=0 then uppersF [] (e.names.drop 1) else distinct (e.names.take 1)) else distinct e.names
theorem names_c (e:Ex) (hf:fit1 e) (hu:e.k=17->1<=e.names.length):PureF prog G 155 [e.av] H (.int (namesErr e)):=by
 obtain ⟨_,_,hn,_,_,hx,_⟩:=hf
 have hbb:=V13
 refine M10 (fn:=f155) func155 rfl (by kernel_rfl) (by kernel_rfl) (Nat.le_of_ble_eq_true (by kernel_rfl)) fun K hk=>?_
 refine A10 [] fun N E hN hE=>?_
 simp +decide only[ZS,↓reduceIte,Nat.reduceAdd]
 refine hN _ ?_
 clear hN hE N E
 refine I10 (A10 [] fun N E hN hE=>?_)
 simp +decide only[ZS,↓reduceIte,Nat.reduceAdd]
 refine hN _ ?_
 clear hN hE N E
 refine O10 rfl (fun hc=>?_) (fun hc=>?_)
 ·have hk17:e.k≠17:=by simpa using hc
  refine A10 [] fun N E hN hE=>?_
  simp +decide only[ZS,↓reduceIte,Nat.reduceAdd]
  refine D10 (distinct_c e.names hn hx) ?_
  simp +decide only[ZS,↓reduceIte,Nat.reduceAdd]
  refine hN _ ?_
  clear hN hE N E
  refine J10 (F10 2 rfl ?_)
  simp +decide only[ZS,↓reduceIte,Nat.reduceAdd]
  simpa[namesErr,hk17] using hk
 have hk17:e.k=17:=by simpa using hc
 have hlen:=hu hk17
 have h1:(1:Int)<=(e.names.length:Int):=by omega
 have h2:(0:Int)<=1:=by decide
 have h3:Int.toNat 1=1:=rfl
 refine G10 ?_
 refine I10 (A10 [] fun N E hN hE=>?_)
 simp +decide only[ZS,↓reduceIte,Nat.reduceAdd,K13,R10,h1,h2,h3,J13]
 refine D10 (distinct_c (e.names.take 1) (by rw[List.length_take];omega) (fun x h=>hx x (List.mem_of_mem_take h))) ?_
 simp +decide only[ZS,↓reduceIte,Nat.reduceAdd]
 refine hN _ ?_
 clear hN hE N E
 refine A10 [] fun N E hN hE=>?_
 simp +decide only[ZS,↓reduceIte,Nat.reduceAdd]
 refine hN _ ?_
 clear hN hE N E
 refine O10 rfl (fun hc=>?_) (fun hc=>?_)
 ·have hd:distinct (e.names.take 1)≠0:=by simpa using hc
  refine A10 [] fun N E hN hE=>?_
  simp +decide only[ZS,↓reduceIte,Nat.reduceAdd]
  refine hN _ ?_
  clear hN hE N E
  refine J10 (F10 2 rfl ?_)
  simp +decide only[ZS,↓reduceIte,Nat.reduceAdd]
  simpa[namesErr,hk17,hd] using hk
 have hd:distinct (e.names.take 1)=0:=by simpa using hc
 have hk:K (.ret (.int (uppersF [] (e.names.drop 1)))) H:=by simpa[namesErr,hk17,hd] using hk
 refine G10 ?_
 refine I10 (A10 [] fun N E hN hE=>?_)
 simp +decide only[ZS,↓reduceIte,Nat.reduceAdd]
 refine hN _ ?_
 clear hN hE N E
 refine K10 ?_
 refine Y10 (fun k s'=>1<=k/\k<=e.names.length/\uppersF [] (e.names.drop 1)=uppersF ((e.names.take k).drop 1) (e.names.drop k)/\s'.tmps 1=.ref e.av.cells/\s'.tmps 4=.int k/\s'.H=H/\s'.defs=[]) (fun k=>e.names.length-k) 1
  ⟨Nat.le_refl _,hlen,by simp,by rw[C10];rfl,rfl,rfl,rfl⟩ ?_
 rintro k ⟨tm,H',ds⟩ ⟨hk0,hk1,hk2,g1,g4,hH,hds⟩
 obtain rfl:H'=H:=hH
 obtain rfl:ds=[]:=hds
 rw[C10] at g1
 refine B10 1 _ g1 (B10 4 _ g4 ?_)
 refine I10 (A10 [] fun N E hN hE=>?_)
 simp +decide only[ZS,↓reduceIte,Nat.reduceAdd,R10]
 refine hN _ ?_
 clear hN hE N E
 refine O10 rfl (fun hc=>?_) (fun hc=>?_)
 ·have hlt:k<e.names.length:=by have:=of_decide_eq_true hc;omega
  have hxk:=hx e.names[k] (List.getElem_mem hlt)
  rw[drop_at hlt,uppersF] at hk2
  refine G10 ?_
  refine I10 (K10 ?_)
  refine I10 (A10 [] fun N E hN hE=>?_)
  simp +decide only[ZS,↓reduceIte,Nat.reduceAdd,O12 hlt,nat0,Int.toNat_natCast]
  refine D10 (isUpper_c e.names[k] (D13 hxk)) ?_
  simp +decide only[ZS,↓reduceIte,Nat.reduceAdd]
  refine hN _ ?_
  clear hN hE N E
  refine O10 rfl (fun hc=>?_) (fun hc=>?_)
  ·refine A10 [] fun N E hN hE=>?_
   simp +decide only[ZS,↓reduceIte,Nat.reduceAdd]
   refine hN _ ?_
   clear hN hE N E
   refine J10 (F10 2 rfl ?_)
   simp +decide only[ZS,↓reduceIte,Nat.reduceAdd]
   have hv:isUpper e.names[k]=false:=by simpa using hc
   rw[hk2,hv] at hk;exact hk
  have hv:isUpper e.names[k]=true:=by simpa using hc
  rw[hv,if_pos rfl] at hk2
  refine G10 ?_
  have hsl:(k:Int)<=(e.names.length:Int):=by omega
  have hsk:(1:Int)<=(k:Int):=by omega
  refine X12 [] 10 (by kernel_rfl) (by kernel_rfl) (by kernel_rfl) fun N E hN hE=>?_
  simp only[List.take,List.drop]
  simp +decide only[ZS,QS,↓reduceIte,Nat.reduceAdd,O12 hlt,nat0,Int.toNat_natCast,K13,R10,hsl,hsk,h2,h3,J13,strs_drop]
  refine V10 (has_c ((e.names.take k).drop 1) e.names[k] (by rw[List.length_drop,List.length_take];exact Nat.le_trans (Nat.sub_le _ _) (Nat.le_trans (Nat.min_le_right _ _) (D13 hn)))) ?_
  simp +decide only[ZS,QS,↓reduceIte,Nat.reduceAdd]
  refine hN _ ?_
  refine O10 rfl (fun hc=>?_) (fun hc=>?_)
  ·refine A10 [] fun N E hN hE=>?_
   simp +decide only[ZS,↓reduceIte,Nat.reduceAdd]
   refine hN _ ?_
   clear hN hE N E
   refine J10 (F10 2 rfl ?_)
   simp +decide only[ZS,↓reduceIte,Nat.reduceAdd]
   rw[hk2,if_pos hc] at hk;exact hk
  ·refine G10 ?_
   refine P10 [] fun N E hN hE=>?_
   simp +decide only[ZS,↓reduceIte,Nat.reduceAdd,wrapN (show k<9223372036854775807 by omega)]
   refine hN _ ?_
   clear hN hE N E
   refine ⟨k+1,⟨by omega,hlt,?_,by rw[C10];rfl,rfl,rfl,rfl⟩,by omega⟩
   rw[take_at hlt,hk2,hc,List.drop_append_of_le_length (by rw[List.length_take];omega)];rfl
 ·refine B11 ?_
  have hk3:k=e.names.length:=by have:=of_decide_eq_false hc;omega
  subst hk3
  refine A10 [] fun N E hN hE=>?_
  simp +decide only[ZS,↓reduceIte,Nat.reduceAdd]
  refine hN _ ?_
  clear hN hE N E
  refine J10 (F10 2 rfl ?_)
  simp +decide only[ZS,↓reduceIte,Nat.reduceAdd]
  rw[hk2,List.drop_length] at hk;exact hk
def retStr:ByteArray:=⟨#[114,101,116,117,114,110]⟩
def armArity (h first:Bool) (a:Ar):Bool:=(first&&(!decide (a.op=retStr)||!decide ((a.names.length:Int)=1)))||(h&&!first&&!decide ((a.names.length:Int)=2))||(!h&&decide ((4:Int)<a.names.length))
def armName (h first:Bool) (a:Ar):Bool:=(!first&&!cls a.op 2&&!h)||(!first&&h&&!cls a.op 1)
def armsF (h:Bool):List Ar->List Ar->Int
 |_,[]=>0
 |b,a::l=>if armArity h (h&&b.isEmpty) a then 7 else if armName h (h&&b.isEmpty) a then 4 else if distinct a.names=0 then (if (b.map Ar.op).any (fun o=>decide (o=a.op)) then 5 else armsF h (b++[a]) l) else distinct a.names
def armsErr (e:Ex):Int:=if armsF (!decide (e.k=11)) [] e.arms=0 then (if !decide (e.k=11)&&decide ((e.arms.length:Int)=0) then 7 else 0) else armsF (!decide (e.k=11)) [] e.arms
theorem arms_c (e:Ex) (hf:fit1 e):PureF prog G 156 [e.av] H (.int (armsErr e)):=by
 obtain ⟨_,_,_,_,hn,_,hx⟩:=hf
 have hbb:=V13
 refine M10 (fn:=f156) func156 rfl (by kernel_rfl) (by kernel_rfl) (Nat.le_of_ble_eq_true (by kernel_rfl)) fun K hk=>?_
 refine A10 [] fun N E hN hE=>?_
 simp +decide only[ZS,↓reduceIte,Nat.reduceAdd]
 refine hN _ ?_
 clear hN hE N E
 refine A10 [] fun N E hN hE=>?_
 simp +decide only[ZS,↓reduceIte,Nat.reduceAdd]
 refine hN _ ?_
 clear hN hE N E
 generalize hh:(!decide (e.k=11))=h
 unfold armsErr at hk
 rw[hh] at hk
 refine I10 (A10 [] fun N E hN hE=>?_)
 simp +decide only[ZS,↓reduceIte,Nat.reduceAdd]
 refine hN _ ?_
 clear hN hE N E
 refine K10 ?_
 refine VW_loopD (fun k s'=>k<=e.arms.length/\armsF h [] e.arms=armsF h (e.arms.take k) (e.arms.drop k)/\s'.tmps 1=.ref e.av.cells/\s'.tmps 3=.bool h/\s'.tmps 4=.int k/\s'.H=H/\s'.defs=[]) (fun k=>e.arms.length-k) 0
  ⟨Nat.zero_le _,rfl,by rw[C10];rfl,rfl,rfl,rfl,rfl⟩ ?_
 rintro k ⟨tm,H',ds⟩ ⟨hk1,hk2,g1,g3,g4,hH,hds⟩
 obtain rfl:H'=H:=hH
 obtain rfl:ds=[]:=hds
 rw[C10] at g1
 refine B10 1 _ g1 (B10 3 _ g3 (B10 4 _ g4 ?_))
 refine I10 (A10 [] fun N E hN hE=>?_)
 simp +decide only[ZS,↓reduceIte,Nat.reduceAdd,V11]
 refine hN _ ?_
 clear hN hE N E
 refine O10 rfl (fun hc=>?_) (fun hc=>?_)
 ·have hlt:k<e.arms.length:=by have:=of_decide_eq_true hc;omega
  obtain ⟨hx1,hx2,hx3⟩:=hx e.arms[k] (List.getElem_mem hlt)
  rw[drop_at hlt,armsF] at hk2
  generalize ha:e.arms[k]=a at *
  have hat:(ars e.arms)[k]?=some a.av:=by rw[ars_at hlt,ha]
  have hfirst:(e.arms.take k).isEmpty=decide ((k:Int)=0):=by
   rcases Nat.eq_zero_or_pos k with rfl|hk0
   ·rfl
   ·rw[decide_eq_false (by omega)]
    cases hq:e.arms.take k with
    |nil=>have:=congrArg List.length hq;rw[List.length_take,List.length_nil] at this;omega
    |cons x l=>rfl
  generalize hfi:(h&&(e.arms.take k).isEmpty)=first at hk2
  refine G10 ?_
  refine I10 (K10 ?_)
  refine A10 [] fun N E hN hE=>?_
  simp +decide only[ZS,↓reduceIte,Nat.reduceAdd,hat,nat0,Int.toNat_natCast]
  refine L10 fun b hb=>?_
  simp +decide only[ZS,↓reduceIte,Nat.reduceAdd]
  obtain ⟨Hb,hHb⟩:∃ Hb,Hb=H'.upd b (.cells 85 a.av.cells):=⟨_,rfl⟩
  have hd:Drop Hb H':=hHb▸Drop.upd hb
  have hbc:Hb b=some (.cells 85 a.av.cells):=by rw[hHb];exact HM.upd_same _ _ _
  rw[J12] at hHb hbc
  rw[<-hHb]
  clear hHb
  refine hN _ ?_
  clear hN hE N E
  refine C11 [] (fun s'=>s'.tmps 6=.bool first/\s'.tmps 1=tm 1/\s'.tmps 3=.bool h/\s'.tmps 4=.int k/\s'.tmps 5=.addr b 0/\s'.H=Hb/\s'.defs=[]) (fun N E hN hE=>?_) ?_
  ·clear hE hk
   simp +decide only[ZS,↓reduceIte,Nat.reduceAdd]
   refine U10 (fun hb=>?_) (fun hb=>?_)
   ·simp +decide only[ZS,↓reduceIte,Nat.reduceAdd,hb]
    refine hN _ ?_
    clear hN
    refine ⟨?_,?_,?_,?_,?_,?_,?_⟩
    all_goals first|rfl|assumption|(simp +decide only[ZS,↓reduceIte,Nat.reduceAdd]<;>simp_all)
   ·simp +decide only[ZS,↓reduceIte,Nat.reduceAdd,hb]
    refine hN _ ?_
    clear hN
    refine ⟨?_,?_,?_,?_,?_,?_,?_⟩
    all_goals first|rfl|assumption|(simp +decide only[ZS,↓reduceIte,Nat.reduceAdd]<;>simp_all)
  rintro ⟨tm1,H1,ds⟩ ⟨f6,f1,f3,f4,f5,gH,gds⟩
  obtain rfl:Hb=H1:=gH.symm
  obtain rfl:ds=[]:=gds
  simp only at f6 f1 f3 f4 f5 g1
  rw[g1] at f1
  refine B10 6 _ f6 (B10 1 _ f1 (B10 3 _ f3 (B10 4 _ f4 (B10 5 _ f5 ?_))))
  refine I10 (C11 [] (fun s'=>s'.tmps 63=.bool (armArity h first a)/\s'.tmps 6=.bool first/\s'.tmps 1=tm 1/\s'.tmps 3=.bool h/\s'.tmps 4=.int k/\s'.tmps 5=.addr b 0/\s'.H=Hb/\s'.defs=[]) (fun N E hN hE=>?_) ?_)
  ·clear hE hk
   simp +decide only[ZS,↓reduceIte,Nat.reduceAdd,R10,hbc]
   repeat' (refine U10 (fun hb=>?_) (fun hb=>?_)<;>simp +decide only[ZS,↓reduceIte,Nat.reduceAdd,R10,hbc, *])
   all_goals refine hN _ ?_
   all_goals clear hN
   all_goals refine ⟨?_,?_,?_,?_,?_,?_,?_,?_⟩
   all_goals first|rfl|assumption|(simp +decide only[ZS,↓reduceIte,Nat.reduceAdd]<;>simp_all[armArity,retStr])
  rintro ⟨tm2,H2,ds⟩ ⟨f63,f6,f1,f3,f4,f5,gH,gds⟩
  obtain rfl:Hb=H2:=gH.symm
  obtain rfl:ds=[]:=gds
  simp only at f63 f6 f1 f3 f4 f5 g1
  rw[g1] at f1
  refine B10 63 _ f63 (B10 6 _ f6 (B10 1 _ f1 (B10 3 _ f3 (B10 4 _ f4 (B10 5 _ f5 ?_)))))
  refine O10 rfl (fun hc=>?_) (fun hc=>?_)
  ·refine A10 [] fun N E hN hE=>?_
   simp +decide only[ZS,↓reduceIte,Nat.reduceAdd]
   refine hN _ ?_
   clear hN hE N E
   refine J10 (I12 2 rfl hd ?_)
   simp +decide only[ZS,↓reduceIte,Nat.reduceAdd]
   rw[hk2,if_pos hc] at hk;exact hk
  rw[hc,if_neg (by decide)] at hk2
  refine G10 ?_
  refine I10 (C11 [] (fun s'=>s'.tmps 88=.bool (armName h first a)/\s'.tmps 1=tm 1/\s'.tmps 3=.bool h/\s'.tmps 4=.int k/\s'.tmps 5=.addr b 0/\s'.H=Hb/\s'.defs=[]) (fun N E hN hE=>?_) ?_)
  ·clear hE hk
   simp +decide only[ZS,↓reduceIte,Nat.reduceAdd,hbc]
   repeat' (first|(refine U10 (fun hb=>?_) (fun hb=>?_)<;>simp +decide only[ZS,↓reduceIte,Nat.reduceAdd,hbc, *])|(refine D10 (class_c a.op _ (D13 hx1)) ?_<;>simp +decide only[ZS,↓reduceIte,Nat.reduceAdd,hbc, *]))
   all_goals refine hN _ ?_
   all_goals clear hN
   all_goals refine ⟨?_,?_,?_,?_,?_,?_,?_⟩
   all_goals first|rfl|assumption|(simp +decide only[ZS,↓reduceIte,Nat.reduceAdd]<;>simp_all[armName])
  rintro ⟨tm3,H2,ds⟩ ⟨f88,f1,f3,f4,f5,gH,gds⟩
  obtain rfl:Hb=H2:=gH.symm
  obtain rfl:ds=[]:=gds
  simp only at f88 f1 f3 f4 f5 g1
  rw[g1] at f1
  refine B10 88 _ f88 (B10 1 _ f1 (B10 3 _ f3 (B10 4 _ f4 (B10 5 _ f5 ?_))))
  refine O10 rfl (fun hc=>?_) (fun hc=>?_)
  ·refine A10 [] fun N E hN hE=>?_
   simp +decide only[ZS,↓reduceIte,Nat.reduceAdd]
   refine hN _ ?_
   clear hN hE N E
   refine J10 (I12 2 rfl hd ?_)
   simp +decide only[ZS,↓reduceIte,Nat.reduceAdd]
   rw[hk2,if_pos hc] at hk;exact hk
  rw[hc,if_neg (by decide)] at hk2
  refine G10 ?_
  refine I10 (A10 [] fun N E hN hE=>?_)
  simp +decide only[ZS,↓reduceIte,Nat.reduceAdd,hbc]
  refine D10 (distinct_c a.names hx2 hx3) ?_
  simp +decide only[ZS,↓reduceIte,Nat.reduceAdd]
  refine hN _ ?_
  clear hN hE N E
  refine A10 [] fun N E hN hE=>?_
  simp +decide only[ZS,↓reduceIte,Nat.reduceAdd]
  refine hN _ ?_
  clear hN hE N E
  refine O10 rfl (fun hc=>?_) (fun hc=>?_)
  ·have hdn:distinct a.names≠0:=by simpa using hc
   refine A10 [] fun N E hN hE=>?_
   simp +decide only[ZS,↓reduceIte,Nat.reduceAdd]
   refine hN _ ?_
   clear hN hE N E
   refine J10 (I12 2 rfl hd ?_)
   simp +decide only[ZS,↓reduceIte,Nat.reduceAdd]
   rw[hk2,if_neg hdn,if_neg hdn] at hk;exact hk
  have hdn:distinct a.names=0:=by simpa using hc
  rw[if_pos hdn] at hk2
  refine G10 ?_
  refine A10 [] fun N E hN hE=>?_
  simp +decide only[ZS,↓reduceIte,Nat.reduceAdd]
  refine hN _ ?_
  clear hN hE N E
  refine K10 ?_
  refine Y10 (fun j s'=>j<=k/\((e.arms.take j).map Ar.op).any (fun o=>decide (o=a.op))=false/\s'.tmps 1=tm 1/\s'.tmps 3=.bool h/\s'.tmps 4=.int k/\s'.tmps 5=.addr b 0/\s'.tmps 8=.int j/\s'.H=Hb/\s'.defs=[]) (fun j=>k-j) 0
   ⟨Nat.zero_le _,rfl,g1.symm,rfl,rfl,rfl,rfl,rfl,rfl⟩ ?_
  rintro j ⟨tm4,H2,ds⟩ ⟨hj1,hj2,f1,f3,f4,f5,f8,gH,gds⟩
  obtain rfl:Hb=H2:=gH.symm
  obtain rfl:ds=[]:=gds
  simp only at f1 f3 f4 f5 f8 g1
  rw[g1] at f1
  refine B10 1 _ f1 (B10 3 _ f3 (B10 4 _ f4 (B10 5 _ f5 (B10 8 _ f8 ?_))))
  refine I10 (A10 [] fun N E hN hE=>?_)
  simp +decide only[ZS,↓reduceIte,Nat.reduceAdd]
  refine hN _ ?_
  clear hN hE N E
  refine O10 rfl (fun hc=>?_) (fun hc=>?_)
  ·have hjk:j<k:=by have:=of_decide_eq_true hc;omega
   have hja:j<e.arms.length:=by omega
   have htj:((e.arms.take (j+1)).map Ar.op).any (fun o=>decide (o=a.op))=decide (e.arms[j].op=a.op):=by
    rw[take_at hja,List.map_append,List.any_append,hj2];simp
   refine G10 ?_
   refine I10 (K10 ?_)
   refine X12 [] 9 (by kernel_rfl) (by kernel_rfl) (by kernel_rfl) fun N E hN hE=>?_
   simp only[List.take,List.drop]
   simp +decide only[ZS,QS,↓reduceIte,Nat.reduceAdd,hbc,ars_at hja,nat0,Int.toNat_natCast]
   refine hN _ ?_
   refine O10 rfl (fun hc=>?_) (fun hc=>?_)
   ·refine A10 [] fun N E hN hE=>?_
    simp +decide only[ZS,↓reduceIte,Nat.reduceAdd]
    refine hN _ ?_
    clear hN hE N E
    refine J10 (I12 2 rfl hd ?_)
    simp +decide only[ZS,↓reduceIte,Nat.reduceAdd]
    have:((e.arms.take k).map Ar.op).any (fun o=>decide (o=a.op))=true:=by
     rw[List.any_eq_true]
     exact ⟨e.arms[j].op,List.mem_map_of_mem (List.mem_iff_getElem?.2 ⟨j,by rw[List.getElem?_take,if_pos hjk];simp[hja]⟩),hc⟩
    rw[hk2,if_pos this,if_neg (by decide)] at hk;exact hk
   ·refine G10 ?_
    refine P10 [] fun N E hN hE=>?_
    simp +decide only[ZS,↓reduceIte,Nat.reduceAdd,wrapN (show j<9223372036854775807 by omega)]
    refine hN _ ?_
    clear hN hE N E
    exact ⟨j+1,⟨hjk,by rw[htj];exact hc,g1.symm,rfl,rfl,rfl,rfl,rfl,rfl⟩,by omega⟩
  ·refine B11 ?_
   have hjk:j=k:=by have:=of_decide_eq_false hc;omega
   subst hjk
   rw[hj2,if_neg (by decide)] at hk2
   refine P10 [] fun N E hN hE=>?_
   simp +decide only[ZS,↓reduceIte,Nat.reduceAdd,wrapN (show j<9223372036854775807 by omega)]
   refine hN _ ?_
   clear hN hE N E
   refine ⟨j+1,H',hd,⟨hlt,by rw[hk2,take_at hlt,ha],by rw[C10];rfl,rfl,rfl,rfl,rfl⟩,by omega⟩
 ·refine B11 ?_
  have hk3:k=e.arms.length:=by have:=of_decide_eq_false hc;omega
  subst hk3
  rw[List.drop_length] at hk2
  rw[hk2,show armsF h (e.arms.take e.arms.length) []=0 from rfl,if_pos rfl] at hk
  refine I10 (A10 [] fun N E hN hE=>?_)
  simp +decide only[ZS,↓reduceIte,Nat.reduceAdd,V11]
  refine U10 (fun hb=>?_) (fun hb=>?_)
  ·simp +decide only[ZS,↓reduceIte,Nat.reduceAdd,hb,V11]
   refine hN _ ?_
   refine O10 rfl (fun hc=>?_) (fun hc=>?_)
   ·refine A10 [] fun N E hN hE=>?_
    simp +decide only[ZS,↓reduceIte,Nat.reduceAdd]
    refine hN _ ?_
    clear hN hE N E
    refine J10 (F10 2 rfl ?_)
    simp +decide only[ZS,↓reduceIte,Nat.reduceAdd]
    rw[hb,Bool.true_and,if_pos hc] at hk;exact hk
   ·refine G10 ?_
    refine A10 [] fun N E hN hE=>?_
    simp +decide only[ZS,↓reduceIte,Nat.reduceAdd]
    refine hN _ ?_
    clear hN hE N E
    refine J10 (F10 2 rfl ?_)
    simp +decide only[ZS,↓reduceIte,Nat.reduceAdd]
    rw[hb,Bool.true_and,if_neg (by rw[hc];decide)] at hk;exact hk
  ·simp +decide only[ZS,↓reduceIte,Nat.reduceAdd,hb]
   refine hN _ ?_
   refine O10 rfl (fun hc=>?_) (fun hc=>?_)
   ·cases hc
   ·refine G10 ?_
    refine A10 [] fun N E hN hE=>?_
    simp +decide only[ZS,↓reduceIte,Nat.reduceAdd]
    refine hN _ ?_
    clear hN hE N E
    refine J10 (F10 2 rfl ?_)
    simp +decide only[ZS,↓reduceIte,Nat.reduceAdd]
    rw[hb,Bool.false_and] at hk;exact hk
end
section
variable {G:GT} {H:HM}
structure Shape where
 S:Int
 T:Int
 Names:Int
 L:Int
 Arms:Bool
 Low:Int
 High:Int
def Shape.av (x:Shape):AV:=.agg [.int x.S,.int x.T,.int x.Names,.int x.L,.bool x.Arms,.int x.Low,.int x.High]
def shapes:List Shape:=[⟨1,0,0,0,false,0,0⟩,⟨0,0,0,0,false,-999999999,999999999⟩,⟨0,0,0,0,false,0,1⟩,⟨0,0,0,0,false,0,0⟩,⟨0,0,1,1,false,0,0⟩,⟨0,0,0,2,false,0,0⟩,⟨0,0,1,2,false,0,0⟩,
 ⟨0,0,2,2,false,0,0⟩,⟨0,0,0,3,false,0,0⟩,⟨3,0,0,2,false,0,0⟩,⟨2,0,0,0,false,0,0⟩,⟨0,0,0,1,true,0,0⟩,⟨1,0,0,1,false,0,0⟩,⟨1,1,0,1,false,0,0⟩,⟨2,0,0,1,true,0,1⟩,
 ⟨2,0,1,1,true,0,0⟩,⟨2,0,0,1,false,0,0⟩,⟨0,0,1,3,false,0,0⟩,⟨1,0,0,1,false,0,0⟩,⟨1,0,0,0,false,0,0⟩]
theorem shape_cells (x:Shape):x.av.cells=[.int x.S,.int x.T,.int x.Names,.int x.L,.bool x.Arms,.int x.Low,.int x.High]:=rfl
theorem shapes_c:PureF prog G 153 [] H (.list (shapes.map Shape.av)):=by
 refine M10 (fn:=f153) func153 rfl (by kernel_rfl) (by kernel_rfl) (Nat.le_of_ble_eq_true (by kernel_rfl)) fun K hk=>?_
 refine A10 [] fun N E hN hE=>?_
 simp +decide only[ZS,↓reduceIte,Nat.reduceAdd]
 refine hN _ ?_
 clear hN hE N E
 refine A10 [] fun N E hN hE=>?_
 simp +decide only[ZS,↓reduceIte,Nat.reduceAdd]
 refine ⟨bs_ok (by kernel_rfl) ?_,?_⟩
 ·intro x hx
  have:x∈shapes.map Shape.av:=hx
  obtain ⟨y,_,rfl⟩:=List.mem_map.1 this
  exact ⟨rfl,rfl⟩
 refine hN _ ?_
 refine J10 (F10 0 rfl ?_)
 simp +decide only[ZS,↓reduceIte,Nat.reduceAdd]
 exact hk
def nodeMany (x:Shape) (e:Ex):Bool:=decide ((e.names.length:Int)=x.Names)||(decide (e.k=17)&&decide ((1:Int)<=e.names.length)&&decide ((e.names.length:Int)<=13))
def nodeParts (x:Shape) (e:Ex):Bool:=decide ((e.l.length:Int)=x.L)||(decide (e.k=10)&&decide ((e.l.length:Int)<=4))
def nodeBad (x:Shape) (e:Ex):Bool:=!nodeMany x e||!nodeParts x e||(!x.Arms&&decide ((0:Int)<e.arms.length))||decide ((9:Int)<e.arms.length)
def nodeOf (x:Shape) (e:Ex):Int:=
 if decide (x.Low<=e.n)&&decide (e.n<=x.High) then
  if !cls e.s x.S||!cls e.t x.T then 4 else if nodeBad x e then 7 else if namesErr e=0 then (if x.Arms then armsErr e else 0) else namesErr e
 else 1
def nodeErr (e:Ex):Int:=if decide (0<=e.k)&&decide (e.k<=19) then (match shapes[e.k.toNat]? with|some x=>nodeOf x e|none=>1) else 1
theorem node_c (e:Ex) (hf:fit1 e):PureF prog G 128 [e.av] H (.int (nodeErr e)):=by
 have hf':=hf
 obtain ⟨hs1,hs2,hn,_,_,_,hx⟩:=hf
 have hbb:=V13
 refine M10 (fn:=f128) func128 rfl (by kernel_rfl) (by kernel_rfl) (Nat.le_of_ble_eq_true (by kernel_rfl)) fun K hk=>?_
 refine A10 [] fun N E hN hE=>?_
 simp +decide only[ZS,↓reduceIte,Nat.reduceAdd]
 refine hN _ ?_
 clear hN hE N E
 refine A10 [] fun N E hN hE=>?_
 simp +decide only[ZS,↓reduceIte,Nat.reduceAdd]
 refine D10 shapes_c ?_
 simp +decide only[ZS,↓reduceIte,Nat.reduceAdd]
 refine hN _ ?_
 clear hN hE N E
 have hl20:IntKind.i64.wrap (((shapes.map Shape.av).length:Int)-1)=19:=by decide
 refine I10 (A10 [] fun N E hN hE=>?_)
 simp +decide only[ZS,↓reduceIte,Nat.reduceAdd,hl20]
 refine D10 (in_c e.k 0 19) ?_
 simp +decide only[ZS,↓reduceIte,Nat.reduceAdd]
 refine hN _ ?_
 clear hN hE N E
 refine O10 rfl (fun hc=>?_) (fun hc=>?_)
 ·refine A10 [] fun N E hN hE=>?_
  simp +decide only[ZS,↓reduceIte,Nat.reduceAdd]
  refine hN _ ?_
  clear hN hE N E
  refine J10 (F10 2 rfl ?_)
  simp +decide only[ZS,↓reduceIte,Nat.reduceAdd]
  have:(decide (0<=e.k)&&decide (e.k<=19))=false:=by simpa only[Bool.not_eq_true'] using hc
  rw[nodeErr,this,if_neg (by decide)] at hk;exact hk
 have hin:(decide (0<=e.k)&&decide (e.k<=19))=true:=by simpa only[Bool.not_eq_false'] using hc
 have hk0:0<=e.k:=by simp at hin;omega
 have hk19:e.k.toNat<20:=by simp at hin;omega
 obtain ⟨x,hsx⟩:∃ x,shapes[e.k.toNat]?=some x:=⟨_,List.getElem?_eq_getElem (show e.k.toNat<shapes.length from hk19)⟩
 have hsa:(shapes.map Shape.av)[e.k.toNat]?=some x.av:=by rw[List.getElem?_map,hsx];rfl
 rw[nodeErr,hin,if_pos rfl,hsx] at hk
 simp only at hk
 refine G10 ?_
 refine A10 [] fun N E hN hE=>?_
 simp +decide only[ZS,↓reduceIte,Nat.reduceAdd,hk0,hsa,shape_cells]
 refine L10 fun b hb=>?_
 simp +decide only[ZS,↓reduceIte,Nat.reduceAdd,shape_cells]
 obtain ⟨Hb,hHb⟩:∃ Hb,Hb=H.upd b (.cells 180 x.av.cells):=⟨_,rfl⟩
 have hd:Drop Hb H:=hHb▸Drop.upd hb
 have hbc:Hb b=some (.cells 180 x.av.cells):=by rw[hHb];exact HM.upd_same _ _ _
 rw[shape_cells] at hHb hbc
 rw[<-hHb]
 clear hHb
 refine hN _ ?_
 clear hN hE N E
 refine I10 (A10 [] fun N E hN hE=>?_)
 simp +decide only[ZS,↓reduceIte,Nat.reduceAdd,hbc]
 refine D10 (in_c e.n x.Low x.High) ?_
 simp +decide only[ZS,↓reduceIte,Nat.reduceAdd]
 refine hN _ ?_
 clear hN hE N E
 rw[nodeOf] at hk
 refine O10 rfl (fun hc=>?_) (fun hc=>?_)
 ·refine A10 [] fun N E hN hE=>?_
  simp +decide only[ZS,↓reduceIte,Nat.reduceAdd]
  refine hN _ ?_
  clear hN hE N E
  refine J10 (I12 2 rfl hd ?_)
  simp +decide only[ZS,↓reduceIte,Nat.reduceAdd]
  have:(decide (x.Low<=e.n)&&decide (e.n<=x.High))=false:=by simpa only[Bool.not_eq_true'] using hc
  rw[this,if_neg (by decide)] at hk;exact hk
 have hlow:(decide (x.Low<=e.n)&&decide (e.n<=x.High))=true:=by simpa only[Bool.not_eq_false'] using hc
 rw[hlow,if_pos rfl] at hk
 refine G10 ?_
 refine I10 (C11 [] (fun s'=>s'.tmps 42=.bool (!cls e.s x.S||!cls e.t x.T)/\s'.tmps 1=.ref e.av.cells/\s'.tmps 4=.addr b 0/\s'.H=Hb/\s'.defs=[]) (fun N E hN hE=>?_) ?_)
 ·clear hE hk
  simp +decide only[ZS,↓reduceIte,Nat.reduceAdd,hbc]
  refine D10 (class_c e.s x.S (D13 hs1)) ?_
  simp +decide only[ZS,↓reduceIte,Nat.reduceAdd,hbc]
  refine U10 (fun hb=>?_) (fun hb=>?_)
  ·simp +decide only[ZS,↓reduceIte,Nat.reduceAdd,hbc,hb]
   refine hN _ ?_
   clear hN
   refine ⟨?_,?_,?_,?_,?_⟩
   all_goals first|rfl|assumption|(simp +decide only[ZS,↓reduceIte,Nat.reduceAdd]<;>simp_all)
  ·simp +decide only[ZS,↓reduceIte,Nat.reduceAdd,hbc,hb]
   refine D10 (class_c e.t x.T (D13 hs2)) ?_
   simp +decide only[ZS,↓reduceIte,Nat.reduceAdd,hbc,hb]
   refine hN _ ?_
   clear hN
   refine ⟨?_,?_,?_,?_,?_⟩
   all_goals first|rfl|assumption|(simp +decide only[ZS,↓reduceIte,Nat.reduceAdd]<;>simp_all)
 rintro ⟨tm1,H1,ds⟩ ⟨f42,f1,f4,gH,gds⟩
 obtain rfl:Hb=H1:=gH.symm
 obtain rfl:ds=[]:=gds
 rw[C10] at f1
 refine B10 42 _ f42 (B10 1 _ f1 (B10 4 _ f4 ?_))
 refine O10 rfl (fun hc=>?_) (fun hc=>?_)
 ·refine A10 [] fun N E hN hE=>?_
  simp +decide only[ZS,↓reduceIte,Nat.reduceAdd]
  refine hN _ ?_
  clear hN hE N E
  refine J10 (I12 2 rfl hd ?_)
  simp +decide only[ZS,↓reduceIte,Nat.reduceAdd]
  rw[if_pos hc] at hk;exact hk
 rw[hc,if_neg (by decide)] at hk
 refine G10 ?_
 refine C11 [] (fun s'=>s'.tmps 5=.bool (nodeMany x e)/\s'.tmps 1=.ref e.av.cells/\s'.tmps 4=.addr b 0/\s'.H=Hb/\s'.defs=[]) (fun N E hN hE=>?_) ?_
 ·clear hE hk
  simp +decide only[ZS,↓reduceIte,Nat.reduceAdd,hbc,R10]
  repeat' (refine U10 (fun hb=>?_) (fun hb=>?_)<;>simp +decide only[ZS,↓reduceIte,Nat.reduceAdd,hbc,R10, *])
  all_goals refine hN _ ?_
  all_goals clear hN
  all_goals refine ⟨?_,?_,?_,?_,?_⟩
  all_goals first|rfl|assumption|(simp +decide only[ZS,↓reduceIte,Nat.reduceAdd]<;>simp_all[nodeMany]<;>omega)
 rintro ⟨tm2,H1,ds⟩ ⟨f5,f1,f4,gH,gds⟩
 obtain rfl:Hb=H1:=gH.symm
 obtain rfl:ds=[]:=gds
 rw[C10] at f1
 refine B10 5 _ f5 (B10 1 _ f1 (B10 4 _ f4 ?_))
 refine C11 [] (fun s'=>s'.tmps 6=.bool (nodeParts x e)/\s'.tmps 5=.bool (nodeMany x e)/\s'.tmps 1=.ref e.av.cells/\s'.tmps 4=.addr b 0/\s'.H=Hb/\s'.defs=[]) (fun N E hN hE=>?_) ?_
 ·clear hE hk
  simp +decide only[ZS,↓reduceIte,Nat.reduceAdd,hbc,W10]
  repeat' (refine U10 (fun hb=>?_) (fun hb=>?_)<;>simp +decide only[ZS,↓reduceIte,Nat.reduceAdd,hbc,W10, *])
  all_goals refine hN _ ?_
  all_goals clear hN
  all_goals refine ⟨?_,?_,?_,?_,?_,?_⟩
  all_goals first|rfl|assumption|(simp +decide only[ZS,↓reduceIte,Nat.reduceAdd]<;>simp_all[nodeParts]<;>omega)
 rintro ⟨tm3,H1,ds⟩ ⟨f6,f5,f1,f4,gH,gds⟩
 obtain rfl:Hb=H1:=gH.symm
 obtain rfl:ds=[]:=gds
 rw[C10] at f1
 refine B10 6 _ f6 (B10 5 _ f5 (B10 1 _ f1 (B10 4 _ f4 ?_)))
 refine I10 (C11 [] (fun s'=>s'.tmps 105=.bool (nodeBad x e)/\s'.tmps 1=.ref e.av.cells/\s'.tmps 4=.addr b 0/\s'.H=Hb/\s'.defs=[]) (fun N E hN hE=>?_) ?_)
 ·clear hE hk
  simp +decide only[ZS,↓reduceIte,Nat.reduceAdd,hbc,V11]
  repeat' (refine U10 (fun hb=>?_) (fun hb=>?_)<;>simp +decide only[ZS,↓reduceIte,Nat.reduceAdd,hbc,V11, *])
  all_goals refine hN _ ?_
  all_goals clear hN
  all_goals refine ⟨?_,?_,?_,?_,?_⟩
  all_goals first|rfl|assumption|(simp +decide only[ZS,↓reduceIte,Nat.reduceAdd]<;>simp_all[nodeBad]<;>omega)
 rintro ⟨tm4,H1,ds⟩ ⟨f105,f1,f4,gH,gds⟩
 obtain rfl:Hb=H1:=gH.symm
 obtain rfl:ds=[]:=gds
 rw[C10] at f1
 refine B10 105 _ f105 (B10 1 _ f1 (B10 4 _ f4 ?_))
 refine O10 rfl (fun hc=>?_) (fun hc=>?_)
 ·refine A10 [] fun N E hN hE=>?_
  simp +decide only[ZS,↓reduceIte,Nat.reduceAdd]
  refine hN _ ?_
  clear hN hE N E
  refine J10 (I12 2 rfl hd ?_)
  simp +decide only[ZS,↓reduceIte,Nat.reduceAdd]
  rw[if_pos hc] at hk;exact hk
 rw[hc,if_neg (by decide)] at hk
 refine G10 ?_
 refine I10 (A10 [] fun N E hN hE=>?_)
 simp +decide only[ZS,↓reduceIte,Nat.reduceAdd]
 have hu:e.k=17->1<=e.names.length:=by
  intro h17
  rw[h17] at hsx
  have hxe:x=⟨0,0,1,3,false,0,0⟩:=by
   have:shapes[(17:Int).toNat]?=some ⟨0,0,1,3,false,0,0⟩:=rfl
   rw[this] at hsx;exact (Option.some.inj hsx).symm
  have hm:nodeMany x e=true:=by
   cases hq:nodeMany x e with
   |true=>rfl
   |false=>rw[nodeBad,hq] at hc;cases hc
  rw[hxe] at hm
  simp[nodeMany] at hm
  omega
 refine D10 (names_c e hf' hu) ?_
 simp +decide only[ZS,↓reduceIte,Nat.reduceAdd]
 refine hN _ ?_
 clear hN hE N E
 refine A10 [] fun N E hN hE=>?_
 simp +decide only[ZS,↓reduceIte,Nat.reduceAdd]
 refine hN _ ?_
 clear hN hE N E
 refine O10 rfl (fun hc=>?_) (fun hc=>?_)
 ·have hne:namesErr e≠0:=by simpa using hc
  refine A10 [] fun N E hN hE=>?_
  simp +decide only[ZS,↓reduceIte,Nat.reduceAdd]
  refine hN _ ?_
  clear hN hE N E
  refine J10 (I12 2 rfl hd ?_)
  simp +decide only[ZS,↓reduceIte,Nat.reduceAdd]
  rw[if_neg hne] at hk;exact hk
 have hne:namesErr e=0:=by simpa using hc
 rw[if_pos hne] at hk
 refine G10 ?_
 refine I10 (A10 [] fun N E hN hE=>?_)
 simp +decide only[ZS,↓reduceIte,Nat.reduceAdd,hbc]
 refine hN _ ?_
 clear hN hE N E
 refine O10 rfl (fun hc=>?_) (fun hc=>?_)
 ·refine A10 [] fun N E hN hE=>?_
  simp +decide only[ZS,↓reduceIte,Nat.reduceAdd]
  refine D10 (arms_c e hf') ?_
  simp +decide only[ZS,↓reduceIte,Nat.reduceAdd]
  refine hN _ ?_
  clear hN hE N E
  refine J10 (I12 2 rfl hd ?_)
  simp +decide only[ZS,↓reduceIte,Nat.reduceAdd]
  rw[if_pos hc] at hk;exact hk
 refine G10 ?_
 refine A10 [] fun N E hN hE=>?_
 simp +decide only[ZS,↓reduceIte,Nat.reduceAdd]
 refine hN _ ?_
 clear hN hE N E
 refine J10 (I12 2 rfl hd ?_)
 simp +decide only[ZS,↓reduceIte,Nat.reduceAdd]
 rw[if_neg (by rw[hc];decide)] at hk;exact hk
def firstErr:List Int->Int
 |[]=>0
 |r::rs=>if r=0 then firstErr rs else r
def checked:Ex->Int:=Ex.para fun e rs=>if nodeErr e=0 then firstErr rs else nodeErr e
theorem checked_eq (e:Ex):checked e=if nodeErr e=0 then firstErr (e.parts.map checked) else nodeErr e:=by
 unfold checked;rw[Ex.para_eq]
theorem checked_c (e:Ex):Fit e->PureF prog G 83 [e.av] H (.int (checked e)):=by
 induction e using Ex.ind with
 |step e ih=>
  intro hf
  have hbb:=V13
  have hlen:e.parts.length<9223372036854775807:=by
   have h1:=hf.one.2.2.2.1
   have h2:=hf.one.2.2.2.2.1
   rw[F11];omega
  refine M10 (fn:=f83) func83 rfl (by kernel_rfl) (by kernel_rfl) (Nat.le_of_ble_eq_true (by kernel_rfl)) fun K hk=>?_
  refine A10 [] fun N E hN hE=>?_
  simp +decide only[ZS,↓reduceIte,Nat.reduceAdd]
  refine hN _ ?_
  clear hN hE N E
  refine I10 (A10 [] fun N E hN hE=>?_)
  simp +decide only[ZS,↓reduceIte,Nat.reduceAdd]
  refine D10 (node_c e hf.one) ?_
  simp +decide only[ZS,↓reduceIte,Nat.reduceAdd]
  refine hN _ ?_
  clear hN hE N E
  refine A10 [] fun N E hN hE=>?_
  simp +decide only[ZS,↓reduceIte,Nat.reduceAdd]
  refine hN _ ?_
  clear hN hE N E
  rw[checked_eq] at hk
  refine O10 rfl (fun hc=>?_) (fun hc=>?_)
  ·have hne:nodeErr e≠0:=by simpa using hc
   refine A10 [] fun N E hN hE=>?_
   simp +decide only[ZS,↓reduceIte,Nat.reduceAdd]
   refine hN _ ?_
   clear hN hE N E
   refine J10 (F10 2 rfl ?_)
   simp +decide only[ZS,↓reduceIte,Nat.reduceAdd]
   rw[if_neg hne] at hk;exact hk
  have hne:nodeErr e=0:=by simpa using hc
  rw[if_pos hne] at hk
  refine G10 ?_
  refine A10 [] fun N E hN hE=>?_
  simp +decide only[ZS,↓reduceIte,Nat.reduceAdd]
  refine D10 (parts_c e hf.one) ?_
  simp +decide only[ZS,↓reduceIte,Nat.reduceAdd]
  refine hN _ ?_
  clear hN hE N E
  refine I10 (A10 [] fun N E hN hE=>?_)
  simp +decide only[ZS,↓reduceIte,Nat.reduceAdd]
  refine hN _ ?_
  clear hN hE N E
  refine K10 ?_
  refine Y10 (fun k s'=>k<=e.parts.length/\firstErr (e.parts.map checked)=firstErr ((e.parts.drop k).map checked)/\s'.tmps 4=.list (exs e.parts)/\s'.tmps 5=.int k/\s'.H=H/\s'.defs=[]) (fun k=>e.parts.length-k) 0
   ⟨Nat.zero_le _,rfl,rfl,rfl,rfl,rfl⟩ ?_
  rintro k ⟨tm,H',ds⟩ ⟨hk1,hk2,g4,g5,hH,hds⟩
  obtain rfl:H'=H:=hH
  obtain rfl:ds=[]:=hds
  refine B10 4 _ g4 (B10 5 _ g5 ?_)
  refine I10 (A10 [] fun N E hN hE=>?_)
  simp +decide only[ZS,↓reduceIte,Nat.reduceAdd,W10]
  refine hN _ ?_
  clear hN hE N E
  refine O10 rfl (fun hc=>?_) (fun hc=>?_)
  ·have hlt:k<e.parts.length:=by have:=of_decide_eq_true hc;omega
   have hmem:e.parts[k]∈e.parts:=List.getElem_mem hlt
   rw[drop_at hlt,List.map_cons,firstErr] at hk2
   refine G10 ?_
   refine I10 (K10 ?_)
   refine A10 [] fun N E hN hE=>?_
   simp +decide only[ZS,↓reduceIte,Nat.reduceAdd,exs_at hlt,nat0,Int.toNat_natCast]
   refine D10 (ih _ hmem (hf.part hmem)) ?_
   simp +decide only[ZS,↓reduceIte,Nat.reduceAdd]
   refine hN _ ?_
   clear hN hE N E
   refine A10 [] fun N E hN hE=>?_
   simp +decide only[ZS,↓reduceIte,Nat.reduceAdd]
   refine hN _ ?_
   clear hN hE N E
   refine O10 rfl (fun hc=>?_) (fun hc=>?_)
   ·have hne:checked e.parts[k]≠0:=by simpa using hc
    refine A10 [] fun N E hN hE=>?_
    simp +decide only[ZS,↓reduceIte,Nat.reduceAdd]
    refine hN _ ?_
    clear hN hE N E
    refine J10 (F10 2 rfl ?_)
    simp +decide only[ZS,↓reduceIte,Nat.reduceAdd]
    rw[hk2,if_neg hne] at hk;exact hk
   ·have hne:checked e.parts[k]=0:=by simpa using hc
    refine G10 ?_
    refine P10 [] fun N E hN hE=>?_
    simp +decide only[ZS,↓reduceIte,Nat.reduceAdd,wrapN (show k<9223372036854775807 by omega)]
    refine hN _ ?_
    clear hN hE N E
    exact ⟨k+1,⟨hlt,by rw[hk2,if_pos hne],rfl,rfl,rfl,rfl⟩,by omega⟩
  ·refine B11 ?_
   have hk3:k=e.parts.length:=by have:=of_decide_eq_false hc;omega
   subst hk3
   rw[List.drop_length] at hk2
   refine A10 [] fun N E hN hE=>?_
   simp +decide only[ZS,↓reduceIte,Nat.reduceAdd]
   refine hN _ ?_
   clear hN hE N E
   refine J10 (F10 2 rfl ?_)
   simp +decide only[ZS,↓reduceIte,Nat.reduceAdd]
   rw[hk2] at hk;exact hk
def check (e:Ex):Int:=if left e 3000 200<0 then 3 else checked e
theorem check_c (e:Ex) (hf:Fit e):PureF prog G 41 [e.av] H (.int (check e)):=by
 refine M10 (fn:=f41) func41 rfl (by kernel_rfl) (by kernel_rfl) (Nat.le_of_ble_eq_true (by kernel_rfl)) fun K hk=>?_
 refine A10 [] fun N E hN hE=>?_
 simp +decide only[ZS,↓reduceIte,Nat.reduceAdd]
 refine hN _ ?_
 clear hN hE N E
 refine I10 (A10 [] fun N E hN hE=>?_)
 simp +decide only[ZS,↓reduceIte,Nat.reduceAdd]
 refine D10 (left_c e hf 3000 200 (by decide) (by decide) (by decide) (by decide)) ?_
 simp +decide only[ZS,↓reduceIte,Nat.reduceAdd]
 refine hN _ ?_
 clear hN hE N E
 refine O10 rfl (fun hc=>?_) (fun hc=>?_)
 ·refine A10 [] fun N E hN hE=>?_
  simp +decide only[ZS,↓reduceIte,Nat.reduceAdd]
  refine hN _ ?_
  clear hN hE N E
  refine J10 (F10 2 rfl ?_)
  simp +decide only[ZS,↓reduceIte,Nat.reduceAdd]
  rw[check,if_pos (of_decide_eq_true hc)] at hk;exact hk
 refine G10 ?_
 refine A10 [] fun N E hN hE=>?_
 simp +decide only[ZS,↓reduceIte,Nat.reduceAdd]
 refine D10 (checked_c e hf) ?_
 simp +decide only[ZS,↓reduceIte,Nat.reduceAdd]
 refine hN _ ?_
 clear hN hE N E
 refine J10 (F10 2 rfl ?_)
 simp +decide only[ZS,↓reduceIte,Nat.reduceAdd]
 rw[check,if_neg (of_decide_eq_false hc)] at hk;exact hk
def size (e:Ex):Int:=if check e=0 then 3000-left e 3000 200 else 0
end
section
variable {G:GT} {H:HM}
def emp:ByteArray:=⟨#[]⟩
def occurs (e:Ex):ByteArray:=if decide (e.k=0)||decide (e.k=18)||decide (e.k=19) then e.s else emp
theorem occurs_c (e:Ex):PureF prog G 86 [e.av] H (.str (occurs e)):=by
 refine M10 (fn:=f86) func86 rfl (by kernel_rfl) (by kernel_rfl) (Nat.le_of_ble_eq_true (by kernel_rfl)) fun K hk=>?_
 refine A10 [] fun N E hN hE=>?_
 simp +decide only[ZS,↓reduceIte]
 refine hN _ ?_
 clear hN hE N E
 refine I10 (C11 [] (fun s'=>s'.tmps 15=.bool (decide (e.k=0)||decide (e.k=18)||decide (e.k=19))/\s'.tmps 1=.ref e.av.cells/\s'.H=H/\s'.defs=[]) (fun N E hN hE=>?_) ?_)
 ·clear hE hk
  simp +decide only[ZS,↓reduceIte]
  repeat' (refine U10 (fun hb=>?_) (fun hb=>?_)<;>simp +decide only[ZS,↓reduceIte, *])
  all_goals refine hN _ ?_
  all_goals clear hN
  all_goals refine ⟨?_,?_,?_,?_⟩
  all_goals first|rfl|assumption|(simp +decide only[ZS,↓reduceIte]<;>simp_all)
 rintro ⟨tm1,H1,ds⟩ ⟨f15,f1,gH,gds⟩
 obtain rfl:H=H1:=gH.symm
 obtain rfl:ds=[]:=gds
 rw[C10] at f1
 refine B10 15 _ f15 (B10 1 _ f1 ?_)
 refine O10 rfl (fun hc=>?_) (fun hc=>?_)
 ·refine A10 [] fun N E hN hE=>?_
  simp +decide only[ZS,↓reduceIte]
  refine hN _ ?_
  clear hN hE N E
  refine J10 (F10 2 rfl ?_)
  simp +decide only[ZS,↓reduceIte]
  rw[occurs,if_pos hc] at hk;exact hk
 ·refine G10 ?_
  refine A10 [] fun N E hN hE=>?_
  simp +decide only[ZS,↓reduceIte]
  refine hN _ ?_
  clear hN hE N E
  refine J10 (F10 2 rfl ?_)
  simp +decide only[ZS,↓reduceIte]
  rw[occurs,if_neg (by rw[hc];decide)] at hk;exact hk
def bound (e:Ex) (i:Nat):List ByteArray:=
 if e.l.length<=i then (match e.arms[i-e.l.length]? with|some a=>a.names|none=>[])
 else if e.k=4 then e.names
 else if e.k=6 then (if i=1 then e.names else [])
 else if e.k=7 then e.names.take (2-i)
 else if e.k=17 then (if i=2/\0<e.names.length then e.names.take 1 else [])
 else []
theorem bound_c (e:Ex) (i:Nat) (hf:fit1 e) (hi:i<e.parts.length) (hr:e.k=7->e.names.length=2/\e.l.length=2):PureF prog G 88 [e.av,.int i] H (.list (strs (bound e i))):=by
 have hbb:=V13
 have hpl:=F11 e
 obtain ⟨_,_,hn,hl,ha,_⟩:=hf
 refine M10 (fn:=f88) func88 rfl (by kernel_rfl) (by kernel_rfl) (Nat.le_of_ble_eq_true (by kernel_rfl)) fun K hk=>?_
 refine A10 [] fun N E hN hE=>?_
 simp +decide only[ZS,↓reduceIte]
 refine hN _ ?_
 clear hN hE N E
 refine I10 (A10 [] fun N E hN hE=>?_)
 simp +decide only[ZS,↓reduceIte,W10]
 refine hN _ ?_
 clear hN hE N E
 refine O10 rfl (fun hc=>?_) (fun hc=>?_)
 ·have hle:e.l.length<=i:=by have:=of_decide_eq_true hc;omega
  have hka:i-e.l.length<e.arms.length:=by omega
  have hsub:IntKind.i64.wrap ((i:Int)-(e.l.length:Int))=(i:Int)-e.l.length:=wrap64 (by omega) (by omega)
  have htn:((i:Int)-(e.l.length:Int)).toNat=i-e.l.length:=by omega
  have hge:(0:Int)<=(i:Int)-(e.l.length:Int):=by omega
  refine A10 [] fun N E hN hE=>?_
  simp +decide only[ZS,↓reduceIte,W10,hsub,hge,htn,ars_at hka]
  refine hN _ ?_
  clear hN hE N E
  refine J10 (F10 4 rfl ?_)
  simp +decide only[ZS,↓reduceIte]
  rw[bound,if_pos hle,List.getElem?_eq_getElem hka] at hk;exact hk
 have hle:¬ e.l.length<=i:=by have:=of_decide_eq_false hc;omega
 rw[bound,if_neg hle] at hk
 refine G10 ?_
 refine I10 (A10 [] fun N E hN hE=>?_)
 simp +decide only[ZS,↓reduceIte]
 refine hN _ ?_
 clear hN hE N E
 refine K10 ?_
 refine A10 [] fun N E hN hE=>?_
 simp +decide only[ZS,↓reduceIte]
 refine hN _ ?_
 clear hN hE N E
 refine O10 rfl (fun hc=>?_) (fun hc=>?_)
 ·have h4:e.k=4:=of_decide_eq_true hc
  refine A10 [] fun N E hN hE=>?_
  simp +decide only[ZS,↓reduceIte]
  refine hN _ ?_
  clear hN hE N E
  refine J10 (F10 4 rfl ?_)
  simp +decide only[ZS,↓reduceIte]
  rw[if_pos h4] at hk;exact hk
 have h4:¬ e.k=4:=of_decide_eq_false hc
 rw[if_neg h4] at hk
 refine A10 [] fun N E hN hE=>?_
 simp +decide only[ZS,↓reduceIte]
 refine hN _ ?_
 clear hN hE N E
 refine O10 rfl (fun hc=>?_) (fun hc=>?_)
 ·have h6:e.k=6:=of_decide_eq_true hc
  rw[if_pos h6] at hk
  refine A10 [] fun N E hN hE=>?_
  simp +decide only[ZS,↓reduceIte]
  refine hN _ ?_
  clear hN hE N E
  refine O10 rfl (fun hc=>?_) (fun hc=>?_)
  ·have hi1:i=1:=by have:=of_decide_eq_true hc;omega
   refine A10 [] fun N E hN hE=>?_
   simp +decide only[ZS,↓reduceIte]
   refine hN _ ?_
   clear hN hE N E
   refine J10 (F10 4 rfl ?_)
   simp +decide only[ZS,↓reduceIte]
   rw[if_pos hi1] at hk;exact hk
  ·have hi1:¬ i=1:=by have:=of_decide_eq_false hc;omega
   rw[if_neg hi1] at hk
   refine G10 ?_
   refine A10 [] fun N E hN hE=>?_
   simp +decide only[ZS,↓reduceIte]
   refine hN _ ?_
   clear hN hE N E
   exact J10 (Fin_drop (L11 4 rfl) (Drop.refl _) View.nilr hk)
 have h6:¬ e.k=6:=of_decide_eq_false hc
 rw[if_neg h6] at hk
 refine A10 [] fun N E hN hE=>?_
 simp +decide only[ZS,↓reduceIte]
 refine hN _ ?_
 clear hN hE N E
 refine O10 rfl (fun hc=>?_) (fun hc=>?_)
 ·have h7:e.k=7:=of_decide_eq_true hc
  rw[if_pos h7] at hk
  obtain ⟨hr1,hr2⟩:=hr h7
  have hw:IntKind.i64.wrap (2-(i:Int))=2-(i:Int):=wrap64 (by omega) (by omega)
  have hb1:(0:Int)<=2-(i:Int):=by omega
  have hb2:2-(i:Int)<=(e.names.length:Int):=by omega
  have hb3:(2-(i:Int)).toNat=2-i:=by omega
  refine A10 [] fun N E hN hE=>?_
  simp +decide only[ZS,↓reduceIte,hw,hb1,hb2,hb3,K13,R10,J13]
  refine hN _ ?_
  clear hN hE N E
  refine J10 (F10 4 rfl ?_)
  simp +decide only[ZS,↓reduceIte]
  exact hk
 have h7:¬ e.k=7:=of_decide_eq_false hc
 rw[if_neg h7] at hk
 refine A10 [] fun N E hN hE=>?_
 simp +decide only[ZS,↓reduceIte]
 refine hN _ ?_
 clear hN hE N E
 refine O10 rfl (fun hc=>?_) (fun hc=>?_)
 ·have h17:e.k=17:=of_decide_eq_true hc
  rw[if_pos h17] at hk
  refine C11 [] (fun s'=>s'.tmps 48=.bool (decide ((i:Int)=2)&&decide ((0:Int)<e.names.length))/\s'.tmps 2=.ref e.av.cells/\s'.H=H/\s'.defs=[]) (fun N E hN hE=>?_) ?_
  ·clear hE hk
   simp +decide only[ZS,↓reduceIte,R10]
   repeat' (refine U10 (fun hb=>?_) (fun hb=>?_)<;>simp +decide only[ZS,↓reduceIte,R10, *])
   all_goals refine hN _ ?_
   all_goals clear hN
   all_goals refine ⟨?_,?_,?_,?_⟩
   all_goals first|rfl|assumption|(simp +decide only[ZS,↓reduceIte]<;>simp_all)
  rintro ⟨tm1,H1,ds⟩ ⟨f48,f2,gH,gds⟩
  obtain rfl:H=H1:=gH.symm
  obtain rfl:ds=[]:=gds
  rw[C10] at f2
  refine B10 48 _ f48 (B10 2 _ f2 ?_)
  refine O10 rfl (fun hc=>?_) (fun hc=>?_)
  ·simp only[Bool.and_eq_true,decide_eq_true_eq] at hc
   have hb1:(1:Int)<=(e.names.length:Int):=by omega
   have hb2:(0:Int)<=1:=by decide
   have hb3:(1:Int).toNat=1:=rfl
   refine A10 [] fun N E hN hE=>?_
   simp +decide only[ZS,↓reduceIte,hb1,hb2,hb3,K13,R10,J13]
   refine hN _ ?_
   clear hN hE N E
   refine J10 (F10 4 rfl ?_)
   simp +decide only[ZS,↓reduceIte]
   rw[if_pos ⟨by omega,by omega⟩] at hk;exact hk
  ·simp only[Bool.and_eq_false_iff,decide_eq_false_iff_not] at hc
   rw[if_neg (by omega)] at hk
   refine G10 ?_
   refine A10 [] fun N E hN hE=>?_
   simp +decide only[ZS,↓reduceIte]
   refine hN _ ?_
   clear hN hE N E
   exact J10 (Fin_drop (L11 4 rfl) (Drop.refl _) View.nilr hk)
 have h17:¬ e.k=17:=of_decide_eq_false hc
 rw[if_neg h17] at hk
 refine G10 ?_
 refine A10 [] fun N E hN hE=>?_
 simp +decide only[ZS,↓reduceIte]
 refine hN _ ?_
 clear hN hE N E
 exact J10 (Fin_drop (L11 4 rfl) (Drop.refl _) View.nilr hk)
def minus (l less:List ByteArray):List ByteArray:=less.foldl without l
theorem without_len (l:List ByteArray) (s:ByteArray):(without l s).length<=l.length:=List.length_filter_le _ _
theorem minus_len (l less:List ByteArray):(minus l less).length<=l.length:=by
 unfold minus
 induction less generalizing l with
 |nil=>exact Nat.le_refl _
 |cons x less ih=>exact Nat.le_trans (ih _) (without_len l x)
theorem minus_c (l less:List ByteArray) (hl:l.length<=lim) (hl2:less.length<=lim):PureF prog G 90 [.list (strs l),.list (strs less)] H (.list (strs (minus l less))):=by
 have hlim:lim<9223372036854775807:=by decide
 refine M10 (fn:=f90) func90 rfl (by kernel_rfl) (by kernel_rfl) (Nat.le_of_ble_eq_true (by kernel_rfl)) fun K hk=>?_
 refine A10 [] fun N E hN hE=>?_
 simp +decide only[ZS,↓reduceIte]
 refine hN _ ?_
 clear hN hE N E
 refine I10 (A10 [] fun N E hN hE=>?_)
 simp +decide only[ZS,↓reduceIte]
 refine hN _ ?_
 clear hN hE N E
 refine K10 ?_
 refine Y10 (fun k s'=>k<=less.length/\s'.tmps 0=.list (strs (minus l (less.take k)))/\s'.tmps 1=.list (strs less)/\s'.tmps 5=.int k/\s'.H=H/\s'.defs=[]) (fun k=>less.length-k) 0 ⟨Nat.zero_le _,rfl,rfl,rfl,rfl,rfl⟩ ?_
 rintro k ⟨tm,H',ds⟩ ⟨hk1,h0,h1,h5,hH,hds⟩
 obtain rfl:H'=H:=hH
 obtain rfl:ds=[]:=hds
 refine B10 0 _ h0 (B10 1 _ h1 (B10 5 _ h5 ?_))
 refine I10 (A10 [] fun N E hN hE=>?_)
 simp +decide only[ZS,↓reduceIte,R10]
 refine hN _ ?_
 clear hN hE N E
 refine O10 rfl (fun hc=>?_) (fun hc=>?_)
 ·have hlt:k<less.length:=by have:=of_decide_eq_true hc;omega
  refine G10 ?_
  refine I10 (K10 ?_)
  refine P10 [] fun N E hN hE=>?_
  simp +decide only[ZS,↓reduceIte,O12 hlt,nat0,Int.toNat_natCast]
  refine D10 (without_c (minus l (less.take k)) less[k] (Nat.le_trans (minus_len _ _) hl)) ?_
  simp +decide only[ZS,↓reduceIte]
  refine hN _ ?_
  clear hN hE N E
  refine P10 [] fun N E hN hE=>?_
  simp +decide only[ZS,↓reduceIte,wrapN (show k<9223372036854775807 by omega)]
  refine hN _ ?_
  clear hN hE N E
  refine ⟨k+1,⟨hlt,?_,rfl,rfl,rfl,rfl⟩,by omega⟩
  simp +decide only[ZS,↓reduceIte]
  rw[take_at hlt];simp only[minus,List.foldl_append,List.foldl_cons,List.foldl_nil]
 ·refine B11 ?_
  have hk3:k=less.length:=by have:=of_decide_eq_false hc;omega
  subst hk3
  rw[List.take_length] at h0
  refine A10 [] fun N E hN hE=>?_
  simp +decide only[ZS,↓reduceIte]
  refine hN _ ?_
  clear hN hE N E
  refine J10 (F10 4 rfl ?_)
  simp +decide only[ZS,↓reduceIte]
  rw[List.take_length];exact hk
def ins (x:ByteArray):List ByteArray->List ByteArray
 |[]=>[x]
 |y::l=>if strLt x y then x::y::l else y::ins x l
def addS (l more:List ByteArray):List ByteArray:=more.foldl (fun l x=>if has l x then l else ins x l) l
def anyLt (x:ByteArray) (l:List ByteArray):Bool:=l.any fun y=>strLt x y
theorem ins_none {x:ByteArray}:∀ {l:List ByteArray},anyLt x l=false->ins x l=l++[x]
 |[],_=>rfl
 |y::l,h=>by
  simp only[anyLt,List.any_cons,Bool.or_eq_false_iff] at h
  simp only[ins,h.1,List.cons_append]
  rw[if_neg (by decide),ins_none h.2]
theorem ins_snoc_any {x y:ByteArray}:∀ {l:List ByteArray},anyLt x l=true->ins x (l++[y])=ins x l++[y]
 |[],h=>by simp[anyLt] at h
 |z::l,h=>by
  simp only[List.cons_append,ins]
  by_cases hz:strLt x z=true
  ·simp[hz]
  ·simp only[Bool.not_eq_true] at hz
   rw[hz,if_neg (by decide),if_neg (by decide)]
   have:anyLt x l=true:=by simpa[anyLt,hz] using h
   rw[ins_snoc_any this];rfl
theorem ins_snoc_none {x y:ByteArray}:∀ {l:List ByteArray},anyLt x l=false->strLt x y=true->ins x (l++[y])=l++[x,y]
 |[],_,hy=>by simp[ins,hy]
 |z::l,h,hy=>by
  simp only[anyLt,List.any_cons,Bool.or_eq_false_iff] at h
  simp only[List.cons_append,ins,h.1]
  rw[if_neg (by decide),ins_snoc_none h.2 hy]
def pre (x:ByteArray) (l:List ByteArray):List ByteArray:=if anyLt x l then ins x l else l
theorem anyLt_snoc (x y:ByteArray) (l:List ByteArray):anyLt x (l++[y])=(anyLt x l||strLt x y):=by simp[anyLt]
theorem pre_snoc (x y:ByteArray) (l:List ByteArray):pre x (l++[y])=if anyLt x l then pre x l++[y] else if strLt x y then pre x l++[x]++[y] else pre x l++[y]:=by
 unfold pre
 rw[anyLt_snoc]
 cases h:anyLt x l with
 |true=>simp[ins_snoc_any h]
 |false=>
  cases hy:strLt x y with
  |true=>simp[ins_snoc_none h hy]
  |false=>simp
theorem pre_ins (x:ByteArray) (l:List ByteArray):ins x l=if anyLt x l then pre x l else pre x l++[x]:=by
 unfold pre
 cases h:anyLt x l with
 |true=>simp
 |false=>simp[ins_none h]
theorem ins_len (x:ByteArray):∀ l:List ByteArray,(ins x l).length=l.length+1
 |[]=>rfl
 |y::l=>by
  unfold ins
  split
  ·rfl
  ·simp[ins_len x l]
theorem pre_len (x:ByteArray) (l:List ByteArray):(pre x l).length<=l.length+1:=by
 unfold pre;split
 ·rw[ins_len];exact Nat.le_refl _
 ·omega
theorem addS_len (l more:List ByteArray):(addS l more).length<=l.length+more.length:=by
 unfold addS
 induction more generalizing l with
 |nil=>simp
 |cons x more ih=>
  simp only[List.foldl_cons,List.length_cons]
  refine Nat.le_trans (ih _) ?_
  split
  ·omega
  ·rw[ins_len];omega
end
section
variable {G:GT} {H:HM}
theorem add_c (l more:List ByteArray) (hl:l.length+more.length+2<=lim):PureF prog G 89 [.list (strs l),.list (strs more)] H (.list (strs (addS l more))):=by
 have hlim:lim<9223372036854775807:=by decide
 refine M10 (fn:=f89) func89 rfl (by kernel_rfl) (by kernel_rfl) (Nat.le_of_ble_eq_true (by kernel_rfl)) fun K hk=>?_
 refine A10 [] fun N E hN hE=>?_
 simp +decide only[ZS,↓reduceIte]
 refine hN _ ?_
 clear hN hE N E
 refine I10 (A10 [] fun N E hN hE=>?_)
 simp +decide only[ZS,↓reduceIte]
 refine hN _ ?_
 clear hN hE N E
 refine K10 ?_
 refine Y10 (fun k s'=>k<=more.length/\s'.tmps 0=.list (strs (addS l (more.take k)))/\s'.tmps 1=.list (strs more)/\s'.tmps 5=.int k/\s'.H=H/\s'.defs=[]) (fun k=>more.length-k) 0 ⟨Nat.zero_le _,rfl,rfl,rfl,rfl,rfl⟩ ?_
 rintro k ⟨tm,H',ds⟩ ⟨hk1,h0,h1,h5,hH,hds⟩
 obtain rfl:H'=H:=hH
 obtain rfl:ds=[]:=hds
 refine B10 0 _ h0 (B10 1 _ h1 (B10 5 _ h5 ?_))
 refine I10 (A10 [] fun N E hN hE=>?_)
 simp +decide only[ZS,↓reduceIte,R10]
 refine hN _ ?_
 clear hN hE N E
 refine O10 rfl (fun hc=>?_) (fun hc=>?_)
 ·have hlt:k<more.length:=by have:=of_decide_eq_true hc;omega
  have htk:addS l (more.take (k+1))=if has (addS l (more.take k)) more[k] then addS l (more.take k) else ins more[k] (addS l (more.take k)):=by
   rw[take_at hlt];unfold addS;rw[List.foldl_append];rfl
  have hal:=addS_len l (more.take k)
  rw[List.length_take] at hal
  generalize addS l (more.take k)=a at *
  have hx1:=O12 hlt
  generalize more[k]=x at *
  have hwk:=wrapN (show k<9223372036854775807 by omega)
  refine G10 ?_
  refine I10 (K10 ?_)
  refine I10 (A10 [] fun N E hN hE=>?_)
  simp +decide only[ZS,↓reduceIte,hx1,nat0,Int.toNat_natCast]
  refine D10 (has_c a x (by omega)) ?_
  simp +decide only[ZS,↓reduceIte]
  refine hN _ ?_
  clear hN hE N E
  refine O10 rfl (fun hc=>?_) (fun hc=>?_)
  ·refine B11 ?_
   refine P10 [] fun N E hN hE=>?_
   simp +decide only[ZS,↓reduceIte,hwk]
   refine hN _ ?_
   clear hN hE N E
   refine ⟨k+1,⟨hlt,?_,rfl,rfl,rfl,rfl⟩,by omega⟩
   simp +decide only[ZS,↓reduceIte]
   rw[htk,if_pos hc]
  rw[if_neg (by rw[hc];decide)] at htk
  refine G10 ?_
  refine A10 [] fun N E hN hE=>?_
  simp +decide only[ZS,↓reduceIte]
  refine hN _ ?_
  clear hN hE N E
  refine A10 [] fun N E hN hE=>?_
  simp +decide only[ZS,↓reduceIte]
  refine hN _ ?_
  clear hN hE N E
  refine I10 (A10 [] fun N E hN hE=>?_)
  simp +decide only[ZS,↓reduceIte]
  refine hN _ ?_
  clear hN hE N E
  refine K10 ?_
  refine Y10 (fun j s'=>j<=a.length/\OutG H' s'.H (s'.tmps 6) 9 1 (strs (pre x (a.take j)))/\s'.tmps 7=.bool (anyLt x (a.take j))/\s'.tmps 8=.int j/\s'.tmps 0=.list (strs a)/\s'.tmps 1=.list (strs more)/\s'.tmps 5=.int k/\s'.defs=[]) (fun j=>a.length-j) 0
   ⟨Nat.zero_le _,OutG.nil (Drop.refl H') 9 1,rfl,rfl,rfl,rfl,rfl,rfl⟩ ?_
  rintro j ⟨tm2,H2,ds⟩ ⟨hj1,ho,f7,f8,f0,f1,f5,hds⟩
  obtain rfl:ds=[]:=hds
  simp only at ho
  generalize g6:tm2 6=out at ho
  refine B10 6 _ g6 (B10 7 _ f7 (B10 8 _ f8 (B10 0 _ f0 (B10 1 _ f1 (B10 5 _ f5 ?_)))))
  refine I10 (A10 [] fun N E hN hE=>?_)
  simp +decide only[ZS,↓reduceIte,R10]
  refine hN _ ?_
  clear hN hE N E
  refine O10 rfl (fun hc=>?_) (fun hc=>?_)
  ·have hjt:j<a.length:=by have:=of_decide_eq_true hc;omega
   have hy1:=O12 hjt
   have htj:=take_at hjt
   have hps:=pre_snoc x a[j] (a.take j)
   have hpl:=pre_len x (a.take j)
   rw[List.length_take] at hpl
   have hal2:=anyLt_snoc x a[j] (a.take j)
   rw[<-htj] at hps hal2
   have hwj:=wrapN (show j<9223372036854775807 by omega)
   generalize a[j]=y at *
   generalize pre x (a.take j)=p at *
   generalize anyLt x (a.take j)=dn at *
   refine G10 ?_
   refine I10 (K10 ?_)
   refine VW_seqC (fun s'=>∃ p',OutG H' s'.H (s'.tmps 6) 9 1 (strs p')/\p'.length<=a.length+1/\pre x (a.take (j+1))=p'++[y]/\s'.tmps 7=.bool (anyLt x (a.take (j+1)))/\s'.tmps 8=.int j/\s'.tmps 0=.list (strs a)/\s'.tmps 1=.list (strs more)/\s'.tmps 5=.int k/\s'.defs=[]) ?_ ?_
   ·refine VW_regqC [] (fun s'=>s'.tmps 39=.bool (!dn&&strLt x y)/\s'.tmps 6=out/\s'.tmps 7=.bool dn/\s'.tmps 8=.int j/\s'.tmps 0=.list (strs a)/\s'.tmps 1=.list (strs more)/\s'.tmps 5=.int k/\s'.H=H2/\s'.defs=[]) 13 (by kernel_rfl) (by kernel_rfl) (by kernel_rfl) (fun N E hN hE=>?_) ?_
    ·clear hE hk
     simp only[List.take,List.drop]
     simp +decide only[ZS,QS,↓reduceIte,hx1,hy1,nat0,Int.toNat_natCast]
     refine qgd_split (fun hb=>?_) (fun hb=>?_)
     ·simp +decide only[ZS,QS,↓reduceIte,hx1,hy1,nat0,Int.toNat_natCast,hb]
      refine hN _ ?_
      clear hN
      refine ⟨?_,?_,?_,?_,?_,?_,?_,?_,?_⟩
      all_goals first|rfl|assumption|(simp +decide only[ZS,↓reduceIte]<;>simp_all)
     ·simp +decide only[ZS,QS,↓reduceIte,hx1,hy1,nat0,Int.toNat_natCast,hb]
      refine hN _ ?_
      clear hN
      refine ⟨?_,?_,?_,?_,?_,?_,?_,?_,?_⟩
      all_goals first|rfl|assumption|(simp +decide only[ZS,↓reduceIte]<;>simp_all)
    rintro ⟨tm3,H3,ds⟩ ⟨e39,e6,e7,e8,e0,e1,e5,gH,gds⟩
    obtain rfl:H2=H3:=gH.symm
    obtain rfl:ds=[]:=gds
    refine B10 39 _ e39 (B10 6 _ e6 (B10 7 _ e7 (B10 8 _ e8 (B10 0 _ e0 (B10 1 _ e1 (B10 5 _ e5 ?_))))))
    refine O10 rfl (fun hc=>?_) (fun hc=>?_)
    ·simp only[Bool.and_eq_true,Bool.not_eq_true'] at hc
     obtain ⟨hdn,hlt2⟩:=hc
     refine A10 [] fun N E hN hE=>?_
     simp +decide only[ZS,↓reduceIte,hx1,nat0,Int.toNat_natCast]
     refine ⟨bs_ok (by kernel_rfl) (B12 ⟨rfl,rfl⟩),?_⟩
     refine T12 (by kernel_rfl) ho rfl (fun _ _ _ e=>by cases e) (B12 rfl) (by rw[R10];simp;omega) fun v' H3 ho'=>?_
     rw[T10]
     simp +decide only[ZS,↓reduceIte]
     refine hN _ ?_
     clear hN hE N E
     refine P10 [] fun N E hN hE=>?_
     simp +decide only[ZS,↓reduceIte]
     refine hN _ ?_
     clear hN hE N E
     refine ⟨p++[x],by simp +decide only[ZS,↓reduceIte];simpa[strs] using ho',by simp;omega,by rw[hps,hdn,hlt2];rfl,?_,rfl,rfl,rfl,rfl,rfl⟩
     simp +decide only[ZS,↓reduceIte]
     rw[hal2,hlt2,Bool.or_true]
    ·refine G10 ?_
     refine ⟨p,ho,by omega,?_,?_,rfl,rfl,rfl,rfl,rfl⟩
     ·rw[hps]
      cases hd:dn with
      |true=>rfl
      |false=>rw[hd] at hc;simp only[Bool.not_false,Bool.true_and] at hc;rw[hc];rfl
     ·simp +decide only[ZS,↓reduceIte]
      rw[hal2]
      cases hd:dn with
      |true=>rfl
      |false=>rw[hd] at hc;simp only[Bool.not_false,Bool.true_and] at hc;rw[hc];rfl
   rintro ⟨tm4,H4,ds⟩ ⟨p',ho',hp1,hp2,d7,d8,d0,d1,d5,gds⟩
   obtain rfl:ds=[]:=gds
   simp only at ho'
   generalize d6:tm4 6=out' at ho'
   refine B10 6 _ d6 (B10 7 _ d7 (B10 8 _ d8 (B10 0 _ d0 (B10 1 _ d1 (B10 5 _ d5 ?_)))))
   refine P10 [] fun N E hN hE=>?_
   simp +decide only[ZS,↓reduceIte,hy1,nat0,Int.toNat_natCast]
   refine ⟨bs_ok (by kernel_rfl) (B12 ⟨rfl,rfl⟩),?_⟩
   refine T12 (by kernel_rfl) ho' rfl (fun _ _ _ e=>by cases e) (B12 rfl) (by rw[R10];simp;omega) fun v' H5 ho2=>?_
   rw[T10]
   simp +decide only[ZS,↓reduceIte]
   refine hN _ ?_
   clear hN hE N E
   refine P10 [] fun N E hN hE=>?_
   simp +decide only[ZS,↓reduceIte,hwj]
   refine hN _ ?_
   clear hN hE N E
   refine ⟨j+1,⟨hjt,?_,rfl,rfl,rfl,rfl,rfl,rfl⟩,by omega⟩
   simp +decide only[ZS,↓reduceIte]
   rw[hp2];simpa[strs] using ho2
  ·refine B11 ?_
   have hj3:j=a.length:=by have:=of_decide_eq_false hc;omega
   subst hj3
   have hpi:=pre_ins x a
   have hpl:=pre_len x a
   rw[List.take_length] at ho
   simp only[List.take_length]
   generalize pre x a=p at *
   generalize anyLt x a=dn at *
   refine VW_seqC (fun s'=>OutG H' s'.H (s'.tmps 6) 9 1 (strs (ins x a))/\s'.tmps 1=.list (strs more)/\s'.tmps 5=.int k/\s'.defs=[]) ?_ ?_
   ·refine A10 [] fun N E hN hE=>?_
    simp +decide only[ZS,↓reduceIte]
    refine hN _ ?_
    clear hN hE N E
    refine O10 rfl (fun hc=>?_) (fun hc=>?_)
    ·have hdn:dn=false:=by simpa using hc
     rw[hdn,if_neg (by decide)] at hpi
     refine P10 [] fun N E hN hE=>?_
     simp +decide only[ZS,↓reduceIte,hx1,nat0,Int.toNat_natCast]
     refine ⟨bs_ok (by kernel_rfl) (B12 ⟨rfl,rfl⟩),?_⟩
     refine T12 (by kernel_rfl) ho rfl (fun _ _ _ e=>by cases e) (B12 rfl) (by rw[R10];simp;omega) fun v' H3 ho'=>?_
     rw[T10]
     simp +decide only[ZS,↓reduceIte]
     refine hN _ ?_
     clear hN hE N E
     refine ⟨?_,rfl,rfl,rfl⟩
     simp +decide only[ZS,↓reduceIte]
     rw[hpi];simpa[strs] using ho'
    ·have hdn:dn=true:=by simpa using hc
     rw[hdn,if_pos rfl] at hpi
     refine G10 ⟨?_,rfl,rfl,rfl⟩
     simp +decide only[ZS,↓reduceIte]
     rw[hpi];exact ho
   rintro ⟨tm4,H4,ds⟩ ⟨ho',d1,d5,gds⟩
   obtain rfl:ds=[]:=gds
   simp only at ho'
   generalize d6:tm4 6=out' at ho'
   have hil:(strs (ins x a)).length<=lim:=by rw[R10,ins_len];omega
   refine B10 1 _ d1 (B10 5 _ d5 ?_)
   refine VW_see (i:=6) (v':=.list (strs (ins x a))) ho'.drop ?_ ?_
   ·have e6:(⟨upd (upd tm4 1 (.list (strs more))) 5 (.int k),H4,[]⟩:AS).tmps 6=out':=d6
    rw[e6];exact ho'.view hil
   refine P10 [] fun N E hN hE=>?_
   simp +decide only[ZS,↓reduceIte]
   refine hN _ ?_
   clear hN hE N E
   refine P10 [] fun N E hN hE=>?_
   simp +decide only[ZS,↓reduceIte,hwk]
   refine hN _ ?_
   clear hN hE N E
   refine ⟨k+1,⟨hlt,?_,rfl,rfl,rfl,rfl⟩,by omega⟩
   simp +decide only[ZS,↓reduceIte]
   rw[htk]
 ·refine B11 ?_
  have hk3:k=more.length:=by have:=of_decide_eq_false hc;omega
  subst hk3
  refine A10 [] fun N E hN hE=>?_
  simp +decide only[ZS,↓reduceIte]
  refine hN _ ?_
  clear hN hE N E
  refine J10 (F10 4 rfl ?_)
  simp +decide only[ZS,↓reduceIte]
  rw[List.take_length];exact hk
end
theorem firstErr_zero:∀ l:List Int,firstErr l=0↔∀ x∈l,x=0
 |[]=>by simp[firstErr]
 |r::rs=>by
  unfold firstErr
  by_cases h:r=0
  ·simp[h,firstErr_zero rs]
  ·simp[h]
theorem X11 (e:Ex):checked e=0↔nodeErr e=0/\∀ x∈e.parts,checked x=0:=by
 rw[checked_eq]
 by_cases h:nodeErr e=0
 ·rw[if_pos h,firstErr_zero]
  simp[h]
 ·simp[h]
theorem node_shape {e:Ex} (h:nodeErr e=0):∃ x,shapes[e.k.toNat]?=some x/\0<=e.k/\e.k<=19/\nodeMany x e=true/\nodeParts x e=true/\(x.Arms=false->e.arms.length=0)/\cls e.s x.S=true/\cls e.t x.T=true/\namesErr e=0/\(x.Arms=true->armsErr e=0)/\x.Low<=e.n/\e.n<=x.High:=by
 unfold nodeErr at h
 split at h
 ·rename_i hk
  simp only[Bool.and_eq_true,decide_eq_true_eq] at hk
  split at h
  ·rename_i x hx
   unfold nodeOf at h
   split at h
   ·rename_i hn
    split at h
    ·cases h
    ·rename_i hcl
     split at h
     ·cases h
     ·rename_i hb
      simp only[Bool.not_eq_true,Bool.or_eq_false_iff,Bool.not_eq_false',nodeBad] at hcl hb
      simp only[Bool.and_eq_true,decide_eq_true_eq] at hn
      have hz:namesErr e=0:=by
       split at h
       ·assumption
       ·rename_i hq;exact absurd h hq
      rw[if_pos hz] at h
      refine ⟨x,hx,hk.1,hk.2,hb.1.1.1,hb.1.1.2,fun ha=>?_,hcl.1,hcl.2,hz,fun ha=>?_,hn.1,hn.2⟩
      ·have:=hb.1.2
       rw[ha] at this
       simp only[Bool.not_false,Bool.true_and,decide_eq_false_iff_not] at this;omega
      ·rw[if_pos ha] at h;exact h
   ·cases h
  ·cases h
 ·cases h
theorem rec_shape {e:Ex} (h:nodeErr e=0) (h7:e.k=7):e.names.length=2/\e.l.length=2:=by
 obtain ⟨x,hx,_,_,hm,hp,_⟩:=node_shape h
 rw[h7] at hx
 have:shapes[(7:Int).toNat]?=some ⟨0,0,2,2,false,0,0⟩:=rfl
 rw[this] at hx
 cases hx
 simp[nodeMany,nodeParts,h7] at hm hp
 omega
def Ex.wid:Ex->Nat:=Ex.para fun e rs=>1+e.names.length+(e.arms.map fun a=>a.names.length).sum+rs.sum
theorem Ex.wid_eq (e:Ex):e.wid=1+e.names.length+(e.arms.map fun a=>a.names.length).sum+(e.parts.map Ex.wid).sum:=Ex.para_eq _ e
theorem Ex.part_wid {e x:Ex} (h:x∈e.parts):x.wid<=e.wid:=by
 rw[Ex.wid_eq e]
 have:=le_sum (List.mem_map_of_mem (f:=Ex.wid) h)
 omega
def Okk (e:Ex):Prop:=Fit e/\checked e=0/\e.nodes<=bnd/\e.wid<=bnd
theorem Okk.part {e x:Ex} (h:Okk e) (hx:x∈e.parts):Okk x:=⟨h.1.part hx,((X11 e).1 h.2.1).2 x hx,Nat.le_of_lt (Nat.lt_of_lt_of_le (Ex.part_lt hx) h.2.2.1),Nat.le_trans (Ex.part_wid hx) h.2.2.2⟩
theorem Okk.node {e:Ex} (h:Okk e):nodeErr e=0:=((X11 e).1 h.2.1).1
theorem bound_len (e:Ex) (hf:fit1 e) (i:Nat):(bound e i).length<=bnd:=by
 obtain ⟨_,_,hn,_,_,_,hx⟩:=hf
 unfold bound
 repeat' split
 all_goals first|exact Nat.zero_le _|exact hn|(rw[List.length_take];omega)|skip
 rename_i a ha
 exact (hx a (List.mem_of_getElem? ha)).2.1
def goF (f:Nat->List ByteArray):Nat->List (List ByteArray)->List ByteArray->List ByteArray
 |_,[],acc=>acc
 |i,r::rs,acc=>goF f (i+1) rs (addS acc (minus r (f i)))
theorem goF_snoc (f:Nat->List ByteArray):∀ (rs:List (List ByteArray)) (i:Nat) (r acc:List ByteArray),goF f i (rs++[r]) acc=addS (goF f i rs acc) (minus r (f (i+rs.length)))
 |[],i,r,acc=>rfl
 |q::rs,i,r,acc=>by
  simp only[List.cons_append,goF,goF_snoc f rs,List.length_cons]
  rw[show i+1+rs.length=i+(rs.length+1) from by omega]
theorem goF_len (f:Nat->List ByteArray):∀ (rs:List (List ByteArray)) (i:Nat) (acc:List ByteArray),(goF f i rs acc).length<=acc.length+(rs.map List.length).sum
 |[],i,acc=>by simp[goF]
 |q::rs,i,acc=>by
  simp only[goF,List.map_cons,List.sum_cons]
  have h1:=goF_len f rs (i+1) (addS acc (minus q (f i)))
  have h2:=addS_len acc (minus q (f i))
  have h3:=minus_len q (f i)
  omega
def one (s:ByteArray):List ByteArray:=if s=emp then [] else [s]
def freeOf:Ex->List ByteArray:=Ex.para fun e rs=>goF (bound e) 0 rs (one (occurs e))
theorem freeOf_eq (e:Ex):freeOf e=goF (bound e) 0 (e.parts.map freeOf) (one (occurs e)):=by unfold freeOf;rw[Ex.para_eq]
theorem one_len (s:ByteArray):(one s).length<=1:=by unfold one;split<;>simp
theorem sum_le {α:Type} {f g:α->Nat}:∀ {l:List α},(∀ x∈l,f x<=g x)->(l.map f).sum<=(l.map g).sum
 |[],_=>Nat.le_refl _
 |a::l,h=>by
  have h1:=h a (by simp)
  have h2:=sum_le (l:=l) fun x hx=>h x (by simp[hx])
  simp only[List.map_cons,List.sum_cons];omega
theorem freeOf_len (e:Ex):(freeOf e).length<=e.nodes:=by
 induction e using Ex.ind with
 |step e ih=>
  rw[freeOf_eq,Ex.nodes_eq]
  have h1:=goF_len (bound e) (e.parts.map freeOf) 0 (one (occurs e))
  have h2:=one_len (occurs e)
  have h3:=sum_le (l:=e.parts) (f:=fun x=>(freeOf x).length) (g:=Ex.nodes) ih
  rw[List.map_map] at h1
  have e1:(e.parts.map (List.length∘freeOf)).sum=(e.parts.map fun x=>(freeOf x).length).sum:=rfl
  omega
section
variable {G:GT} {H:HM}
theorem freeOf_c (e:Ex):Okk e->PureF prog G 47 [e.av] H (.list (strs (freeOf e))):=by
 induction e using Ex.ind with
 |step e ih=>
  intro ho
  have hf:=ho.1.one
  have hbb:=V13
  have hbl:bnd+bnd+bnd<=lim:=by decide
  have hb2:2<=bnd:=by decide
  have hlen:e.parts.length<9223372036854775807:=by
   have h1:=hf.2.2.2.1
   have h2:=hf.2.2.2.2.1
   rw[F11];omega
  refine M10 (fn:=f47) func47 rfl (by kernel_rfl) (by kernel_rfl) (Nat.le_of_ble_eq_true (by kernel_rfl)) fun K hk=>?_
  refine A10 [] fun N E hN hE=>?_
  simp +decide only[ZS,↓reduceIte]
  refine hN _ ?_
  clear hN hE N E
  refine A10 [] fun N E hN hE=>?_
  simp +decide only[ZS,↓reduceIte]
  refine hN _ ?_
  clear hN hE N E
  rw[freeOf_eq] at hk
  refine VW_seqC (fun s'=>s'.tmps 3=.list (strs (one (occurs e)))/\s'.tmps 1=.ref e.av.cells/\s'.H=H/\s'.defs=[]) ?_ ?_
  ·refine A10 [] fun N E hN hE=>?_
   simp +decide only[ZS,↓reduceIte]
   refine D10 (occurs_c e) ?_
   simp +decide only[ZS,↓reduceIte]
   refine hN _ ?_
   clear hN hE N E
   refine A10 [] fun N E hN hE=>?_
   simp +decide only[ZS,↓reduceIte]
   refine hN _ ?_
   clear hN hE N E
   refine O10 rfl (fun hc=>?_) (fun hc=>?_)
   ·have hne:¬ occurs e=emp:=by simpa[emp] using hc
    refine P10 [] fun N E hN hE=>?_
    simp +decide only[ZS,↓reduceIte]
    refine ⟨bs_ok (by kernel_rfl) (B12 ⟨rfl,rfl⟩),?_⟩
    refine hN _ ⟨?_,?_,rfl,rfl⟩
    ·simp +decide only[ZS,↓reduceIte]
     rw[one,if_neg hne];rfl
    ·rw[C10];rfl
   ·have hne:occurs e=emp:=by simpa[emp] using hc
    refine VW_see (i:=3) (v':=.list []) (Drop.refl _) View.nilr ?_
    refine G10 ⟨?_,?_,rfl,rfl⟩
    ·simp +decide only[ZS,↓reduceIte]
     rw[one,if_pos hne];rfl
    ·rw[C10];rfl
  rintro ⟨tm1,H1,ds⟩ ⟨f3,f1,gH,gds⟩
  obtain rfl:H=H1:=gH.symm
  obtain rfl:ds=[]:=gds
  rw[C10] at f1
  refine B10 3 _ f3 (B10 1 _ f1 ?_)
  refine A10 [] fun N E hN hE=>?_
  simp +decide only[ZS,↓reduceIte]
  refine D10 (parts_c e hf) ?_
  simp +decide only[ZS,↓reduceIte]
  refine hN _ ?_
  clear hN hE N E
  refine I10 (A10 [] fun N E hN hE=>?_)
  simp +decide only[ZS,↓reduceIte]
  refine hN _ ?_
  clear hN hE N E
  refine K10 ?_
  refine Y10 (fun k s'=>k<=e.parts.length/\s'.tmps 3=.list (strs (goF (bound e) 0 ((e.parts.take k).map freeOf) (one (occurs e))))/\s'.tmps 1=.ref e.av.cells/\s'.tmps 5=.list (exs e.parts)/\s'.tmps 6=.int k/\s'.H=H/\s'.defs=[]) (fun k=>e.parts.length-k) 0
   ⟨Nat.zero_le _,rfl,by rw[C10];rfl,rfl,rfl,rfl,rfl⟩ ?_
  rintro k ⟨tm,H',ds⟩ ⟨hk1,h3,h1,h5,h6,hH,hds⟩
  obtain rfl:H'=H:=hH
  obtain rfl:ds=[]:=hds
  rw[C10] at h1
  refine B10 3 _ h3 (B10 1 _ h1 (B10 5 _ h5 (B10 6 _ h6 ?_)))
  refine I10 (A10 [] fun N E hN hE=>?_)
  simp +decide only[ZS,↓reduceIte,W10]
  refine hN _ ?_
  clear hN hE N E
  refine O10 rfl (fun hc=>?_) (fun hc=>?_)
  ·have hlt:k<e.parts.length:=by have:=of_decide_eq_true hc;omega
   have hmem:e.parts[k]∈e.parts:=List.getElem_mem hlt
   have hop:=ho.part hmem
   have hsn:=goF_snoc (bound e) ((e.parts.take k).map freeOf) 0 (freeOf e.parts[k]) (one (occurs e))
   have htk:(e.parts.take (k+1)).map freeOf=(e.parts.take k).map freeOf++[freeOf e.parts[k]]:=by rw[take_at hlt];simp only[List.map_append,List.map_cons,List.map_nil]
   rw[<-htk,List.length_map,List.length_take,Nat.min_eq_left hk1,Nat.zero_add] at hsn
   have hg:=goF_len (bound e) ((e.parts.take k).map freeOf) 0 (one (occurs e))
   have hgl:(goF (bound e) 0 ((e.parts.take k).map freeOf) (one (occurs e))).length<=bnd:=by
    have h2:=one_len (occurs e)
    have h3:=sum_le (l:=e.parts.take k) (f:=fun x=>(freeOf x).length) (g:=Ex.nodes) (fun x _=>freeOf_len x)
    rw[List.map_map] at hg
    have e1:((e.parts.take k).map (List.length∘freeOf)).sum=((e.parts.take k).map fun x=>(freeOf x).length).sum:=rfl
    have h4:((e.parts.take k).map Ex.nodes).sum<=(e.parts.map Ex.nodes).sum:=by
     conv=>rhs;rw[<-List.take_append_drop k e.parts]
     rw[List.map_append,List.sum_append];omega
    have h5:=Ex.nodes_eq e
    have h6:=ho.2.2.1
    omega
   have hpl:=freeOf_len e.parts[k]
   have hpn:=hop.2.2.1
   have hml:=minus_len (freeOf e.parts[k]) (bound e k)
   have hbk:=bound_len e hf k
   refine G10 ?_
   refine I10 (K10 ?_)
   refine VW_regqE [] 11 (by kernel_rfl) (by kernel_rfl) (by kernel_rfl) fun N E hN hE=>?_
   simp only[List.take,List.drop]
   simp +decide only[ZS,QS,↓reduceIte,exs_at hlt,nat0,Int.toNat_natCast]
   refine V10 (ih _ hmem hop) ?_
   simp +decide only[ZS,QS,↓reduceIte]
   refine V10 (bound_c e k hf hlt (rec_shape ho.node)) ?_
   simp +decide only[ZS,QS,↓reduceIte]
   refine V10 (minus_c _ _ (by omega) (by omega)) ?_
   simp +decide only[ZS,QS,↓reduceIte]
   refine V10 (add_c _ _ (by omega)) ?_
   simp +decide only[ZS,QS,↓reduceIte]
   refine hN _ ?_
   refine P10 [] fun N E hN hE=>?_
   simp +decide only[ZS,↓reduceIte,wrapN (show k<9223372036854775807 by omega)]
   refine hN _ ?_
   clear hN hE N E
   refine ⟨k+1,⟨hlt,?_,by rw[C10];rfl,rfl,rfl,rfl,rfl⟩,by omega⟩
   simp +decide only[ZS,↓reduceIte]
   rw[hsn]
  ·refine B11 ?_
   have hk3:k=e.parts.length:=by have:=of_decide_eq_false hc;omega
   subst hk3
   refine A10 [] fun N E hN hE=>?_
   simp +decide only[ZS,↓reduceIte]
   refine hN _ ?_
   clear hN hE N E
   refine J10 (F10 2 rfl ?_)
   simp +decide only[ZS,↓reduceIte]
   rw[List.take_length];exact hk
end
def Inp (e:Ex):Prop:=Fit e/\e.nodes<=bnd/\e.wid<=bnd
theorem Inp.okk {e:Ex} (h:Inp e) (hc:check e=0):Okk e:=by
 refine ⟨h.1,?_,h.2.1,h.2.2⟩
 unfold check at hc
 split at hc
 ·cases hc
 ·exact hc
section
variable {G:GT} {H:HM}
end
section
variable {G:GT} {H:HM}
end
end Go.V
