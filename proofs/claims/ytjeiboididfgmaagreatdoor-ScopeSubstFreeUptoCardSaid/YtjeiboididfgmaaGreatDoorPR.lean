/- The laws ScopeRespects and ScopeCommute over abstract states. No condition. The law ScopeCommute over abstract states. No condition. Arguments that are strings, and pairs. No condition. What ScopeSubstFree asks: ascending lists, unions, Resumes. No condition. The law ScopeSubstFree over abstract states. No condition. The law ScopeSubstFree over abstract states. No condition. -/
import Derived.Test.YtjeiboididfgmaaGreatDoorPQ
import Derived.Test.YtjeiboididfgmaaGreatDoorPP
import Derived.Test.YtjeiboididfgmaaGreatDoorPI
import Derived.ChangeMaps5
set_option linter.unusedVariables false
set_option linter.unusedSimpArgs false
set_option linter.defProp false
set_option maxRecDepth 100000
namespace Go.V
open Go Go.Proofs.Tryz
section
variable {H:HM}
end
section
variable {H:HM}
end
open Go.Proofs Go.Proofs.YtjeiboididfgmaaGreatDoor Go.ChangeShapes Go.WideShapes
section
variable {H:Type} {enc:TypeId×Value->H}
theorem arg_str {W:World} {v:Value} {d:DataW H} {p:List MemPlace} {b0:Nat} (h:DataW.Trod enc prog W 0 (fun _=>true) true 9 v d p) (hval:Value.okWide prog W .any b0 9 v) (hb:Rows.uptoBulk d<=bnd):∃ s:ByteArray,s.size<=bnd/\Rep (Imm H00 W) W (.str s) v:=by
 obtain ⟨s,rfl,rfl,rfl,_⟩:=Go.ChangeMaps.open_string u9 hval h
 have hs:s.size+1=Rows.uptoBulk (DataW.lit (H:=H) (.string s.data.toList)):=by
  show s.data.size+1=s.data.toList.length+1
  rw[Array.length_toList]
 have hl:bnd<=lim:=by decide
 exact ⟨s,by omega,.val _ (by show s.size<=lim;omega)⟩
end
def goQ (f:Nat->List ByteArray) (x:ByteArray):Nat->List Bool->Bool->Bool
 |_,[],acc=>acc
 |i,r::rs,acc=>goQ f x (i+1) rs (acc||(!has (f i) x&&r))
theorem goQ_snoc (f:Nat->List ByteArray) (x:ByteArray):∀ (rs:List Bool) (i:Nat) (r acc:Bool),goQ f x i (rs++[r]) acc=(goQ f x i rs acc||(!has (f (i+rs.length)) x&&r))
 |[],i,r,acc=>rfl
 |q::rs,i,r,acc=>by
  simp only[List.cons_append,goQ,goQ_snoc f x rs,List.length_cons]
  rw[show i+1+rs.length=i+(rs.length+1) from by omega]
def resB (x:ByteArray):Ex->Bool:=Ex.para fun e rs=>goQ (bound e) x 0 rs (!decide (e.k=0)&&decide (occurs e=x))
theorem resB_eq (x:ByteArray) (e:Ex):resB x e=goQ (bound e) x 0 (e.parts.map (resB x)) (!decide (e.k=0)&&decide (occurs e=x)):=by unfold resB;rw[Ex.para_eq]
theorem goQ_true (f:Nat->List ByteArray) (x:ByteArray):∀ (rs:List Bool) (i:Nat) (acc:Bool),(acc=true\/∃ j,rs[j]?=some true/\has (f (i+j)) x=false)->goQ f x i rs acc=true
 |[],i,acc,h=>by
  rcases h with h|⟨j,h,_⟩
  ·exact h
  ·simp at h
 |r::rs,i,acc,h=>by
  rw[goQ]
  refine goQ_true f x rs (i+1) _ ?_
  rcases h with h|⟨j,h1,h2⟩
  ·left;rw[h];rfl
  ·cases j with
   |zero=>
    simp only[List.getElem?_cons_zero,Option.some.injEq] at h1
    left
    rw[h1,Nat.add_zero] at *
    rw[h2];simp
   |succ j=>exact .inr ⟨j,by simpa using h1,by rw[<-h2];congr 2;omega⟩
theorem resB_sp {x:ByteArray} (e:Ex):checked e=0->∀ L:List Nm,spB x (db e L)=true->resB x e=true:=by
 induction e using Ex.ind with
 |step e ih=>
  intro hc L h
  obtain ⟨hn,hp⟩:=(T11 e).1 hc
  rw[db_eq,spB_mk,Bool.or_eq_true] at h
  rw[resB_eq]
  refine goQ_true _ _ _ _ _ ?_
  rcases h with h|h
  ·left
   simp only[Bool.and_eq_true,Bool.not_eq_true',decide_eq_false_iff_not] at h
   have ho:=(refF_f.1 (hitR_iff.1 h.1)).1
   have hk:e.k≠0:=h.2
   have hs:occurs e=x:=by
    unfold occ at ho
    split at ho
    ·rename_i h0
     have hb:(decide (e.k=0)||decide (e.k=18)||decide (e.k=19))=true:=by simp;omega
     unfold occurs
     rw[if_pos hb]
     cases ho;rfl
    ·split at ho<;>cases ho
   simp[hk,hs]
  ·right
   rw[List.any_eq_true] at h
   obtain ⟨d,hd,hs⟩:=h
   obtain ⟨i,p,hi,rfl⟩:=kids_mem hd
   have hm:=List.mem_of_getElem? hi
   have hil:=(List.getElem?_eq_some_iff.1 hi).1
   refine ⟨i,by rw[List.getElem?_map,hi];exact congrArg some (ih p hm (hp p hm) _ hs),?_⟩
   rw[Nat.zero_add]
   cases q:has (bound e i) x with
   |false=>rfl
   |true=>
    have hv:x∈vOf e i:=by rw[<-bound_vOf hn hil];exact (P11 _ _).1 q
    have h1:=sp_cnt _ hs
    have h2:=((FI_db _ _ _ _).1 ((cnt_fv _).1 h1)).2
    exact absurd (show x∈(vOf e i).reverse++env false L from List.mem_append.2 (.inl (List.mem_reverse.2 hv))) h2
section
variable {G:GT} {H:HM}
theorem resB_c (x:ByteArray) (e:Ex):Okk e->PureF prog G 43 [e.av,.str x] H (.bool (resB x e)):=by
 induction e using Ex.ind with
 |step e ih=>
  intro ho
  have hf:=ho.1.one
  have hbb:=bnd_lt
  have hbl:bnd<=lim:=by decide
  have hlen:e.parts.length<9223372036854775807:=by
   have h1:=hf.2.2.2.1
   have h2:=hf.2.2.2.2.1
   rw[D11];omega
  refine L10 (fn:=f43) func43 rfl (by kernel_rfl) (by kernel_rfl) (Nat.le_of_ble_eq_true (by kernel_rfl)) fun K hk=>?_
  refine A10 [] fun N E hN hE=>?_
  simp +decide only[ZS,↓reduceIte]
  refine hN _ ?_
  clear hN hE N E
  rw[resB_eq] at hk
  refine C11 [] (fun s'=>s'.tmps 5=.bool (!decide (e.k=0)&&decide (occurs e=x))/\s'.tmps 2=.ref e.av.cells/\s'.tmps 1=.str x/\s'.H=H/\s'.defs=[]) (fun N E hN hE=>?_) ?_
  ·clear hE hk ih
   simp +decide only[ZS,↓reduceIte]
   refine V10 (fun hb=>?_) (fun hb=>?_)
   ·simp +decide only[ZS,↓reduceIte,hb]
    refine C10 (occurs_c e) ?_
    simp +decide only[ZS,↓reduceIte,hb]
    refine hN _ ?_
    clear hN
    refine ⟨?_,?_,?_,?_,?_⟩
    all_goals first|rfl|assumption|(simp +decide only[ZS,↓reduceIte]<;>simp_all)
   ·simp +decide only[ZS,↓reduceIte,hb]
    refine hN _ ?_
    clear hN
    refine ⟨?_,?_,?_,?_,?_⟩
    all_goals first|rfl|assumption|(simp +decide only[ZS,↓reduceIte]<;>simp_all)
  rintro ⟨tm1,H1,ds⟩ ⟨f5,f2,f1,gH,gds⟩
  obtain rfl:H=H1:=gH.symm
  obtain rfl:ds=[]:=gds
  rw[D10] at f2
  refine B10 5 _ f5 (B10 2 _ f2 (B10 1 _ f1 ?_))
  generalize (!decide (e.k=0)&&decide (occurs e=x))=n0 at *
  refine A10 [] fun N E hN hE=>?_
  simp +decide only[ZS,↓reduceIte]
  refine C10 (parts_c e hf) ?_
  simp +decide only[ZS,↓reduceIte]
  refine hN _ ?_
  clear hN hE N E
  refine I10 (A10 [] fun N E hN hE=>?_)
  simp +decide only[ZS,↓reduceIte]
  refine hN _ ?_
  clear hN hE N E
  refine K10 ?_
  refine X10 (fun k s'=>k<=e.parts.length/\s'.tmps 5=.bool (goQ (bound e) x 0 ((e.parts.take k).map (resB x)) n0)/\s'.tmps 2=.ref e.av.cells/\s'.tmps 1=.str x/\s'.tmps 6=.list (exs e.parts)/\s'.tmps 7=.int k/\s'.H=H/\s'.defs=[]) (fun k=>e.parts.length-k) 0
   ⟨Nat.zero_le _,rfl,by rw[D10];rfl,rfl,rfl,rfl,rfl,rfl⟩ ?_
  rintro k ⟨tm,H',ds⟩ ⟨hk1,h5,h2,h1,h6,h7,hH,hds⟩
  obtain rfl:H'=H:=hH
  obtain rfl:ds=[]:=hds
  rw[D10] at h2
  refine B10 5 _ h5 (B10 2 _ h2 (B10 1 _ h1 (B10 6 _ h6 (B10 7 _ h7 ?_))))
  refine I10 (A10 [] fun N E hN hE=>?_)
  simp +decide only[ZS,↓reduceIte,W10]
  refine hN _ ?_
  clear hN hE N E
  refine O10 rfl (fun hc=>?_) (fun hc=>?_)
  ·have hlt:k<e.parts.length:=by have:=of_decide_eq_true hc;omega
   have hmem:e.parts[k]∈e.parts:=List.getElem_mem hlt
   have hop:=ho.part hmem
   have hsn:=goQ_snoc (bound e) x ((e.parts.take k).map (resB x)) 0 (resB x e.parts[k]) n0
   have htk:(e.parts.take (k+1)).map (resB x)=(e.parts.take k).map (resB x)++[resB x e.parts[k]]:=by rw[take_at hlt];simp only[List.map_append,List.map_cons,List.map_nil]
   rw[<-htk,List.length_map,List.length_take,Nat.min_eq_left hk1,Nat.zero_add] at hsn
   have hbk:=bound_len e hf k
   generalize hq:goQ (bound e) x 0 ((e.parts.take k).map (resB x)) n0=q at *
   have hwk:=wrapN (show k<9223372036854775807 by omega)
   refine F10 ?_
   refine I10 (K10 ?_)
   refine VW_regEC [] (fun s'=>s'.tmps 5=.bool (q||(!has (bound e k) x&&resB x e.parts[k]))/\s'.tmps 2=.ref e.av.cells/\s'.tmps 1=.str x/\s'.tmps 6=.list (exs e.parts)/\s'.tmps 7=.int k/\s'.H=H'/\s'.defs=[]) (fun N E hN hE=>?_) ?_
   ·clear hE hk
    simp +decide only[ZS,↓reduceIte]
    refine V10 (fun hb=>?_) (fun hb=>?_)
    ·simp +decide only[ZS,↓reduceIte,hb]
     refine hN _ ?_
     clear hN
     refine ⟨?_,?_,?_,?_,?_,?_,?_⟩
     all_goals first|rfl|assumption|(simp +decide only[ZS,↓reduceIte]<;>simp_all)
    ·simp +decide only[ZS,↓reduceIte,hb]
     refine C10 (bound_c e k hf hlt (rec_shape ho.node)) ?_
     simp +decide only[ZS,↓reduceIte,hb]
     refine C10 (has_c _ x (by omega)) ?_
     simp +decide only[ZS,↓reduceIte,hb]
     refine V10 (fun hb2=>?_) (fun hb2=>?_)
     ·simp +decide only[ZS,↓reduceIte,hb,hb2,exs_at hlt,nat0,Int.toNat_natCast]
      refine C10 (ih _ hmem hop) ?_
      simp +decide only[ZS,↓reduceIte,hb,hb2]
      refine hN _ ?_
      clear hN
      refine ⟨?_,?_,?_,?_,?_,?_,?_⟩
      all_goals first|rfl|assumption|(simp +decide only[ZS,↓reduceIte]<;>simp_all)
     ·simp +decide only[ZS,↓reduceIte,hb,hb2]
      refine hN _ ?_
      clear hN
      refine ⟨?_,?_,?_,?_,?_,?_,?_⟩
      all_goals first|rfl|assumption|(simp +decide only[ZS,↓reduceIte]<;>simp_all)
   rintro ⟨tm2,H2,ds⟩ ⟨g5,g2,g1,g6,g7,gH,gds⟩
   obtain rfl:H'=H2:=gH.symm
   obtain rfl:ds=[]:=gds
   rw[D10] at g2
   refine B10 5 _ g5 (B10 2 _ g2 (B10 1 _ g1 (B10 6 _ g6 (B10 7 _ g7 ?_))))
   refine P10 [] fun N E hN hE=>?_
   simp +decide only[ZS,↓reduceIte,hwk]
   refine hN _ ?_
   clear hN hE N E
   refine ⟨k+1,⟨hlt,?_,by rw[D10];rfl,rfl,rfl,rfl,rfl,rfl⟩,by omega⟩
   simp +decide only[ZS,↓reduceIte]
   rw[hsn]
  ·refine A11 ?_
   have hk3:k=e.parts.length:=by have:=of_decide_eq_false hc;omega
   subst hk3
   refine A10 [] fun N E hN hE=>?_
   simp +decide only[ZS,↓reduceIte]
   refine hN _ ?_
   clear hN hE N E
   refine J10 (G10 4 rfl ?_)
   simp +decide only[ZS,↓reduceIte]
   rw[List.take_length];exact hk
theorem lawSorted_c (l:List ByteArray) (hs:SortedB l) (hn:l.Nodup) (hl:l.length<=lim):PureF prog G 45 [.list (strs l)] H (.bool true):=by
 refine L10 (fn:=f45) func45 rfl (by kernel_rfl) (by kernel_rfl) (Nat.le_of_ble_eq_true (by kernel_rfl)) fun K hk=>?_
 refine A10 [] fun N E hN hE=>?_
 simp +decide only[ZS,↓reduceIte]
 refine hN _ ?_
 clear hN hE N E
 refine I10 (A10 [] fun N E hN hE=>?_)
 simp +decide only[ZS,↓reduceIte]
 refine hN _ ?_
 clear hN hE N E
 refine K10 ?_
 refine X10 (fun k s'=>s'.tmps 0=.list (strs l)/\s'.tmps 3=.int ((k+1:Nat):Int)/\s'.H=H/\s'.defs=[]) (fun k=>l.length-k) 0 ⟨rfl,rfl,rfl,rfl⟩ ?_
 rintro k ⟨tm,H',ds⟩ ⟨h0,h3,hH,hds⟩
 obtain rfl:H'=H:=hH
 obtain rfl:ds=[]:=hds
 refine B10 0 _ h0 (B10 3 _ h3 ?_)
 refine I10 (A10 [] fun N E hN hE=>?_)
 simp +decide only[ZS,↓reduceIte,R10]
 refine hN _ ?_
 clear hN hE N E
 refine O10 rfl (fun hc=>?_) (fun hc=>?_)
 ·have hlt:k+1<l.length:=by have:=of_decide_eq_true hc;omega
  have hlt0:k<l.length:=by omega
  have hw:IntKind.i64.wrap (((k+1:Nat):Int)-1)=(k:Int):=by
   rw[wrap64]<;>(unfold lim at hl;omega)
  have h1:strLt l[k+1] l[k]=false:=by
   rw[strLt_le]
   have:=List.pairwise_iff_getElem.1 hs k (k+1) hlt0 hlt (by omega)
   rw[this];rfl
  have h2:decide (l[k+1]=l[k])=false:=by
   refine decide_eq_false fun q=>?_
   have:=(List.getElem_inj hn).1 q
   omega
  refine F10 ?_
  refine I10 (K10 ?_)
  refine T12 [] 10 (by kernel_rfl) (by kernel_rfl) (by kernel_rfl) fun N E hN hE=>?_
  simp only[List.take,List.drop]
  simp +decide only[ZS,QS,↓reduceIte,X11 hlt,X11 hlt0,nat0,Int.toNat_natCast,hw,h1,h2]
  refine hN _ ?_
  clear hN hE N E
  refine O10 rfl (fun hc=>?_) (fun hc=>?_)
  ·cases hc
  refine F10 ?_
  refine P10 [] fun N E hN hE=>?_
  simp +decide only[ZS,↓reduceIte,wrapN (show k+1<9223372036854775807 by unfold lim at hl;omega)]
  refine hN _ ?_
  clear hN hE N E
  exact ⟨k+1,⟨rfl,rfl,rfl,rfl⟩,by omega⟩
 ·refine A11 ?_
  refine A10 [] fun N E hN hE=>?_
  simp +decide only[ZS,↓reduceIte]
  refine hN _ ?_
  clear hN hE N E
  refine J10 (G10 2 rfl ?_)
  simp +decide only[ZS,↓reduceIte]
  exact hk
end
section
variable {G:GT} {H:HM}
theorem union_c (l a b:List ByteArray) (h1:∀ z∈l,z∈a\/z∈b) (h2:∀ z∈a,z∈l) (h3:∀ z∈b,z∈l) (hl:l.length<=lim) (ha:a.length<=lim) (hb:b.length<=lim):PureF prog G 49 [.list (strs l),.list (strs a),.list (strs b)] H (.bool true):=by
 refine L10 (fn:=f49) func49 rfl (by kernel_rfl) (by kernel_rfl) (Nat.le_of_ble_eq_true (by kernel_rfl)) fun K hk=>?_
 refine A10 [] fun N E hN hE=>?_
 simp +decide only[ZS,↓reduceIte]
 refine hN _ ?_
 clear hN hE N E
 refine W13 (fun s'=>s'.tmps 0=.list (strs l)/\s'.tmps 1=.list (strs a)/\s'.tmps 2=.list (strs b)/\s'.H=H/\s'.defs=[]) ?_ ?_
 ·clear hk
  refine A10 [] fun N E hN hE=>?_
  simp +decide only[ZS,↓reduceIte]
  refine hN _ ?_
  clear hN hE N E
  refine K10 ?_
  refine X10 (fun k s'=>k<=l.length/\s'.tmps 0=.list (strs l)/\s'.tmps 1=.list (strs a)/\s'.tmps 2=.list (strs b)/\s'.tmps 7=.int k/\s'.H=H/\s'.defs=[]) (fun k=>l.length-k) 0 ⟨Nat.zero_le _,rfl,rfl,rfl,rfl,rfl,rfl⟩ ?_
  rintro k ⟨tm,H',ds⟩ ⟨hk1,v0,v1,v2,v7,hH,hds⟩
  obtain rfl:H=H':=hH.symm
  obtain rfl:ds=[]:=hds
  refine B10 0 _ v0 (B10 1 _ v1 (B10 2 _ v2 (B10 7 _ v7 ?_)))
  refine I10 (A10 [] fun N E hN hE=>?_)
  simp +decide only[ZS,↓reduceIte,R10]
  refine hN _ ?_
  clear hN hE N E
  refine O10 rfl (fun hc=>?_) (fun hc=>?_)
  ·have hlt:k<l.length:=by have:=of_decide_eq_true hc;omega
   refine F10 ?_
   refine I10 (K10 ?_)
   have hz:=h1 l[k] (List.getElem_mem hlt)
   refine C11 [] (fun s'=>s'.tmps 31=.bool false/\s'.tmps 0=.list (strs l)/\s'.tmps 1=.list (strs a)/\s'.tmps 2=.list (strs b)/\s'.tmps 7=.int k/\s'.H=H/\s'.defs=[]) (fun N E hN hE=>?_) ?_
   ·clear hE
    cases q:has a l[k] with
    |true=>
     simp +decide only[ZS,↓reduceIte,X11 hlt,nat0,Int.toNat_natCast]
     refine C10 (has_c a l[k] ha) ?_
     rw[q]
     simp +decide only[ZS,↓reduceIte,X11 hlt,nat0,Int.toNat_natCast]
     refine hN _ ⟨rfl,rfl,rfl,rfl,rfl,rfl,rfl⟩
    |false=>
     have hb2:has b l[k]=true:=by
      rcases hz with r|r
      ·rw[(P11 _ _).2 r] at q;cases q
      ·exact (P11 _ _).2 r
     simp +decide only[ZS,↓reduceIte,X11 hlt,nat0,Int.toNat_natCast]
     refine C10 (has_c a l[k] ha) ?_
     rw[q]
     simp +decide only[ZS,↓reduceIte,X11 hlt,nat0,Int.toNat_natCast]
     refine C10 (has_c b l[k] hb) ?_
     rw[hb2]
     simp +decide only[ZS,↓reduceIte,X11 hlt,nat0,Int.toNat_natCast]
     refine hN _ ⟨rfl,rfl,rfl,rfl,rfl,rfl,rfl⟩
   rintro ⟨tm2,H2,ds⟩ ⟨f31,w0,w1,w2,w7,gH,gds⟩
   obtain rfl:H=H2:=gH.symm
   obtain rfl:ds=[]:=gds
   refine B10 31 _ f31 (B10 0 _ w0 (B10 1 _ w1 (B10 2 _ w2 (B10 7 _ w7 ?_))))
   refine O10 rfl (fun hc=>?_) (fun hc=>?_)
   ·cases hc
   refine F10 ?_
   refine P10 [] fun N E hN hE=>?_
   simp +decide only[ZS,↓reduceIte,wrapN (show k<9223372036854775807 by unfold lim at *;omega)]
   refine hN _ ?_
   clear hN hE N E
   exact ⟨k+1,⟨hlt,rfl,rfl,rfl,rfl,rfl,rfl⟩,by omega⟩
  ·refine A11 ?_
   exact ⟨rfl,rfl,rfl,rfl,rfl⟩
 rintro ⟨tm,H1,ds⟩ ⟨v0,v1,v2,gH,gds⟩
 obtain rfl:H=H1:=gH.symm
 obtain rfl:ds=[]:=gds
 refine B10 0 _ v0 (B10 1 _ v1 (B10 2 _ v2 ?_))
 clear v0 v1 v2
 refine W13 (fun s'=>s'.tmps 0=.list (strs l)/\s'.tmps 1=.list (strs a)/\s'.tmps 2=.list (strs b)/\s'.H=H/\s'.defs=[]) ?_ ?_
 ·clear hk
  refine A10 [] fun N E hN hE=>?_
  simp +decide only[ZS,↓reduceIte]
  refine hN _ ?_
  clear hN hE N E
  refine K10 ?_
  refine X10 (fun k s'=>k<=a.length/\s'.tmps 0=.list (strs l)/\s'.tmps 1=.list (strs a)/\s'.tmps 2=.list (strs b)/\s'.tmps 8=.int k/\s'.H=H/\s'.defs=[]) (fun k=>a.length-k) 0 ⟨Nat.zero_le _,rfl,rfl,rfl,rfl,rfl,rfl⟩ ?_
  rintro k ⟨tm,H',ds⟩ ⟨hk1,v0,v1,v2,v7,hH,hds⟩
  obtain rfl:H=H':=hH.symm
  obtain rfl:ds=[]:=hds
  refine B10 0 _ v0 (B10 1 _ v1 (B10 2 _ v2 (B10 8 _ v7 ?_)))
  refine I10 (A10 [] fun N E hN hE=>?_)
  simp +decide only[ZS,↓reduceIte,R10]
  refine hN _ ?_
  clear hN hE N E
  refine O10 rfl (fun hc=>?_) (fun hc=>?_)
  ·have hlt:k<a.length:=by have:=of_decide_eq_true hc;omega
   refine F10 ?_
   refine I10 (K10 ?_)
   have hz:has l a[k]=true:=(P11 _ _).2 (h2 a[k] (List.getElem_mem hlt))
   refine A10 [] fun N E hN hE=>?_
   simp +decide only[ZS,↓reduceIte,X11 hlt,nat0,Int.toNat_natCast]
   refine C10 (has_c l a[k] hl) ?_
   rw[hz]
   simp +decide only[ZS,↓reduceIte]
   refine hN _ ?_
   clear hN hE N E
   refine O10 rfl (fun hc=>?_) (fun hc=>?_)
   ·cases hc
   refine F10 ?_
   refine P10 [] fun N E hN hE=>?_
   simp +decide only[ZS,↓reduceIte,wrapN (show k<9223372036854775807 by unfold lim at *;omega)]
   refine hN _ ?_
   clear hN hE N E
   exact ⟨k+1,⟨hlt,rfl,rfl,rfl,rfl,rfl,rfl⟩,by omega⟩
  ·refine A11 ?_
   exact ⟨rfl,rfl,rfl,rfl,rfl⟩
 rintro ⟨tm,H1,ds⟩ ⟨v0,v1,v2,gH,gds⟩
 obtain rfl:H=H1:=gH.symm
 obtain rfl:ds=[]:=gds
 refine B10 0 _ v0 (B10 1 _ v1 (B10 2 _ v2 ?_))
 clear v0 v1 v2
 refine W13 (fun s'=>s'.tmps 0=.list (strs l)/\s'.tmps 1=.list (strs a)/\s'.tmps 2=.list (strs b)/\s'.H=H/\s'.defs=[]) ?_ ?_
 ·clear hk
  refine A10 [] fun N E hN hE=>?_
  simp +decide only[ZS,↓reduceIte]
  refine hN _ ?_
  clear hN hE N E
  refine K10 ?_
  refine X10 (fun k s'=>k<=b.length/\s'.tmps 0=.list (strs l)/\s'.tmps 1=.list (strs a)/\s'.tmps 2=.list (strs b)/\s'.tmps 9=.int k/\s'.H=H/\s'.defs=[]) (fun k=>b.length-k) 0 ⟨Nat.zero_le _,rfl,rfl,rfl,rfl,rfl,rfl⟩ ?_
  rintro k ⟨tm,H',ds⟩ ⟨hk1,v0,v1,v2,v7,hH,hds⟩
  obtain rfl:H=H':=hH.symm
  obtain rfl:ds=[]:=hds
  refine B10 0 _ v0 (B10 1 _ v1 (B10 2 _ v2 (B10 9 _ v7 ?_)))
  refine I10 (A10 [] fun N E hN hE=>?_)
  simp +decide only[ZS,↓reduceIte,R10]
  refine hN _ ?_
  clear hN hE N E
  refine O10 rfl (fun hc=>?_) (fun hc=>?_)
  ·have hlt:k<b.length:=by have:=of_decide_eq_true hc;omega
   refine F10 ?_
   refine I10 (K10 ?_)
   have hz:has l b[k]=true:=(P11 _ _).2 (h3 b[k] (List.getElem_mem hlt))
   refine A10 [] fun N E hN hE=>?_
   simp +decide only[ZS,↓reduceIte,X11 hlt,nat0,Int.toNat_natCast]
   refine C10 (has_c l b[k] hl) ?_
   rw[hz]
   simp +decide only[ZS,↓reduceIte]
   refine hN _ ?_
   clear hN hE N E
   refine O10 rfl (fun hc=>?_) (fun hc=>?_)
   ·cases hc
   refine F10 ?_
   refine P10 [] fun N E hN hE=>?_
   simp +decide only[ZS,↓reduceIte,wrapN (show k<9223372036854775807 by unfold lim at *;omega)]
   refine hN _ ?_
   clear hN hE N E
   exact ⟨k+1,⟨hlt,rfl,rfl,rfl,rfl,rfl,rfl⟩,by omega⟩
  ·refine A11 ?_
   exact ⟨rfl,rfl,rfl,rfl,rfl⟩
 rintro ⟨tm,H1,ds⟩ ⟨v0,v1,v2,gH,gds⟩
 obtain rfl:H=H1:=gH.symm
 obtain rfl:ds=[]:=gds
 refine B10 0 _ v0 (B10 1 _ v1 (B10 2 _ v2 ?_))
 clear v0 v1 v2
 refine A10 [] fun N E hN hE=>?_
 simp +decide only[ZS,↓reduceIte]
 refine hN _ ?_
 clear hN hE N E
 refine J10 (G10 6 rfl ?_)
 simp +decide only[ZS,↓reduceIte]
 exact hk
end
theorem freeOf_sn (e:Ex):SortedB (freeOf e)/\(freeOf e).Nodup:=by
 rw[freeOf_eq];exact ⟨goF_sorted _ _ _ _ (one_sorted _),goF_nodup _ _ _ _ (one_nodup _)⟩
theorem handlersOf_sn (e:Ex):SortedB (handlersOf e)/\(handlersOf e).Nodup:=by
 rw[A13];exact ⟨goF_sorted _ _ _ _ (one_sorted _),goF_nodup _ _ _ _ (one_nodup _)⟩
section
variable {H:HM}
theorem same0_c (hf:Fit zeroEx):PureF prog G0 30 [zeroEx.av,.agg [.int 0,.int 0,.str emp,.str emp,.nil0,.nil0,.nil0]] H (.bool true):=by
 have hs:PureF prog G0 30 [zeroEx.av,zeroEx.av] H (.bool (Ex.eqb zeroEx zeroEx)):=same_c zeroEx zeroEx hf
 rw[eqb_eq rfl] at hs
 refine PureF.view (.cons (View.refl _) (.cons ?_ .nil)) hs
 have hres:zeroEx.av=.agg [.int 0,.int 0,.str emp,.str emp,.list [],.list [],.list []]:=(ex_fold 0 0 emp emp [] [] []).symm
 rw[hres]
 exact View.agg (.cons (View.refl _) (.cons (View.refl _) (.cons (View.refl _) (.cons (View.refl _) (.cons View.nilr (.cons View.nilr (.cons View.nilr .nil)))))))
theorem fit_zero:Fit zeroEx:=by
 rw[Fit.eq]
 exact ⟨by unfold fit1;exact ⟨by decide,by decide,by decide,by decide,by decide,(fun s hs=>by cases hs),fun a ha=>by cases ha⟩,fun x hx=>by cases hx⟩
theorem substFreeLaw_c (e:Ex) (x:ByteArray) (w:Ex) (hie:Inp e) (hx:x.size<=bnd) (hiw:Inp w):PureF prog G0 8 [e.av,.str x,w.av] H (.bool true):=by
 have hlim:bnd<=lim:=by decide
 have hs:=fun H0=>sSubst_c (H:=H0) e hie x hx w hiw
 have hok:=fun h=>sSub_ok (x:=x) hie hiw h
 have hze:=fun h=>sSub_zero (e:=e) (v:=w) (x:=x) h
 have her:=fun h=>sSub_err (e:=e) (v:=w) (x:=x) h
 have hba:=fun h=>sSub_bad (e:=e) (v:=w) (x:=x) h
 generalize (sSub e x w).2=er at *
 generalize (sSub e x w).1=o at *
 refine L10 (fn:=f8) func8 rfl (by kernel_rfl) (by kernel_rfl) (Nat.le_of_ble_eq_true (by kernel_rfl)) fun K hk=>?_
 refine A10 [] fun N E hN hE=>?_
 simp +decide only[ZS,↓reduceIte]
 refine hN _ ?_
 clear hN hE N E
 refine A10 [] fun N E hN hE=>?_
 simp +decide only[ZS,↓reduceIte]
 refine C10 (hs _) ?_
 simp +decide only[ZS,↓reduceIte]
 refine M10 fun b7 hb7=>?_
 have k7:∀ cs,(H.upd b7 (.cells 27 cs)) b7=some (.cells 27 cs):=fun cs=>HM.upd_same _ _ _
 simp +decide only[ZS,↓reduceIte,k7]
 refine hN _ ?_
 clear hN hE N E
 try simp only[HM.upd_upd]
 refine O12 (i:=7) hb7 rfl ?_
 clear k7 hb7
 refine I10 (C11 [] (fun s'=>(∃ b,s'.tmps 34=.bool b/\(b=true->check e≠0\/isVar x=false\/check w≠0)/\(b=false->check e=0/\isVar x=true/\check w=0))/\s'.tmps 1=.str x/\s'.tmps 3=.ref e.av.cells/\s'.tmps 5=.ref w.av.cells/\s'.tmps 7=.ref o.av.cells/\s'.tmps 8=.int er/\s'.H=H/\s'.defs=[]) (fun N E hN hE=>?_) ?_)
 ·clear hE hk
  simp +decide only[ZS,↓reduceIte]
  refine C10 (check_c e hie.1) ?_
  by_cases c1:check e=0
  rotate_left 1
  ·simp +decide only[ZS,↓reduceIte,decide_eq_false c1]
   refine hN _ ⟨⟨true,rfl,fun _=>.inl c1,fun q=>(by cases q)⟩,rfl,by rw[D10];rfl,by rw[D10];rfl,by rw[D10];rfl,rfl,rfl,rfl⟩
  simp +decide only[ZS,↓reduceIte,decide_eq_true c1]
  refine C10 (check_c w hiw.1) ?_
  by_cases c2:check w=0
  rotate_left 1
  ·simp +decide only[ZS,↓reduceIte,decide_eq_true c1,decide_eq_false c2]
   refine hN _ ⟨⟨true,rfl,fun _=>.inr (.inr c2),fun q=>(by cases q)⟩,rfl,by rw[D10];rfl,by rw[D10];rfl,by rw[D10];rfl,rfl,rfl,rfl⟩
  simp +decide only[ZS,↓reduceIte,decide_eq_true c1,decide_eq_true c2]
  refine C10 (isVar_c x (Nat.le_trans hx hlim)) ?_
  cases c3:isVar x with
  |false=>
   simp +decide only[ZS,↓reduceIte,decide_eq_true c1,decide_eq_true c2]
   refine hN _ ⟨⟨true,rfl,fun _=>.inr (.inl c3),fun q=>(by cases q)⟩,rfl,by rw[D10];rfl,by rw[D10];rfl,by rw[D10];rfl,rfl,rfl,rfl⟩
  |true=>
   simp +decide only[ZS,↓reduceIte,decide_eq_true c1,decide_eq_true c2]
   refine hN _ ⟨⟨false,rfl,fun q=>(by cases q),fun _=>⟨c1,c3,c2⟩⟩,rfl,by rw[D10];rfl,by rw[D10];rfl,by rw[D10];rfl,rfl,rfl,rfl⟩
 rintro ⟨tm,H1,ds⟩ ⟨⟨bb,f34,hbt,hbf⟩,f1,f3,f5,f7,f8,gH,gds⟩
 obtain rfl:H=H1:=gH.symm
 obtain rfl:ds=[]:=gds
 rw[D10] at f3 f5 f7
 refine B10 34 _ f34 (B10 1 _ f1 (B10 3 _ f3 (B10 5 _ f5 (B10 7 _ f7 (B10 8 _ f8 ?_)))))
 clear f34 f1 f3 f5 f7 f8
 refine O10 rfl (fun hc=>?_) (fun hc=>?_)
 ·have hb:=hba (hbt hc)
  have hz:=hze hb
  subst hz
  refine A10 [] fun N E hN hE=>?_
  simp +decide only[ZS,↓reduceIte,decide_eq_false hb]
  refine C10 (same0_c fit_zero) ?_
  simp +decide only[ZS,↓reduceIte]
  refine C10 (awake_c _) ?_
  simp +decide only[ZS,↓reduceIte]
  refine hN _ ?_
  clear hN hE N E
  refine J10 (G10 6 rfl ?_)
  simp +decide only[ZS,↓reduceIte]
  exact hk
 obtain ⟨c1,c3,c2⟩:=hbf hc
 refine F10 ?_
 refine I10 (A10 [] fun N E hN hE=>?_)
 simp +decide only[ZS,↓reduceIte]
 refine hN _ ?_
 clear hN hE N E
 refine O10 rfl (fun hc=>?_) (fun hc=>?_)
 ·have hne:er≠0:=by simpa using hc
  have hz:=hze hne
  subst hz
  rcases her hne with ⟨_,q⟩|q|q|⟨q1,q2,q3⟩|q
  ·exact absurd c1 q
  ·rw[c3] at q;cases q
  ·exact absurd c2 q
  ·subst q1
   have hr:resB x e=true:=by
    rw[uses_k c1] at q3
    exact resB_sp e (chk c1) [] q3
   refine A10 [] fun N E hN hE=>?_
   simp +decide only[ZS,↓reduceIte,decide_eq_false q2,dT,dF]
   refine C10 (resB_c x e (hie.okk c1)) ?_
   rw[hr]
   simp +decide only[ZS,↓reduceIte,decide_eq_false q2,dT,dF]
   refine C10 (same0_c fit_zero) ?_
   simp +decide only[ZS,↓reduceIte]
   refine C10 (awake_c _) ?_
   simp +decide only[ZS,↓reduceIte]
   refine hN _ ?_
   clear hN hE N E
   refine J10 (G10 6 rfl ?_)
   simp +decide only[ZS,↓reduceIte]
   exact hk
  ·subst q
   refine A10 [] fun N E hN hE=>?_
   simp +decide only[ZS,↓reduceIte,dT,dF]
   refine C10 (same0_c fit_zero) ?_
   simp +decide only[ZS,↓reduceIte]
   refine C10 (awake_c _) ?_
   simp +decide only[ZS,↓reduceIte]
   refine hN _ ?_
   clear hN hE N E
   refine J10 (G10 6 rfl ?_)
   simp +decide only[ZS,↓reduceIte]
   exact hk
 have hz:er=0:=by simpa using hc
 have g:=hok hz
 have hoe:=hie.okk c1
 have how:=hiw.okk c2
 have ho:=g.ok
 refine F10 ?_
 have hfr:=fun H0=>sFree_c (H:=H0) o g.inp
 have hha:=fun H0=>sHandlers_c (H:=H0) o g.inp
 have hf1:refFree o=(freeOf o,0):=by unfold refFree;rw[if_pos g.c]
 have hf2:refHandlers o=(handlersOf o,0):=by unfold refHandlers;rw[if_pos g.c]
 rw[hf1] at hfr
 rw[hf2] at hha
 have hus:=fun H0=>sUses_c (H:=H0) e hie x hx c1 c3
 have hle:=subst_uses g
 have hsz:=subst_size g
 have hnm:=subst_names g
 have hne:=V11 c1
 have hnw:=V11 c2
 have hid:=g.id
 have hfo:=Nat.le_trans (freeOf_len o) (Nat.le_trans ho.2.2.1 hlim)
 have hho:=Nat.le_trans (C13 o) (Nat.le_trans ho.2.2.1 hlim)
 have hfe:=Nat.le_trans (freeOf_len e) (Nat.le_trans hoe.2.2.1 hlim)
 have hhe:=Nat.le_trans (C13 e) (Nat.le_trans hoe.2.2.1 hlim)
 have hfw:=Nat.le_trans (freeOf_len w) (Nat.le_trans how.2.2.1 hlim)
 have hhw:=Nat.le_trans (C13 w) (Nat.le_trans how.2.2.1 hlim)
 have hcx:0<cntD x (db e [])->FI false x e:=fun q=>(FI_db0 false x e).1 ((cnt_fv _).1 q)
 generalize cntD x (db e [])=cn at *
 refine A10 [] fun N E hN hE=>?_
 simp +decide only[ZS,↓reduceIte]
 refine C10 (hfr _) ?_
 simp +decide only[ZS,↓reduceIte]
 refine hN _ ?_
 clear hN hE N E
 refine A10 [] fun N E hN hE=>?_
 simp +decide only[ZS,↓reduceIte]
 refine C10 (hha _) ?_
 simp +decide only[ZS,↓reduceIte]
 refine hN _ ?_
 clear hN hE N E
 refine A10 [] fun N E hN hE=>?_
 simp +decide only[ZS,↓reduceIte]
 refine C10 (hus _) ?_
 simp +decide only[ZS,↓reduceIte]
 refine hN _ ?_
 clear hN hE N E
 have hin:(decide ((0:Int)<=(cn:Int))&&decide ((cn:Int)<=3000))=true:=by simp;omega
 obtain ⟨o1,o2⟩:=freeOf_sn o
 obtain ⟨o3,o4⟩:=handlersOf_sn o
 refine I10 (A10 [] fun N E hN hE=>?_)
 simp +decide only[ZS,↓reduceIte,decide_true]
 refine C10 (in_c (cn:Int) 0 3000) ?_
 rw[hin]
 simp +decide only[ZS,↓reduceIte,decide_true]
 refine C10 (lawSorted_c _ o1 o2 hfo) ?_
 simp +decide only[ZS,↓reduceIte,decide_true]
 refine C10 (lawSorted_c _ o3 o4 hho) ?_
 simp +decide only[ZS,↓reduceIte,decide_true]
 refine hN _ ?_
 clear hN hE N E
 refine O10 rfl (fun hc=>?_) (fun hc=>?_)
 ·cases hc
 refine F10 ?_
 have hw1:IntKind.i64.wrap (size w-1)=size w-1:=wrap64 (by omega) (by omega)
 have hbd : -9000000<=(cn:Int)*(size w-1)/\(cn:Int)*(size w-1)<=9000000:=by
  have h1:0<=(cn:Int):=by omega
  have h2:(cn:Int)<=3000:=by omega
  have h3 : -1<=size w-1:=by omega
  have h4:size w-1<=3000:=by omega
  have h5:(cn:Int)*(size w-1)<=(cn:Int)*3000:=Int.mul_le_mul_of_nonneg_left h4 h1
  have h6:(cn:Int)*(-1)<=(cn:Int)*(size w-1):=Int.mul_le_mul_of_nonneg_left h3 h1
  omega
 have hw2:IntKind.i64.wrap ((cn:Int)*(size w-1))=(cn:Int)*(size w-1):=wrap64 (by omega) (by omega)
 have hw3:IntKind.i64.wrap (size e+(cn:Int)*(size w-1))=size o:=by rw[hsz];exact wrap64 (by omega) (by omega)
 have hsame:decide (size o=size o)=true:=decide_eq_true rfl
 refine I10 (T12 [] 11 (by kernel_rfl) (by kernel_rfl) (by kernel_rfl) fun N E hN hE=>?_)
 simp only[List.take,List.drop]
 simp +decide only[ZS,QS,↓reduceIte,hw1,hw2,hw3,hsame]
 refine T10 (size_c o ho.1) ?_
 simp +decide only[ZS,QS,↓reduceIte,hw1,hw2,hw3,hsame]
 refine T10 (size_c e hie.1) ?_
 simp +decide only[ZS,QS,↓reduceIte,hw1,hw2,hw3,hsame]
 refine T10 (size_c w hiw.1) ?_
 simp +decide only[ZS,QS,↓reduceIte,hw1,hw2,hw3,hsame]
 refine hN _ ?_
 clear hN hE N E
 refine O10 rfl (fun hc=>?_) (fun hc=>?_)
 ·cases hc
 refine F10 ?_
 refine I10 (A10 [] fun N E hN hE=>?_)
 simp +decide only[ZS,↓reduceIte]
 refine hN _ ?_
 clear hN hE N E
 refine O10 rfl (fun hc=>?_) (fun hc=>?_)
 ·have hcn:cn=0:=by have:=of_decide_eq_true hc;omega
  have hoe2:o=e:=hid hcn
  subst hoe2
  have hd1:decide (freeOf o=freeOf o)=true:=decide_eq_true rfl
  have hd2:decide (handlersOf o=handlersOf o)=true:=decide_eq_true rfl
  have hd3:Ex.eqb o o=true:=eqb_eq rfl
  refine A10 [] fun N E hN hE=>?_
  simp +decide only[ZS,↓reduceIte]
  refine C10 (freeOf_c o hoe) ?_
  simp +decide only[ZS,↓reduceIte]
  refine C10 (same_names_c _ _ hfo) ?_
  rw[hd1]
  simp +decide only[ZS,↓reduceIte]
  refine C10 (handlersOf_c o hoe) ?_
  simp +decide only[ZS,↓reduceIte]
  refine C10 (same_names_c _ _ hho) ?_
  rw[hd2]
  simp +decide only[ZS,↓reduceIte]
  refine C10 (same_c o o hie.1) ?_
  rw[hd3]
  simp +decide only[ZS,↓reduceIte]
  refine C10 (awake_c _) ?_
  simp +decide only[ZS,↓reduceIte]
  refine hN _ ?_
  clear hN hE N E
  refine J10 (G10 6 rfl ?_)
  simp +decide only[ZS,↓reduceIte]
  exact hk
 have hcn:0<cn:=by have:=of_decide_eq_false hc;omega
 have hxe:=hcx hcn
 refine F10 ?_
 have ke:=chk c1
 have kw:=chk c2
 have ko:=ho.2.1
 have hwl:(without (freeOf e) x).length<=lim:=Nat.le_trans (List.length_filter_le _ _) hfe
 refine VW_regqC [] (fun s'=>s'.tmps 6=.bool true/\s'.H=H/\s'.defs=[]) 20 (by kernel_rfl) (headOkW_ok (by kernel_rfl)) (by kernel_rfl) (fun N E hN hE=>?_) ?_
 ·clear hE hk
  simp +decide only[ZS,QS,↓reduceIte]
  refine T10 (freeOf_c e hoe) ?_
  simp +decide only[ZS,QS,↓reduceIte]
  refine T10 (without_c _ x hfe) ?_
  simp +decide only[ZS,QS,↓reduceIte]
  refine T10 (freeOf_c w how) ?_
  simp +decide only[ZS,QS,↓reduceIte]
  refine T10 (union_c (freeOf o) (without (freeOf e) x) (freeOf w) (fun z hz=>?_) (fun z hz=>?_) (fun z hz=>?_) hfo hwl hfw) ?_
  ·rcases (hnm false z).1 ((J13 z o ko).1 hz) with ⟨q1,q2⟩|⟨_,q⟩
   ·exact .inl ((without_mem _ _ _).2 ⟨(J13 z e ke).2 q1,fun r=>q2 ⟨rfl,r⟩⟩)
   ·exact .inr ((J13 z w kw).2 q)
  ·obtain ⟨q1,q2⟩:=(without_mem _ _ _).1 hz
   exact (J13 z o ko).2 ((hnm false z).2 (.inl ⟨(J13 z e ke).1 q1,fun r=>q2 r.2⟩))
  ·exact (J13 z o ko).2 ((hnm false z).2 (.inr ⟨hxe,(J13 z w kw).1 hz⟩))
  simp +decide only[ZS,QS,↓reduceIte]
  refine T10 (handlersOf_c e hoe) ?_
  simp +decide only[ZS,QS,↓reduceIte]
  refine T10 (handlersOf_c w how) ?_
  simp +decide only[ZS,QS,↓reduceIte]
  refine T10 (union_c (handlersOf o) (handlersOf e) (handlersOf w) (fun z hz=>?_) (fun z hz=>?_) (fun z hz=>?_) hho hhe hhw) ?_
  ·rcases (hnm true z).1 ((Y11 z o ko).1 hz) with ⟨q1,q2⟩|⟨_,q⟩
   ·exact .inl ((Y11 z e ke).2 q1)
   ·exact .inr ((Y11 z w kw).2 q)
  ·exact (Y11 z o ko).2 ((hnm true z).2 (.inl ⟨(Y11 z e ke).1 hz,fun r=>(by cases r.1)⟩))
  ·exact (Y11 z o ko).2 ((hnm true z).2 (.inr ⟨hxe,(Y11 z w kw).1 hz⟩))
  simp +decide only[ZS,QS,↓reduceIte]
  refine T10 (awake_c _) ?_
  simp +decide only[ZS,QS,↓reduceIte]
  refine hN _ ⟨rfl,rfl,rfl⟩
 rintro ⟨tm2,H2,ds⟩ ⟨f6,gH,gds⟩
 obtain rfl:H=H2:=gH.symm
 obtain rfl:ds=[]:=gds
 refine B10 6 _ f6 ?_
 refine J10 (G10 6 rfl ?_)
 simp +decide only[ZS,↓reduceIte]
 exact hk
end
end Go.V
