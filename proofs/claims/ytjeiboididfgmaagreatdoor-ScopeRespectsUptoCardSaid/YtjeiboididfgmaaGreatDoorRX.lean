/- The program's scope: pairs of names, nodes that are alike. No condition. The program's scope: nodes that are alike. No condition. The program's scope: equal up to renaming. No condition. Equality up to renaming: plain laws. No condition. Alpha; the law ScopeAlpha over abstract states. No condition. -/
import Derived.Test.YtjeiboididfgmaaGreatDoorRH
import Derived.Test.YtjeiboididfgmaaGreatDoorRYh
set_option linter.unusedVariables false
set_option linter.unusedSimpArgs false
set_option linter.defProp false
set_option maxRecDepth 100000
namespace Go.V
open Go Go.Proofs.Tryz
abbrev Nm:=List ByteArray×List ByteArray
abbrev Pch:=List (Nm×Nm)
def pV:Pch->AV
 |[]=>.val (.pointer none)
 |c::ch=>.ref [.list (strs c.1.1),.list (strs c.1.2),.list (strs c.2.1),.list (strs c.2.2),pV ch]
theorem pV_cells (ch:Pch):(pV ch).cells=[pV ch]:=by cases ch<;>rfl
theorem pV_one (ch:Pch):(pV ch).one=true:=by cases ch<;>rfl
def selN (h:Bool) (p:Nm):List ByteArray:=if h then p.2 else p.1
def lastM (a b:ByteArray):List (ByteArray×ByteArray)->Option Bool
 |[]=>none
 |(x,y)::r=>if x=a\/y=b then some (decide (x=a)&&decide (y=b)) else lastM a b r
def sameP:Pch->ByteArray->ByteArray->Bool->Bool
 |[],a,b,_=>decide (a=b)
 |c::ch,a,b,h=>match lastM a b ((selN h c.1).zip (selN h c.2)).reverse with
  |some r=>r
  |none=>sameP ch a b h
def PchOk (ch:Pch):Prop:=∀ c∈ch,∀ h,(selN h c.1).length=(selN h c.2).length/\(selN h c.1).length<=bnd
theorem zip_take_succ {l m:List ByteArray} {i:Nat} (h:i<l.length) (h':i<m.length) (a b:ByteArray) :
  lastM a b ((l.zip m).take (i+1)).reverse=if l[i]=a\/m[i]=b then some (decide (l[i]=a)&&decide (m[i]=b)) else lastM a b ((l.zip m).take i).reverse:=by
 have hz:i<(l.zip m).length:=by rw[List.length_zip];omega
 rw[List.take_succ_eq_append_getElem hz,List.reverse_append]
 simp only[List.reverse_cons,List.reverse_nil,List.nil_append,List.singleton_append,List.getElem_zip,lastM]
section
variable {G:GT} {H:HM}
theorem sameP_c (ch:Pch) (hok:PchOk ch) (a b:ByteArray) (h:Bool):PureF prog G 120 [pV ch,.str a,.str b,.bool h] H (.bool (sameP ch a b h)):=by
 have hbb:=bnd_lt
 refine P10 (fn:=f120) func120 rfl (by kernel_rfl) (by kernel_rfl) (Nat.le_of_ble_eq_true (by kernel_rfl)) fun K hk=>?_
 refine A10 [] fun N E hN hE=>?_
 simp +decide only[ZS,↓reduceIte]
 refine hN _ ?_
 clear hN hE N E
 refine I10 (J10 ?_)
 refine C11 (fun (ch':Pch) s'=>PchOk ch'/\sameP ch a b h=sameP ch' a b h/\s'.tmps 0=pV ch'/\s'.tmps 1=.str a/\s'.tmps 2=.str b/\s'.tmps 3=.bool h/\s'.H=H/\s'.defs=[]) List.length ch ?_ ?_
 ·exact ⟨hok,rfl,rfl,rfl,rfl,rfl,rfl,rfl⟩
 rintro ch' ⟨tm,H',ds⟩ ⟨hok',hh,h0,h1,h2,h3,hH,hds⟩
 obtain rfl:H'=H:=hH
 obtain rfl:ds=[]:=hds
 rw[hh] at hk
 refine B10 1 _ h1 (B10 2 _ h2 (B10 3 _ h3 ?_))
 cases ch' with
 |nil=>
  refine B10 0 (.val (.pointer none)) h0 ?_
  refine I10 (A10 [] fun N E hN hE=>?_)
  simp +decide only[ZS,↓reduceIte]
  refine hN _ ?_
  clear hN hE N E
  refine T10 rfl (fun hc=>?_) (fun hc=>?_)
  ·cases hc
  refine L11 ?_
  refine A10 [] fun N E hN hE=>?_
  simp +decide only[ZS,↓reduceIte]
  refine hN _ ?_
  clear hN hE N E
  refine L10 (K10 8 rfl ?_)
  simp +decide only[ZS,↓reduceIte]
  exact hk
 |cons c ch'=>
  obtain ⟨⟨av,ah⟩,⟨bv,bh⟩⟩:=c
  refine B10 0 (.ref [.list (strs av),.list (strs ah),.list (strs bv),.list (strs bh),pV ch']) h0 ?_
  obtain ⟨hlen,hlb⟩:=hok' _ (List.mem_cons_self) h
  have hsa:selN h (av,ah)=if h then ah else av:=rfl
  have hsb:selN h (bv,bh)=if h then bh else bv:=rfl
  simp only[hsa,hsb] at hlen hlb
  have hsame:sameP (((av,ah),(bv,bh))::ch') a b h=match lastM a b (((if h then ah else av).zip (if h then bh else bv))).reverse with
   |some r=>r
   |none=>sameP ch' a b h:=rfl
  refine I10 (A10 [] fun N E hN hE=>?_)
  simp +decide only[ZS,↓reduceIte]
  refine hN _ ?_
  clear hN hE N E
  refine T10 rfl (fun hc=>?_) (fun hc=>?_)
  ·refine G10 ?_
   refine I10 (J10 ?_)
   refine V13 [] 12 (by kernel_rfl) (by kernel_rfl) (by kernel_rfl) fun N E hN hE=>?_
   simp only[List.take,List.drop]
   simp +decide only[ZS,QS,↓reduceIte]
   refine F11 (of_c av ah h) ?_
   simp +decide only[ZS,QS,↓reduceIte]
   refine F11 (of_c bv bh h) ?_
   simp +decide only[ZS,QS,↓reduceIte]
   refine hN _ ?_
   clear hN hE N E
   generalize (if h then ah else av)=l at *
   generalize (if h then bh else bv)=m at *
   have hw:IntKind.i64.wrap ((l.length:Int)-1)=l.length-1:=i64_small (by omega) (by omega)
   refine A10 [] fun N E hN hE=>?_
   simp +decide only[ZS,↓reduceIte,O10,hw]
   refine hN _ ?_
   clear hN hE N E
   refine J10 ?_
   refine C11 (fun (i:Nat) s'=>i<=l.length/\lastM a b (l.zip m).reverse=lastM a b ((l.zip m).take i).reverse/\s'.tmps 0=.ref [.list (strs av),.list (strs ah),.list (strs bv),.list (strs bh),pV ch']/\s'.tmps 1=.str a/\s'.tmps 2=.str b/\s'.tmps 3=.bool h/\s'.tmps 9=.list (strs l)/\s'.tmps 10=.list (strs m)/\s'.tmps 11=.int ((i:Int)-1)/\s'.H=H'/\s'.defs=[]) id l.length ?_ ?_
   ·exact ⟨Nat.le_refl _,by rw[List.take_of_length_le (by rw[List.length_zip];omega)],rfl,rfl,rfl,rfl,rfl,rfl,rfl,rfl,rfl⟩
   rintro i ⟨tm2,H2,ds⟩ ⟨hi,hlast,g0,g1,g2,g3,g9,g10,g11,gH,gds⟩
   obtain rfl:H2=H':=gH
   obtain rfl:ds=[]:=gds
   refine B10 0 _ g0 (B10 1 _ g1 (B10 2 _ g2 (B10 3 _ g3 (B10 9 _ g9 (B10 10 _ g10 (B10 11 _ g11 ?_))))))
   refine I10 (A10 [] fun N E hN hE=>?_)
   simp +decide only[ZS,↓reduceIte]
   refine hN _ ?_
   clear hN hE N E
   refine T10 rfl (fun hc=>?_) (fun hc=>?_)
   ·obtain ⟨i,rfl⟩:∃ k,i=k+1:=⟨i-1,by have:=of_decide_eq_true hc;omega⟩
    have hix:((i+1:Nat):Int)-1=i:=by omega
    have hlt:i<l.length:=by omega
    have hltm:i<m.length:=by omega
    have e1:=strs_at hlt
    have e2:=strs_at hltm
    rw[zip_take_succ hlt hltm] at hlast
    rw[hix]
    refine G10 ?_
    refine I10 (J10 ?_)
    refine O11 [] (fun s'=>s'.tmps 50=.bool (decide (l[i]=a)||decide (m[i]=b))/\s'.tmps 0=.ref [.list (strs av),.list (strs ah),.list (strs bv),.list (strs bh),pV ch']/\s'.tmps 1=.str a/\s'.tmps 2=.str b/\s'.tmps 3=.bool h/\s'.tmps 9=.list (strs l)/\s'.tmps 10=.list (strs m)/\s'.tmps 11=.int i/\s'.H=H2/\s'.defs=[]) (fun N E hN hE=>?_) ?_
    ·clear hE hk
     simp +decide only[ZS,↓reduceIte,e1,e2,nat0,Int.toNat_natCast]
     refine V10 (fun hb=>?_) (fun hb=>?_)
     ·simp +decide only[ZS,↓reduceIte,e1,e2,nat0,Int.toNat_natCast,hb]
      refine hN _ ⟨?_,rfl,rfl,rfl,rfl,rfl,rfl,rfl,rfl,rfl⟩
      simp +decide only[ZS,↓reduceIte]
      rw[hb];rfl
     ·simp +decide only[ZS,↓reduceIte,e1,e2,nat0,Int.toNat_natCast,hb]
      refine hN _ ⟨?_,rfl,rfl,rfl,rfl,rfl,rfl,rfl,rfl,rfl⟩
      simp +decide only[ZS,↓reduceIte]
      rw[hb];rfl
    rintro ⟨tm3,H3,ds⟩ ⟨f50,f0,f1,f2,f3,f9,f10,f11,fH,fds⟩
    obtain rfl:H3=H2:=fH
    obtain rfl:ds=[]:=fds
    refine B10 50 _ f50 (B10 0 _ f0 (B10 1 _ f1 (B10 2 _ f2 (B10 3 _ f3 (B10 9 _ f9 (B10 10 _ f10 (B10 11 _ f11 ?_)))))))
    refine T10 rfl (fun hc=>?_) (fun hc=>?_)
    ·have hor:l[i]=a\/m[i]=b:=by simpa using hc
     rw[if_pos hor] at hlast
     rw[hsame,hlast] at hk
     refine O11 [] (fun s'=>s'.tmps 8=.bool (decide (l[i]=a)&&decide (m[i]=b))/\s'.H=H3/\s'.defs=[]) (fun N E hN hE=>?_) ?_
     ·clear hE hk
      simp +decide only[ZS,↓reduceIte,e1,e2,nat0,Int.toNat_natCast]
      refine V10 (fun hb=>?_) (fun hb=>?_)
      ·simp +decide only[ZS,↓reduceIte,e1,e2,nat0,Int.toNat_natCast,hb]
       refine hN _ ⟨?_,rfl,rfl⟩
       simp +decide only[ZS,↓reduceIte]
       rw[hb];rfl
      ·simp +decide only[ZS,↓reduceIte,e1,e2,nat0,Int.toNat_natCast,hb]
       refine hN _ ⟨?_,rfl,rfl⟩
       simp +decide only[ZS,↓reduceIte]
       rw[hb];rfl
     rintro ⟨tm4,H4,ds⟩ ⟨q8,qH,qds⟩
     obtain rfl:H4=H3:=qH
     obtain rfl:ds=[]:=qds
     refine B10 8 _ q8 ?_
     refine L10 (K10 8 rfl ?_)
     simp +decide only[ZS,↓reduceIte]
     exact hk
    ·have hnor:¬ (l[i]=a\/m[i]=b):=by simpa using hc
     rw[if_neg hnor] at hlast
     refine G10 ?_
     have hw2:IntKind.i64.wrap ((i:Int)-1)=i-1:=i64_small (by omega) (by omega)
     refine R10 [] fun N E hN hE=>?_
     simp +decide only[ZS,↓reduceIte,hw2]
     refine hN _ ?_
     clear hN hE N E
     exact ⟨i,⟨by omega,hlast,rfl,rfl,rfl,rfl,rfl,rfl,rfl,rfl,rfl⟩,by simp⟩
   ·obtain rfl:i=0:=by have:=of_decide_eq_false hc;omega
    have hn:lastM a b (l.zip m).reverse=none:=by rw[hlast];rfl
    rw[hn] at hsame
    rw[hsame] at hk
    refine L11 ?_
    refine R10 [] fun N E hN hE=>?_
    simp +decide only[ZS,↓reduceIte]
    refine hN _ ?_
    clear hN hE N E
    refine ⟨ch',⟨fun c hc=>hok' c (by simp[hc]),by rw[hh,hsame],rfl,rfl,rfl,rfl,rfl,rfl⟩,by simp⟩
  ·cases hc
theorem sEqual_c (l m:List ByteArray) (hl:l.length<=bnd):PureF prog G 146 [.list (strs l),.list (strs m)] H (.bool (decide (l=m))):=by
 have hbb:=bnd_lt
 refine P10 (fn:=f146) func146 rfl (by kernel_rfl) (by kernel_rfl) (Nat.le_of_ble_eq_true (by kernel_rfl)) fun K hk=>?_
 refine A10 [] fun N E hN hE=>?_
 simp +decide only[ZS,↓reduceIte]
 refine hN _ ?_
 clear hN hE N E
 refine I10 (A10 [] fun N E hN hE=>?_)
 simp +decide only[ZS,↓reduceIte,O10]
 refine hN _ ?_
 clear hN hE N E
 refine T10 rfl (fun hc=>?_) (fun hc=>?_)
 ·have hne:l.length≠m.length:=by simp at hc;omega
  refine A10 [] fun N E hN hE=>?_
  simp +decide only[ZS,↓reduceIte]
  refine hN _ ?_
  clear hN hE N E
  refine L10 (K10 4 rfl ?_)
  simp +decide only[ZS,↓reduceIte]
  rw[decide_eq_false (fun e=>hne (by rw[e]))] at hk;exact hk
 have heq:l.length=m.length:=by simp at hc;omega
 refine G10 ?_
 refine I10 (A10 [] fun N E hN hE=>?_)
 simp +decide only[ZS,↓reduceIte,O10]
 refine hN _ ?_
 clear hN hE N E
 refine J10 ?_
 refine C11 (fun (k:Nat) s'=>k<=l.length/\l.take k=m.take k/\s'.tmps 0=.list (strs l)/\s'.tmps 1=.list (strs m)/\s'.tmps 12=.int l.length/\s'.tmps 13=.int k/\s'.H=H/\s'.defs=[]) (fun k=>l.length-k) 0 ?_ ?_
 ·exact ⟨Nat.zero_le _,rfl,rfl,rfl,rfl,rfl,rfl,rfl⟩
 rintro k ⟨tm,H',ds⟩ ⟨hk1,hk2,h0,h1,h12,h13,hH,hds⟩
 obtain rfl:H'=H:=hH
 obtain rfl:ds=[]:=hds
 refine B10 0 _ h0 (B10 1 _ h1 (B10 12 _ h12 (B10 13 _ h13 ?_)))
 refine A10 [] fun N E hN hE=>?_
 simp +decide only[ZS,↓reduceIte]
 refine hN _ ?_
 clear hN hE N E
 refine I10 (T10 rfl (fun hc=>?_) (fun hc=>?_))
 ·have hlt:k<l.length:=by have:=of_decide_eq_true hc;omega
  have hltm:k<m.length:=by omega
  have e1:=strs_at hlt
  have e2:=strs_at hltm
  refine G10 ?_
  refine I10 (J10 ?_)
  refine A10 [] fun N E hN hE=>?_
  simp +decide only[ZS,↓reduceIte]
  refine hN _ ?_
  clear hN hE N E
  refine V13 [] 9 (by kernel_rfl) (by kernel_rfl) (by kernel_rfl) fun N E hN hE=>?_
  simp only[List.take,List.drop]
  simp +decide only[ZS,QS,↓reduceIte,e1,e2,nat0,Int.toNat_natCast]
  refine hN _ ?_
  clear hN hE N E
  refine T10 rfl (fun hc=>?_) (fun hc=>?_)
  ·have hne:l[k]≠m[k]:=by simpa using hc
   refine A10 [] fun N E hN hE=>?_
   simp +decide only[ZS,↓reduceIte]
   refine hN _ ?_
   clear hN hE N E
   refine L10 (K10 4 rfl ?_)
   simp +decide only[ZS,↓reduceIte]
   rw[decide_eq_false (fun e=>hne (by simp[e]))] at hk;exact hk
  ·have he:l[k]=m[k]:=by simpa using hc
   refine G10 ?_
   refine R10 [] fun N E hN hE=>?_
   simp +decide only[ZS,↓reduceIte,wrapN (show k<9223372036854775807 by omega)]
   refine hN _ ?_
   clear hN hE N E
   refine ⟨k+1,⟨hlt,?_,rfl,rfl,rfl,rfl,rfl,rfl⟩,by omega⟩
   rw[List.take_succ_eq_append_getElem hlt,List.take_succ_eq_append_getElem hltm,hk2,he]
 ·have hk3:k=l.length:=by have:=of_decide_eq_false hc;omega
  subst hk3
  rw[List.take_length,List.take_of_length_le (by omega)] at hk2
  refine L11 ?_
  refine A10 [] fun N E hN hE=>?_
  simp +decide only[ZS,↓reduceIte]
  refine hN _ ?_
  clear hN hE N E
  refine L10 (K10 4 rfl ?_)
  simp +decide only[ZS,↓reduceIte]
  rw[decide_eq_true hk2] at hk;exact hk
end
def armF (a b:Ar):Bool:=decide (a.op=b.op)&&decide ((a.names.length:Int)=b.names.length)
def eqArms:List Ar->List Ar->Bool
 |[],[]=>true
 |a::l,b::m=>armF a b&&eqArms l m
 |_,_=>false
theorem eqArms_len:∀ {l m:List Ar},eqArms l m=true->l.length=m.length
 |[],[],_=>rfl
 |[],_::_,h=>by cases h
 |_::_,[],h=>by cases h
 |a::l,b::m,h=>by
  have:eqArms l m=true:=by
   have h':(armF a b&&eqArms l m)=true:=h
   simp only[Bool.and_eq_true] at h';exact h'.2
  simp[eqArms_len this]
def neF (a b:Ex):Bool:=!decide (a.k=b.k)||!decide (a.n=b.n)||!decide (a.t=b.t)||!decide ((a.names.length:Int)=b.names.length)||!decide ((a.l.length:Int)=b.l.length)||!decide ((a.arms.length:Int)=b.arms.length)
def alikeF (a b:Ex):Bool:=!neF a b&&!(!(occ a).2.2&&!decide (a.s=b.s))&&!(decide (a.k=17)&&!decide (a.names.drop 1=b.names.drop 1))&&eqArms a.arms b.arms
section
variable {G:GT} {H:HM}
theorem arm_alike_c (a b:Ar):PureF prog G 148 [a.av,b.av] H (.bool (armF a b)):=by
 refine P10 (fn:=f148) func148 rfl (by kernel_rfl) (by kernel_rfl) (Nat.le_of_ble_eq_true (by kernel_rfl)) fun K hk=>?_
 refine A10 [] fun N E hN hE=>?_
 simp +decide only[ZS,↓reduceIte]
 refine hN _ ?_
 clear hN hE N E
 refine O11 [] (fun s'=>s'.tmps 4=.bool (armF a b)/\s'.H=H/\s'.defs=[]) (fun N E hN hE=>?_) ?_
 ·clear hE
  try clear hk
  simp +decide only[ZS,↓reduceIte,O10]
  repeat' (refine V10 (fun hb=>?_) (fun hb=>?_)<;>simp +decide only[ZS,↓reduceIte,O10, *])
  all_goals refine hN _ ?_
  all_goals clear hN
  all_goals refine ⟨?_,?_,?_⟩
  all_goals first|rfl|assumption|(simp only[C10];rfl)|(simp +decide only[ZS,↓reduceIte]<;>simp_all[armF];done)|(simp +decide only[ZS,↓reduceIte]<;>simp_all[armF]<;>omega)
 rintro ⟨tb1,Hb1,dsb⟩ ⟨fb4,gHb,gdsb⟩
 obtain rfl:H=Hb1:=gHb.symm
 obtain rfl:dsb=[]:=gdsb
 try simp only[C10] at fb4
 refine B10 4 _ fb4 ?_
 refine L10 (K10 4 rfl ?_)
 simp +decide only[ZS,↓reduceIte]
 exact hk
theorem equalArms_c (l m:List Ar) (hl:l.length<=bnd):PureF prog G 147 [.list (ars l),.list (ars m),.func (.func 148) [] []] H (.bool (eqArms l m)):=by
 have hbb:=bnd_lt
 refine P10 (fn:=f147) func147 rfl (by kernel_rfl) (by kernel_rfl) (Nat.le_of_ble_eq_true (by kernel_rfl)) fun K hk=>?_
 refine A10 [] fun N E hN hE=>?_
 simp +decide only[ZS,↓reduceIte]
 refine hN _ ?_
 clear hN hE N E
 refine I10 (A10 [] fun N E hN hE=>?_)
 simp +decide only[ZS,↓reduceIte,U11]
 refine hN _ ?_
 clear hN hE N E
 refine T10 rfl (fun hc=>?_) (fun hc=>?_)
 ·have hne:l.length≠m.length:=by simp at hc;omega
  refine A10 [] fun N E hN hE=>?_
  simp +decide only[ZS,↓reduceIte]
  refine hN _ ?_
  clear hN hE N E
  refine L10 (K10 6 rfl ?_)
  simp +decide only[ZS,↓reduceIte]
  have:eqArms l m=false:=by
   cases h:eqArms l m with
   |false=>rfl
   |true=>exact absurd (eqArms_len h) hne
  rw[this] at hk;exact hk
 have heq:l.length=m.length:=by simp at hc;omega
 refine G10 ?_
 refine I10 (A10 [] fun N E hN hE=>?_)
 simp +decide only[ZS,↓reduceIte,U11]
 refine hN _ ?_
 clear hN hE N E
 refine J10 ?_
 refine C11 (fun (k:Nat) s'=>k<=l.length/\eqArms l m=eqArms (l.drop k) (m.drop k)/\s'.tmps 1=.list (ars m)/\s'.tmps 2=.func (.func 148) [] []/\s'.tmps 15=.list (ars l)/\s'.tmps 16=.int l.length/\s'.tmps 17=.int k/\s'.H=H/\s'.defs=[]) (fun k=>l.length-k) 0 ?_ ?_
 ·exact ⟨Nat.zero_le _,rfl,rfl,rfl,rfl,rfl,rfl,rfl,rfl⟩
 rintro k ⟨tm,H',ds⟩ ⟨hk1,hk2,h1,h2,h15,h16,h17,hH,hds⟩
 obtain rfl:H'=H:=hH
 obtain rfl:ds=[]:=hds
 refine B10 1 _ h1 (B10 2 _ h2 (B10 15 _ h15 (B10 16 _ h16 (B10 17 _ h17 ?_))))
 refine A10 [] fun N E hN hE=>?_
 simp +decide only[ZS,↓reduceIte]
 refine hN _ ?_
 clear hN hE N E
 refine I10 (T10 rfl (fun hc=>?_) (fun hc=>?_))
 ·have hlt:k<l.length:=by have:=of_decide_eq_true hc;omega
  have hltm:k<m.length:=by omega
  have e1:=ars_at hlt
  have e2:=ars_at hltm
  rw[W11 hlt,W11 hltm] at hk2
  refine G10 ?_
  refine I10 (J10 ?_)
  refine A10 [] fun N E hN hE=>?_
  simp +decide only[ZS,↓reduceIte,e1,nat0,Int.toNat_natCast]
  refine F10 fun b hbn=>?_
  simp +decide only[ZS,↓reduceIte,e1,nat0,Int.toNat_natCast]
  refine hN _ ?_
  clear hN hE N E
  refine V11 (i:=8) hbn rfl ?_
  clear hbn
  refine A10 [] fun N E hN hE=>?_
  simp +decide only[ZS,↓reduceIte,e2,nat0,Int.toNat_natCast]
  refine F10 fun b hbn=>?_
  simp +decide only[ZS,↓reduceIte,e2,nat0,Int.toNat_natCast]
  refine hN _ ?_
  clear hN hE N E
  refine V11 (i:=9) hbn rfl ?_
  clear hbn
  refine A10 [] fun N E hN hE=>?_
  simp +decide only[ZS,↓reduceIte]
  refine CallV.mono (CallF.callV (by kernel_rfl) ((arm_alike_c l[k] m[k]).2 (fun r H1=>r=.ret (.bool (armF l[k] m[k]))/\H1=H') ⟨rfl,rfl⟩)) ?_
  rintro r H1 ⟨rfl,rfl⟩
  rw[M10]
  simp +decide only[ZS,↓reduceIte]
  refine hN _ ?_
  clear hN hE N E
  refine T10 rfl (fun hc=>?_) (fun hc=>?_)
  ·have hf:armF l[k] m[k]=false:=by simpa using hc
   refine A10 [] fun N E hN hE=>?_
   simp +decide only[ZS,↓reduceIte]
   refine hN _ ?_
   clear hN hE N E
   refine L10 (K10 6 rfl ?_)
   simp +decide only[ZS,↓reduceIte]
   have:eqArms l m=false:=by
    rw[hk2]
    show (armF l[k] m[k]&&_)=false
    rw[hf];rfl
   rw[this] at hk;exact hk
  have hf:armF l[k] m[k]=true:=by simpa using hc
  refine G10 ?_
  refine R10 [] fun N E hN hE=>?_
  simp +decide only[ZS,↓reduceIte,wrapN (show k<9223372036854775807 by omega)]
  refine hN _ ?_
  clear hN hE N E
  refine ⟨k+1,⟨hlt,?_,rfl,rfl,rfl,rfl,rfl,rfl,rfl⟩,by omega⟩
  rw[hk2]
  show (armF l[k] m[k]&&_)=_
  rw[hf];rfl
 ·have hk3:k=l.length:=by have:=of_decide_eq_false hc;omega
  subst hk3
  rw[List.drop_of_length_le (Nat.le_refl _),List.drop_of_length_le (by omega)] at hk2
  refine L11 ?_
  refine A10 [] fun N E hN hE=>?_
  simp +decide only[ZS,↓reduceIte]
  refine hN _ ?_
  clear hN hE N E
  refine L10 (K10 6 rfl ?_)
  simp +decide only[ZS,↓reduceIte]
  rw[hk2] at hk;exact hk
theorem alike_c (a b:Ex) (hf:fit1 a) (hna:nodeErr a=0):PureF prog G 119 [a.av,b.av] H (.bool (alikeF a b)):=by
 have hbb:=bnd_lt
 have hfit:=hf
 obtain ⟨_,_,hnl,_,hal,_⟩:=hf
 refine P10 (fn:=f119) func119 rfl (by kernel_rfl) (by kernel_rfl) (Nat.le_of_ble_eq_true (by kernel_rfl)) fun K hk=>?_
 refine A10 [] fun N E hN hE=>?_
 simp +decide only[ZS,↓reduceIte]
 refine hN _ ?_
 clear hN hE N E
 refine I10 (O11 [] (fun s'=>s'.tmps 53=.bool (neF a b)/\s'.tmps 2=.ref a.av.cells/\s'.tmps 3=.ref b.av.cells/\s'.H=H/\s'.defs=[]) (fun N E hN hE=>?_) ?_)
 ·clear hE
  try clear hk
  simp +decide only[ZS,↓reduceIte,O10,Z10,U11]
  repeat' (refine V10 (fun hb=>?_) (fun hb=>?_)<;>simp +decide only[ZS,↓reduceIte,O10,Z10,U11, *])
  all_goals refine hN _ ?_
  all_goals clear hN
  all_goals refine ⟨?_,?_,?_,?_,?_⟩
  all_goals first|rfl|assumption|(simp only[C10];rfl)|(simp +decide only[ZS,↓reduceIte]<;>simp_all[neF];done)|(simp +decide only[ZS,↓reduceIte]<;>simp_all[neF]<;>omega)
 rintro ⟨tb2,Hb2,dsb⟩ ⟨fb53,fb2,fb3,gHb,gdsb⟩
 obtain rfl:H=Hb2:=gHb.symm
 obtain rfl:dsb=[]:=gdsb
 try simp only[C10] at fb2 fb3
 refine B10 53 _ fb53 (B10 2 _ fb2 (B10 3 _ fb3 ?_))
 refine T10 rfl (fun hc=>?_) (fun hc=>?_)
 ·refine A10 [] fun N E hN hE=>?_
  simp +decide only[ZS,↓reduceIte]
  refine hN _ ?_
  clear hN hE N E
  refine L10 (K10 4 rfl ?_)
  simp +decide only[ZS,↓reduceIte]
  rw[show alikeF a b=false by unfold alikeF;rw[hc];rfl] at hk;exact hk
 have hne:neF a b=false:=hc
 refine G10 ?_
 refine I10 (A10 [] fun N E hN hE=>?_)
 simp +decide only[ZS,↓reduceIte]
 refine D10 (occ_c a) ?_
 simp +decide only[ZS,↓reduceIte]
 refine hN _ ?_
 clear hN hE N E
 refine O11 [] (fun s'=>s'.tmps 68=.bool (!(occ a).2.2&&!decide (a.s=b.s))/\s'.tmps 2=.ref a.av.cells/\s'.tmps 3=.ref b.av.cells/\s'.H=H/\s'.defs=[]) (fun N E hN hE=>?_) ?_
 ·clear hE
  try clear hk
  simp +decide only[ZS,↓reduceIte]
  repeat' (refine V10 (fun hb=>?_) (fun hb=>?_)<;>simp +decide only[ZS,↓reduceIte, *])
  all_goals refine hN _ ?_
  all_goals clear hN
  all_goals refine ⟨?_,?_,?_,?_,?_⟩
  all_goals first|rfl|assumption|(simp only[C10];rfl)|(simp +decide only[ZS,↓reduceIte]<;>simp_all;done)|(simp +decide only[ZS,↓reduceIte]<;>simp_all<;>omega)
 rintro ⟨tb3,Hb3,dsb⟩ ⟨fb68,fb2,fb3,gHb,gdsb⟩
 obtain rfl:H=Hb3:=gHb.symm
 obtain rfl:dsb=[]:=gdsb
 try simp only[C10] at fb2 fb3
 refine B10 68 _ fb68 (B10 2 _ fb2 (B10 3 _ fb3 ?_))
 refine T10 rfl (fun hc=>?_) (fun hc=>?_)
 ·refine A10 [] fun N E hN hE=>?_
  simp +decide only[ZS,↓reduceIte]
  refine hN _ ?_
  clear hN hE N E
  refine L10 (K10 4 rfl ?_)
  simp +decide only[ZS,↓reduceIte]
  rw[show alikeF a b=false by unfold alikeF;rw[hc,hne];rfl] at hk;exact hk
 have hs:(!(occ a).2.2&&!decide (a.s=b.s))=false:=hc
 refine G10 ?_
 have heq:alikeF a b=(!(decide (a.k=17)&&!decide (a.names.drop 1=b.names.drop 1))&&eqArms a.arms b.arms):=by
  unfold alikeF;rw[hne,hs];rfl
 have hlen:a.names.length=b.names.length:=by
  simp only[neF,Bool.or_eq_false_iff,Bool.not_eq_false',decide_eq_true_eq] at hne
  omega
 refine I10 (VW_regqC [] (fun s'=>s'.tmps 81=.bool (decide (a.k=17)&&!decide (a.names.drop 1=b.names.drop 1))/\s'.tmps 2=.ref a.av.cells/\s'.tmps 3=.ref b.av.cells/\s'.H=H/\s'.defs=[]) 13 (by kernel_rfl) (by kernel_rfl) (by kernel_rfl) (fun N E hN hE=>?_) ?_)
 ·clear hE hk
  simp only[List.take,List.drop]
  cases h17:decide (a.k=17) with
  |false=>
   simp +decide only[ZS,QS,↓reduceIte,h17]
   refine hN _ ⟨?_,by rw[C10];rfl,by rw[C10];rfl,rfl,rfl⟩
   simp +decide only[ZS,↓reduceIte]
   rw[h17];rfl
  |true=>
   have hk17:a.k=17:=of_decide_eq_true h17
   have hn1:=one_name hna (.inr (.inr hk17))
   have g1:((1:Int)<=(a.names.length:Int))=True:=eq_true (by omega)
   have g2:((1:Int)<=(b.names.length:Int))=True:=eq_true (by omega)
   have ht1:Int.toNat 1=1:=rfl
   have hdl:(a.names.drop 1).length<=bnd:=by rw[List.length_drop];omega
   simp +decide only[ZS,QS,↓reduceIte,h17,O10,strs_szc,g1,g2,ht1,strs_drop]
   refine F11 (sEqual_c (a.names.drop 1) (b.names.drop 1) hdl) ?_
   simp +decide only[ZS,QS,↓reduceIte,h17]
   refine hN _ ⟨?_,by rw[C10];rfl,by rw[C10];rfl,rfl,rfl⟩
   simp +decide only[ZS,↓reduceIte]
   rw[h17];rfl
 rintro ⟨tm,H',ds⟩ ⟨f81,f2,f3,gH,gds⟩
 obtain rfl:H'=H:=gH
 obtain rfl:ds=[]:=gds
 rw[C10] at f2 f3
 refine B10 81 _ f81 (B10 2 _ f2 (B10 3 _ f3 ?_))
 refine T10 rfl (fun hc=>?_) (fun hc=>?_)
 ·refine A10 [] fun N E hN hE=>?_
  simp +decide only[ZS,↓reduceIte]
  refine hN _ ?_
  clear hN hE N E
  refine L10 (K10 4 rfl ?_)
  simp +decide only[ZS,↓reduceIte]
  rw[show alikeF a b=false by rw[heq,hc];rfl] at hk;exact hk
 refine G10 ?_
 refine A10 [] fun N E hN hE=>?_
 simp +decide only[ZS,↓reduceIte]
 refine D10 (equalArms_c a.arms b.arms hal) ?_
 simp +decide only[ZS,↓reduceIte]
 refine hN _ ?_
 clear hN hE N E
 refine L10 (K10 4 rfl ?_)
 simp +decide only[ZS,↓reduceIte]
 rw[show alikeF a b=eqArms a.arms b.arms by rw[heq,hc];rfl] at hk;exact hk
end
theorem vresults_bit {P:Program} {fn:Func} {tm:Nat->AV} {H:HM} {a t b:Nat} {et:Nat} {v:AV} {ti:TI} (h:fn.results = #[.cell a t]) (ht:tiOf P t=some ti) (hag:ti.agg=false) (ha:tm a=.addr b 0) (hb:H b=some (.cells et [v])) :
  vresults P fn H tm=some v:=by
 simp[vresults,vresL,vres,h,ht,ha,cellsAt,hb,ldv,hag]
def goA (a b:Ex) (ch:Pch):Nat->List (Ex->Pch->Bool)->List Ex->Bool
 |i,r::rs,x::xs=>r x (((vOf a i,hOf a i),(vOf b i,hOf b i))::ch)&&goA a b ch (i+1) rs xs
 |_,_,_=>true
def alphaF:Ex->Ex->Pch->Bool:=Ex.para fun a rs b ch=>alikeF a b&&!((occ a).2.2&&!sameP ch (occ a).1 (occ b).1 (occ a).2.1)&&goA a b ch 0 rs b.parts
theorem alphaF_eq (a b:Ex) (ch:Pch):alphaF a b ch=(alikeF a b&&!((occ a).2.2&&!sameP ch (occ a).1 (occ b).1 (occ a).2.1)&&goA a b ch 0 (a.parts.map alphaF) b.parts):=by
 unfold alphaF;rw[Ex.para_eq]
theorem eqArms_at:∀ {l m:List Ar} {j:Nat} (h:eqArms l m=true) (h1:j<l.length) (h2:j<m.length),armF l[j] m[j]=true
 |[],_,_,_,h1,_=>absurd h1 (by simp)
 |_::_,[],_,h,_,_=>by cases h
 |a::l,b::m,j,h,h1,h2=>by
  have h':(armF a b&&eqArms l m)=true:=h
  simp only[Bool.and_eq_true] at h'
  cases j with
  |zero=>exact h'.1
  |succ j=>exact eqArms_at h'.2 (by simpa using h1) (by simpa using h2)
structure Like (a b:Ex):Prop where
 k:a.k=b.k
 n:a.n=b.n
 t:a.t=b.t
 names:a.names.length=b.names.length
 l:a.l.length=b.l.length
 arms:a.arms.length=b.arms.length
 s:(occ a).2.2=false->a.s=b.s
 labels:a.k=17->a.names.drop 1=b.names.drop 1
 arm:eqArms a.arms b.arms=true
theorem alikeF_like {a b:Ex}:alikeF a b=true↔Like a b:=by
 constructor
 ·intro h
  simp only[alikeF,neF,Bool.and_eq_true,Bool.not_eq_true',Bool.or_eq_false_iff,Bool.not_eq_false',decide_eq_true_eq] at h
  obtain ⟨⟨⟨⟨⟨⟨⟨⟨h1,h2⟩,h3⟩,h4⟩,h5⟩,h6⟩,h7⟩,h8⟩,h9⟩:=h
  refine ⟨h1,h2,h3,by omega,by omega,by omega,fun q=>?_,fun q=>?_,h9⟩
  ·rw[q] at h7;simpa using h7
  ·rw[decide_eq_true q] at h8;simpa using h8
 ·rintro ⟨h1,h2,h3,h4,h5,h6,h7,h8,h9⟩
  simp only[alikeF,neF,Bool.and_eq_true,Bool.not_eq_true',Bool.or_eq_false_iff,Bool.not_eq_false',decide_eq_true_eq]
  refine ⟨⟨⟨⟨⟨⟨⟨⟨h1,h2⟩,h3⟩,by omega⟩,by omega⟩,by omega⟩,?_⟩,?_⟩,h9⟩
  ·cases q:(occ a).2.2 with
   |true=>rfl
   |false=>simp[h7 q]
  ·by_cases q:a.k=17
   ·simp[h8 q]
   ·simp[q]
theorem vOf_len2 {a b:Ex} (h:Like a b) (i:Nat):(vOf a i).length=(vOf b i).length:=by
 unfold vOf
 rw[h.l]
 split
 ·unfold ownV own1
  rw[h.k]
  split
  ·rw[List.length_take,List.length_take,h.names]
  ·split
   ·rw[List.length_take,List.length_take,h.names]
   ·rfl
 ·by_cases hi:i-b.l.length<a.arms.length
  ·have hj:i-b.l.length<b.arms.length:=by rw[<-h.arms];exact hi
   rw[List.getElem?_eq_getElem hi,List.getElem?_eq_getElem hj]
   have:=eqArms_at h.arm hi hj
   simp only[armF,Bool.and_eq_true,decide_eq_true_eq] at this
   exact Int.ofNat_inj.1 this.2
  ·rw[List.getElem?_eq_none (by omega),List.getElem?_eq_none (by rw[<-h.arms];omega)]
theorem hOf_len2 {a b:Ex} (h:Like a b) (i:Nat):(hOf a i).length=(hOf b i).length:=by
 unfold hOf
 rw[h.l]
 split
 ·unfold ownH
  rw[h.k]
  split
  ·exact h.names
  ·rfl
 ·rfl
theorem vOf_bnd {e:Ex} (hf:fit1 e) (i:Nat):(vOf e i).length<=bnd:=by
 obtain ⟨_,_,hn,_,_,_,hx⟩:=hf
 unfold vOf ownV
 split
 ·split
  ·rw[List.length_take];omega
  ·split
   ·rw[List.length_take];omega
   ·exact Nat.zero_le _
 ·split
  ·rename_i a ha
   exact (hx a (List.mem_of_getElem? ha)).2.1
  ·exact Nat.zero_le _
theorem hOf_bnd {e:Ex} (hf:fit1 e) (i:Nat):(hOf e i).length<=bnd:=by
 obtain ⟨_,_,hn,_⟩:=hf
 unfold hOf ownH
 split
 ·split
  ·omega
  ·exact Nat.zero_le _
 ·exact Nat.zero_le _
theorem PchOk.cons {a b:Ex} {ch:Pch} (hch:PchOk ch) (h:Like a b) (hf:fit1 a) (i:Nat):PchOk (((vOf a i,hOf a i),(vOf b i,hOf b i))::ch):=by
 intro c hc
 rcases List.mem_cons.1 hc with rfl|hc
 ·intro q
  cases q
  ·exact ⟨vOf_len2 h i,vOf_bnd hf i⟩
  ·exact ⟨hOf_len2 h i,hOf_bnd hf i⟩
 ·exact hch c hc
theorem Like.parts {a b:Ex} (h:Like a b):a.parts.length=b.parts.length:=by
 rw[Z11,Z11,h.l,h.arms]
def partL (e:Ex):List AV:=e.parts.zipIdx.map fun p=>partAV e p.2 p.1
theorem partL_len (e:Ex):(partL e).length=e.parts.length:=by simp[partL]
theorem partL_at {e:Ex} {i:Nat} (h:i<e.parts.length):(partL e)[i]?=some (partAV e i e.parts[i]):=by
 simp[partL,List.getElem?_eq_getElem h]
theorem partL_take {e:Ex} {i:Nat} (h:i<e.parts.length):(partL e).take (i+1)=(partL e).take i++[partAV e i e.parts[i]]:=by
 rw[List.take_add_one,partL_at h];rfl
section
variable {G:GT}
theorem alpha_c (a:Ex):∀ {H:HM} (ha:Okk a) (b:Ex) (hb:Okk b) (ch:Pch) (hch:PchOk ch),PureF prog G 74 [a.av,b.av,pV ch] H (.bool (alphaF a b ch)):=by
 induction a using Ex.ind with
 |step a ih=>
  intro H ha b hb ch hch
  have hfa:=ha.1.one
  have hfb:=hb.1.one
  have hna:=ha.node
  have hnb:=hb.node
  have hlimb:bnd+bnd<lim:=by decide
  refine P10 (fn:=f74) func74 rfl (by kernel_rfl) (by kernel_rfl) (Nat.le_of_ble_eq_true (by kernel_rfl)) fun K hk=>?_
  refine A10 [] fun N E hN hE=>?_
  simp +decide only[ZS,↓reduceIte,pV_cells,pV_one]
  refine F10 fun r hr=>?_
  simp +decide only[ZS,↓reduceIte,pV_cells,pV_one]
  refine hN _ ?_
  clear hN hE N E
  have hrs:∀ cs:List AV,(H.upd r (.cells 4 cs)) r=some (.cells 4 cs):=fun cs=>HM.upd_same _ _ _
  have fin:∀ (tm:Nat->AV) (c:Bool) (ds:List ADef),tm 6=.addr r 0->(∀ d∈ds,∃ D,d=.mark D)->K (.ret (.bool c)) H->Fin prog G f74 K .ret ⟨tm,H.upd r (.cells 4 [.bool c]),ds⟩:=fun tm c ds h6 hd hv=>
   ⟨hd,_,_,H,vresults_bit (a:=6) (t:=4) rfl ti4 rfl h6 (hrs _),Drop.upd hr,View.of_drop (Drop.upd hr) _,hv⟩
  refine I10 (A10 [] fun N E hN hE=>?_)
  simp +decide only[ZS,↓reduceIte]
  refine D10 (alike_c a b hfa hna) ?_
  simp +decide only[ZS,↓reduceIte]
  refine hN _ ?_
  clear hN hE N E
  rw[alphaF_eq] at hk
  refine T10 rfl (fun hc=>?_) (fun hc=>?_)
  ·have hc1:alikeF a b=false:=by simpa using hc
   rw[hc1] at hk
   refine A10 [] fun N E hN hE=>?_
   simp +decide only[ZS,↓reduceIte,hrs]
   refine hN _ ?_
   clear hN hE N E
   refine L10 (fin _ _ _ rfl (fun d hd=>by cases hd) ?_)
   exact hk
  have hc1:alikeF a b=true:=by simpa using hc
  have hlike:=alikeF_like.1 hc1
  rw[hc1] at hk
  refine G10 ?_
  refine A10 [] fun N E hN hE=>?_
  simp +decide only[ZS,↓reduceIte]
  refine D10 (occ_c a) ?_
  simp +decide only[ZS,↓reduceIte]
  refine hN _ ?_
  clear hN hE N E
  refine A10 [] fun N E hN hE=>?_
  simp +decide only[ZS,↓reduceIte]
  refine D10 (occ_c b) ?_
  simp +decide only[ZS,↓reduceIte]
  refine hN _ ?_
  clear hN hE N E
  refine I10 (O11 [] (fun s'=>s'.tmps 42=.bool ((occ a).2.2&&!sameP ch (occ a).1 (occ b).1 (occ a).2.1)/\s'.tmps 3=.ref a.av.cells/\s'.tmps 4=.ref b.av.cells/\s'.tmps 5=.ref [pV ch]/\s'.tmps 6=.addr r 0/\s'.H=H.upd r (.cells 4 [.bool false])/\s'.defs=[]) (fun N E hN hE=>?_) ?_)
  ·clear hE hk
   simp +decide only[ZS,↓reduceIte]
   refine V10 (fun hb1=>?_) (fun hb1=>?_)
   ·simp +decide only[ZS,↓reduceIte,hb1,pV_cells,pV_one]
    refine D10 (sameP_c ch hch _ _ _) ?_
    simp +decide only[ZS,↓reduceIte,hb1]
    refine hN _ ⟨?_,by rw[C10];rfl,by rw[C10];rfl,rfl,rfl,rfl,rfl⟩
    simp +decide only[ZS,↓reduceIte]
    rw[hb1];rfl
   ·simp +decide only[ZS,↓reduceIte,hb1]
    refine hN _ ⟨?_,by rw[C10];rfl,by rw[C10];rfl,rfl,rfl,rfl,rfl⟩
    simp +decide only[ZS,↓reduceIte]
    rw[hb1];rfl
  rintro ⟨tm,H',ds⟩ ⟨f42,f3,f4,f5,f6,gH,gds⟩
  obtain rfl:H'=H.upd r (.cells 4 [.bool false]):=gH
  obtain rfl:ds=[]:=gds
  rw[C10] at f3 f4
  refine B10 42 _ f42 (B10 3 _ f3 (B10 4 _ f4 (B10 5 _ f5 (B10 6 _ f6 ?_))))
  refine T10 rfl (fun hc=>?_) (fun hc=>?_)
  ·have hc2:((occ a).2.2&&!sameP ch (occ a).1 (occ b).1 (occ a).2.1)=true:=hc
   rw[hc2] at hk
   refine A10 [] fun N E hN hE=>?_
   simp +decide only[ZS,↓reduceIte,hrs]
   refine hN _ ?_
   clear hN hE N E
   refine L10 (fin _ _ _ rfl (fun d hd=>by cases hd) ?_)
   exact hk
  have hc2:((occ a).2.2&&!sameP ch (occ a).1 (occ b).1 (occ a).2.1)=false:=hc
  rw[hc2] at hk
  have hk:K (.ret (.bool (goA a b ch 0 (a.parts.map alphaF) b.parts))) H:=hk
  refine G10 ?_
  generalize hHb:H.upd r (.cells 4 [.bool false])=Hb at *
  refine A10 [] fun N E hN hE=>?_
  simp +decide only[ZS,↓reduceIte]
  refine F10 fun c hc3=>?_
  simp +decide only[ZS,↓reduceIte]
  refine hN _ ?_
  clear hN hE N E
  refine I10 (A10 [] fun N E hN hE=>?_)
  simp +decide only[ZS,↓reduceIte]
  refine D10 (sParts_c b) ?_
  simp +decide only[ZS,↓reduceIte]
  refine hN _ ?_
  clear hN hE N E
  refine J10 ?_
  refine V12 fun tm1 htm=>?_
  have t44:tm1 44=.func (.func 136) [] [.ref b.av.cells]:=by rw[htm,C10];rfl
  have t3:tm1 3=.ref a.av.cells:=by rw[htm,C10];rfl
  have t4:tm1 4=.ref b.av.cells:=by rw[htm,C10];rfl
  have t5:tm1 5=.ref [pV ch]:=by rw[htm];rfl
  have t6:tm1 6=.addr r 0:=by rw[htm];rfl
  have t13:tm1 13=.addr c 0:=by rw[htm];rfl
  clear htm
  have hpb:b.parts.length<=bnd+bnd:=by
   rw[Z11]
   obtain ⟨_,_,_,hll,hla,_⟩:=hfb
   omega
  refine C12 (xs:=items b) (gf:=136) (first:=[]) (cap:=[.ref b.av.cells]) t44 (parts_it b hfb hnb) ?_
   (fun i H'=>∃ v,OutG (Hb.upd c (.cells 138 [v])) H' v 122 9 ((partL b).take i)) (fun _ _=>False) ⟨_,OutG.nil (Drop.refl _) _ 9⟩ ?_ ?_ ?_
  ·intro x hx
   obtain ⟨p,_,rfl⟩:=List.mem_map.1 hx
   rfl
  ·rintro l i x H' hx ⟨v,ho⟩
   have hi:i<b.parts.length:=by
    have:=(List.getElem?_eq_some_iff.1 hx).1
    rwa [T11] at this
   rw[P13 hi] at hx
   cases hx
   have htk:=partL_take hi
   have hcH:H' c=some (.cells 138 [v]):=ho.get0 (HM.upd_same _ _ _)
   have hln:((partL b).take i).length<lim:=by
    rw[List.length_take,partL_len];omega
   generalize b.parts[i]=x at *
   simp only[setPs,List.zip,List.zipWith,List.foldl,partAV] at htk ⊢
   generalize vOf b i=vo at *
   generalize hOf b i=vh at *
   refine R10 [] fun N E hN hE=>?_
   simp +decide only[ZS,↓reduceIte]
   refine F10 fun b2 hb2=>?_
   simp +decide only[ZS,↓reduceIte]
   refine hN _ ?_
   clear hN hE N E
   refine ⟨rfl,?_⟩
   refine V11 (i:=15) hb2 rfl ?_
   clear hb2
   refine J10 ?_
   refine R10 [] fun N E hN hE=>?_
   simp +decide only[ZS,↓reduceIte,hcH,t13]
   refine ⟨bs_ok (by kernel_rfl) (U13 ⟨rfl,rfl⟩),?_⟩
   refine vappend_out (by kernel_rfl) ho rfl (fun _ _ _ e=>by cases e) (U13 rfl) (by simp only[List.length_cons,List.length_nil];omega) fun v' H2 ho2=>?_
   rw[M10]
   have hcc:H2 c=some (.cells 138 [v]):=ho2.get0 (HM.upd_same _ _ _)
   have hv1:v'.cells=[v']:=by rcases ho2 with ⟨_,rfl,_⟩|⟨_,_,_,rfl,_⟩<;>rfl
   have hv2:=ho2.one
   simp +decide only[ZS,↓reduceIte,hcc,hv1,hv2,t13]
   refine hN _ ?_
   have ho4:=ho2.box (y:=.cells 138 [v'])
   refine ⟨rfl,_,Drop.refl _,v',?_⟩
   rw[htk]
   exact ho4
  ·rintro D H' ⟨v,ho⟩ hD _
   rw[T11,<-partL_len,List.take_length] at ho
   simp only[AX.then,AX.inBlock]
   have hv:View G H' Hb v (.list (partL b)):=(ho.unbox hc3).view (by rw[partL_len];omega)
   have hcH:H' c=some (.cells 138 [v]):=ho.get0 (HM.upd_same _ _ _)
   have hdr:Drop H' Hb:=ho.drop.trans (Drop.upd hc3)
   refine VW_see (s:=⟨tm1,H',[.mark D]⟩) (i:=13) (H1:=Hb) (v':=.ref [.list (partL b)]) hdr ?_ ?_
   ·show View G H' Hb (tm1 13) _
    rw[t13]
    exact View.cellsR (off:=0) hdr hcH hc3 (.cons hv .nil)
   clear hv hcH hdr ho hD
   refine I10 (A10 [] fun N E hN hE=>?_)
   simp +decide only[ZS,↓reduceIte,t3]
   refine D10 (sParts_c a) ?_
   simp +decide only[ZS,↓reduceIte]
   refine hN _ ?_
   clear hN hE N E
   refine J10 ?_
   refine V12 fun tm2 htm=>?_
   have u52:tm2 52=.func (.func 136) [] [.ref a.av.cells]:=by rw[htm,C10];rfl
   have u5:tm2 5=.ref [pV ch]:=by rw[htm];exact t5
   have u6:tm2 6=.addr r 0:=by rw[htm];exact t6
   have u13:tm2 13=.ref [.list (partL b)]:=by rw[htm];rfl
   clear htm
   have hlen:(a.parts.map alphaF).length=a.parts.length:=List.length_map _
   have hpl:=hlike.parts
   refine C12 (xs:=items a) (gf:=136) (first:=[]) (cap:=[.ref a.av.cells]) u52 (parts_it a hfa hna) ?_
    (fun i H'=>H'=Hb/\goA a b ch 0 (a.parts.map alphaF) b.parts=goA a b ch i ((a.parts.map alphaF).drop i) (b.parts.drop i)) (fun X H'=>X=.ret/\H'=Hb/\goA a b ch 0 (a.parts.map alphaF) b.parts=false) ⟨rfl,rfl⟩ ?_ ?_ ?_
   ·intro x hx
    obtain ⟨p,_,rfl⟩:=List.mem_map.1 hx
    rfl
   ·rintro l i x H2 hx ⟨rfl,hg⟩
    have hi:i<a.parts.length:=by
     have:=(List.getElem?_eq_some_iff.1 hx).1
     rwa [T11] at this
    have hib:i<b.parts.length:=by omega
    rw[P13 hi] at hx
    cases hx
    have hxm:=List.getElem_mem hi
    have hym:=List.getElem_mem hib
    have hpb2:=partL_at hib
    have hdrop:(a.parts.map alphaF).drop i=alphaF a.parts[i]::(a.parts.map alphaF).drop (i+1):=by
     rw[W11 (by rw[hlen];exact hi)]
     simp only[List.getElem_map]
    rw[hdrop,W11 hib] at hg
    have hpch:=hch.cons hlike hfa i
    have hrec:=ih a.parts[i] hxm (H:=H2) (ha.part hxm) b.parts[i] (hb.part hym) _ hpch
    generalize a.parts[i]=x at *
    generalize b.parts[i]=y at *
    simp only[setPs,List.zip,List.zipWith,List.foldl,partAV] at hpb2 ⊢
    refine A10 [] fun N E hN hE=>?_
    simp +decide only[ZS,↓reduceIte]
    refine hN _ ?_
    clear hN hE N E
    refine R10 [] fun N E hN hE=>?_
    simp +decide only[ZS,↓reduceIte]
    refine F10 fun b2 hb2=>?_
    simp +decide only[ZS,↓reduceIte]
    refine hN _ ?_
    clear hN hE N E
    refine ⟨rfl,?_⟩
    refine V11 (i:=17) hb2 rfl ?_
    clear hb2
    refine J10 ?_
    refine V13 [] 19 (by kernel_rfl) (by kernel_rfl) (by kernel_rfl) fun N E hN hE=>?_
    simp only[List.take,List.drop]
    simp +decide only[ZS,QS,↓reduceIte,u5,u6,u13,hpb2,nat0,Int.toNat_natCast,pV_cells,pV_one]
    refine F11 hrec ?_
    simp +decide only[ZS,QS,↓reduceIte]
    refine hN _ ?_
    clear hN hE N E
    refine T10 rfl (fun hc=>?_) (fun hc=>?_)
    ·have hf:alphaF x y (((vOf a i,hOf a i),(vOf b i,hOf b i))::ch)=false:=by simpa using hc
     have hrs2:H2 r=some (.cells 4 [.bool false]):=by rw[<-hHb];exact hrs _
     refine A10 [] fun N E hN hE=>?_
     simp +decide only[ZS,↓reduceIte,hrs2,u6]
     refine hN _ ?_
     clear hN hE N E
     refine L10 ?_
     simp only[AX.then,AX.inBlock]
     refine ⟨rfl,_,Drop.refl _,rfl,?_,?_⟩
     ·rw[<-hHb,HM.upd_upd]
     ·rw[hg]
      show (alphaF x y _&&_)=false
      rw[hf];rfl
    have hf:alphaF x y (((vOf a i,hOf a i),(vOf b i,hOf b i))::ch)=true:=by simpa using hc
    refine G10 ?_
    simp only[AX.then,AX.inBlock]
    refine ⟨rfl,_,Drop.refl _,rfl,?_⟩
    rw[hg]
    show (alphaF x y _&&_)=_
    rw[hf];rfl
   ·rintro D2 H2 ⟨rfl,hg⟩ hD2 _
    rw[T11,List.drop_of_length_le (by rw[hlen];exact Nat.le_refl _)] at hg
    have hg:goA a b ch 0 (a.parts.map alphaF) b.parts=true:=by rw[hg];rfl
    rw[hg] at hk
    simp only[AX.then,AX.inBlock]
    have hrs2:H2 r=some (.cells 4 [.bool false]):=by rw[<-hHb];exact hrs _
    refine A10 [] fun N E hN hE=>?_
    simp +decide only[ZS,↓reduceIte,hrs2,u6]
    refine hN _ ?_
    clear hN hE N E
    rw[<-hHb,HM.upd_upd]
    refine L10 (fin _ _ _ ?_ (fun d hd=>?_) hk)
    ·exact u6
    ·simp at hd;rcases hd with h|h<;>exact ⟨_,h⟩
   ·rintro D2 X H2 c ⟨rfl,rfl,hg⟩ _ hD2 _
    rw[hg] at hk
    simp only[AX.then,AX.inBlock]
    rw[<-hHb]
    refine fin _ _ _ u6 (fun d hd=>?_) hk
    simp at hd;rcases hd with h|h<;>exact ⟨_,h⟩
  ·rintro _ _ _ _ hJ
   exact hJ.elim
end
theorem goA_iff (a b:Ex) (ch:Pch):∀ (i:Nat) (rs:List (Ex->Pch->Bool)) (xs:List Ex),goA a b ch i rs xs=true↔∀ (j:Nat) (r:Ex->Pch->Bool) (x:Ex),rs[j]?=some r->xs[j]?=some x->r x (((vOf a (i+j),hOf a (i+j)),(vOf b (i+j),hOf b (i+j)))::ch)=true
 |i,[],xs=>by
  have:goA a b ch i [] xs=true:=by cases xs<;>rfl
  simp[this]
 |i,r::rs,[]=>by
  have:goA a b ch i (r::rs) []=true:=rfl
  simp[this]
 |i,r::rs,x::xs=>by
  have e:goA a b ch i (r::rs) (x::xs)=(r x (((vOf a i,hOf a i),(vOf b i,hOf b i))::ch)&&goA a b ch (i+1) rs xs):=rfl
  rw[e,Bool.and_eq_true,goA_iff a b ch (i+1) rs xs]
  constructor
  ·rintro ⟨h1,h2⟩ j r' x' hr hx
   cases j with
   |zero=>
    simp only[List.getElem?_cons_zero,Option.some.injEq] at hr hx
    subst hr hx
    exact h1
   |succ j=>
    have:=h2 j r' x' (by simpa using hr) (by simpa using hx)
    rwa [show i+(j+1)=i+1+j by omega]
  ·intro h
   refine ⟨h 0 r x rfl rfl,fun j r' x' hr hx=>?_⟩
   have:=h (j+1) r' x' (by simpa using hr) (by simpa using hx)
   rwa [show i+(j+1)=i+1+j by omega] at this
def fr (e:Ex) (i:Nat):Nm:=(vOf e i,hOf e i)
theorem alpha_iff (a b:Ex) (L M:List Nm):alphaF a b (L.zip M)=true↔Like a b/\((occ a).2.2=true->sameP (L.zip M) (occ a).1 (occ b).1 (occ a).2.1=true)/\∀ i x y,a.parts[i]?=some x->b.parts[i]?=some y->alphaF x y ((fr a i::L).zip (fr b i::M))=true:=by
 rw[alphaF_eq,Bool.and_eq_true,Bool.and_eq_true,alikeF_like,goA_iff,and_assoc]
 refine and_congr Iff.rfl (and_congr ?_ ?_)
 ·cases (occ a).2.2<;>simp
 ·simp only[Nat.zero_add,List.getElem?_map]
  constructor
  ·intro h i x y hx hy
   exact h i _ y (by rw[hx];rfl) hy
  ·intro h i r y hr hy
   obtain ⟨x,hx,rfl⟩:=Option.map_eq_some_iff.1 hr
   exact h i x y hx hy
def env (h:Bool):List Nm->List ByteArray
 |[]=>[]
 |c::L=>(selN h c).reverse++env h L
def sameLs:List ByteArray->List ByteArray->ByteArray->ByteArray->Bool
 |x::l,y::m,a,b=>if x=a\/y=b then decide (x=a)&&decide (y=b) else sameLs l m a b
 |_,_,a,b=>decide (a=b)
def Fr:List Nm->List Nm->Prop
 |[],[]=>True
 |c::L,d::M=>(∀ h,(selN h c).length=(selN h d).length)/\Fr L M
 |_,_=>False
theorem lastM_app (a b:ByteArray):∀ (l m l2 m2:List ByteArray),l.length=m.length->sameLs (l++l2) (m++m2) a b=(match lastM a b (l.zip m) with|some r=>r|none=>sameLs l2 m2 a b)
 |[],[],_,_,_=>rfl
 |[],_::_,_,_,h=>by simp at h
 |_::_,[],_,_,h=>by simp at h
 |x::l,y::m,l2,m2,h=>by
  have ih:=lastM_app a b l m l2 m2 (by simpa using h)
  simp only[List.cons_append,List.zip_cons_cons,sameLs,lastM]
  by_cases q:x=a\/y=b
  ·rw[if_pos q,if_pos q]
  ·rw[if_neg q,if_neg q];exact ih
theorem zip_rev {α β:Type}:∀ (l:List α) (m:List β),l.length=m.length->(l.zip m).reverse=l.reverse.zip m.reverse
 |[],[],_=>rfl
 |[],_::_,h=>by simp at h
 |_::_,[],h=>by simp at h
 |x::l,y::m,h=>by
  have hl:l.length=m.length:=by simpa using h
  rw[List.zip_cons_cons,List.reverse_cons,zip_rev l m hl,List.reverse_cons,List.reverse_cons,List.zip_append (by simp[hl])];rfl
theorem same_env (a b:ByteArray) (h:Bool):∀ (L M:List Nm),Fr L M->sameP (L.zip M) a b h=sameLs (env h L) (env h M) a b
 |[],[],_=>rfl
 |[],_::_,q=>q.elim
 |_::_,[],q=>q.elim
 |c::L,d::M,q=>by
  have ih:=same_env a b h L M q.2
  have hl:=q.1 h
  rw[List.zip_cons_cons]
  simp only[sameP,env]
  rw[lastM_app _ _ _ _ _ _ (by simp[hl]),zip_rev _ _ hl,ih]
  all_goals (cases lastM a b ((selN h c).reverse.zip (selN h d).reverse)<;>rfl)
theorem Fr.len {h:Bool}:∀ {L M:List Nm},Fr L M->(env h L).length=(env h M).length
 |[],[],_=>rfl
 |[],_::_,q=>q.elim
 |_::_,[],q=>q.elim
 |c::L,d::M,q=>by
  simp only[env,List.length_append,List.length_reverse,q.1 h,Fr.len q.2]
theorem Fr.cons {a b:Ex} {L M:List Nm} (h:Like a b) (q:Fr L M) (i:Nat):Fr (fr a i::L) (fr b i::M):=
 ⟨fun h'=>(by cases h' with|false=>exact vOf_len2 h i|true=>exact hOf_len2 h i),q⟩
theorem Like.refl (a:Ex) (h:eqArms a.arms a.arms=true):Like a a:=⟨rfl,rfl,rfl,rfl,rfl,rfl,fun _=>rfl,fun _=>rfl,h⟩
theorem eqArms_refl:∀ l:List Ar,eqArms l l=true
 |[]=>rfl
 |a::l=>by
  have:eqArms (a::l) (a::l)=(armF a a&&eqArms l l):=rfl
  rw[this,eqArms_refl l];simp[armF]
theorem eqArms_trans:∀ {l m n:List Ar},eqArms l m=true->eqArms m n=true->eqArms l n=true
 |[],[],[],_,_=>rfl
 |[],_::_,_,h,_=>by cases h
 |_::_,[],_,h,_=>by cases h
 |[],[],_::_,_,h=>by cases h
 |_::_,_::_,[],_,h=>by cases h
 |a::l,b::m,c::n,h,h2=>by
  have h':(armF a b&&eqArms l m)=true:=h
  have h2':(armF b c&&eqArms m n)=true:=h2
  show (armF a c&&eqArms l n)=true
  simp only[Bool.and_eq_true,armF,decide_eq_true_eq] at h' h2' ⊢
  exact ⟨⟨h'.1.1.trans h2'.1.1,h'.1.2.trans h2'.1.2⟩,eqArms_trans h'.2 h2'.2⟩
theorem occ_kind {a b:Ex} (h:a.k=b.k):(occ a).2=(occ b).2:=by
 unfold occ
 rw[h]
 split
 ·rfl
 ·split<;>rfl
theorem Like.trans {a b c:Ex} (h:Like a b) (g:Like b c):Like a c:=⟨h.k.trans g.k,h.n.trans g.n,h.t.trans g.t,h.names.trans g.names,h.l.trans g.l,h.arms.trans g.arms,fun q=>(h.s q).trans (g.s (by rw[<-occ_kind h.k];exact q)),fun q=>(h.labels q).trans (g.labels (h.k.symm.trans q)),eqArms_trans h.arm g.arm⟩
theorem alpha_left (a:Ex):∀ (b:Ex) (L M:List Nm),alphaF a b (L.zip M)=true->left a=left b:=by
 induction a using Ex.ind with
 |step a ih=>
  intro b L M hab
  obtain ⟨h1,_,h3⟩:=(alpha_iff a b L M).1 hab
  have:a.parts.map left=b.parts.map left:=by
   refine List.ext_getElem? fun i=>?_
   rw[List.getElem?_map,List.getElem?_map]
   by_cases hi:i<a.parts.length
   ·have hib:i<b.parts.length:=by rw[<-h1.parts];exact hi
    have hx:=List.getElem?_eq_getElem hi
    have hy:=List.getElem?_eq_getElem hib
    rw[hx,hy]
    show some (left _)=some (left _)
    rw[ih _ (List.mem_of_getElem? hx) _ _ _ (h3 i _ _ hx hy)]
   ·rw[List.getElem?_eq_none (by omega),List.getElem?_eq_none (by rw[<-h1.parts];omega)]
  funext n d
  rw[left_eq,left_eq,this]
section
variable {H:HM}
theorem sAlpha_c (a b:Ex) (hia:Inp a) (hib:Inp b) (hca:check a=0) (hcb:check b=0):PureF prog G0 31 [a.av,b.av] H (.tup [.bool (alphaF a b []),.int 0]):=by
 have ha:=hia.okk hca
 have hb:=hib.okk hcb
 refine P10 (fn:=f31) func31 rfl (by kernel_rfl) (by kernel_rfl) (Nat.le_of_ble_eq_true (by kernel_rfl)) fun K hk=>?_
 refine A10 [] fun N E hN hE=>?_
 simp +decide only[ZS,↓reduceIte]
 refine hN _ ?_
 clear hN hE N E
 refine I10 (A10 [] fun N E hN hE=>?_)
 simp +decide only[ZS,↓reduceIte]
 refine ⟨bs_ok (by kernel_rfl) (all_two ⟨ex_size a,ex_one a⟩ ⟨ex_size b,ex_one b⟩),?_⟩
 refine hN _ ?_
 clear hN hE N E
 refine J10 ?_
 refine C11 (fun (k:Nat) s'=>k<=2/\s'.tmps 2=.ref a.av.cells/\s'.tmps 3=.ref b.av.cells/\s'.tmps 11=.list (exs [a,b])/\s'.tmps 12=.int 2/\s'.tmps 13=.int k/\s'.H=H/\s'.defs=[]) (fun k=>2-k) 0 ?_ ?_
 ·exact ⟨Nat.zero_le _,by rw[C10];rfl,by rw[C10];rfl,rfl,rfl,rfl,rfl,rfl⟩
 rintro k ⟨tm,H',ds⟩ ⟨hk1,h2,h3,h11,h12,h13,hH,hds⟩
 obtain rfl:H'=H:=hH
 obtain rfl:ds=[]:=hds
 rw[C10] at h2 h3
 refine B10 2 _ h2 (B10 3 _ h3 (B10 11 _ h11 (B10 12 _ h12 (B10 13 _ h13 ?_))))
 refine A10 [] fun N E hN hE=>?_
 simp +decide only[ZS,↓reduceIte]
 refine hN _ ?_
 clear hN hE N E
 refine I10 (T10 rfl (fun hc=>?_) (fun hc=>?_))
 ·have hlt:k < [a,b].length:=by have:=of_decide_eq_true hc;simp;omega
  have e1:=exs_at hlt
  obtain ⟨q1,q2⟩:Inp [a,b][k]/\check [a,b][k]=0:=by
   have hm:=List.getElem_mem hlt
   rcases List.mem_cons.1 hm with q|q
   ·rw[q];exact ⟨hia,hca⟩
   ·rw[List.mem_singleton.1 q];exact ⟨hib,hcb⟩
  generalize [a,b][k]=x at *
  refine G10 ?_
  refine I10 (J10 ?_)
  refine A10 [] fun N E hN hE=>?_
  simp +decide only[ZS,↓reduceIte,e1,nat0,Int.toNat_natCast]
  refine F10 fun b hbn=>?_
  simp +decide only[ZS,↓reduceIte,e1,nat0,Int.toNat_natCast]
  refine hN _ ?_
  clear hN hE N E
  refine V11 (i:=7) hbn rfl ?_
  clear hbn
  refine A10 [] fun N E hN hE=>?_
  simp +decide only[ZS,↓reduceIte]
  refine D10 (pCheck_c tabs2_0 x q1.1) ?_
  simp +decide only[ZS,↓reduceIte]
  refine hN _ ?_
  clear hN hE N E
  refine A10 [] fun N E hN hE=>?_
  simp +decide only[ZS,↓reduceIte]
  refine hN _ ?_
  clear hN hE N E
  refine T10 rfl (fun hc=>?_) (fun hc=>?_)
  ·rw[q2] at hc;cases hc
  refine G10 ?_
  refine R10 [] fun N E hN hE=>?_
  simp +decide only[ZS,↓reduceIte,wrapN (show k<9223372036854775807 by omega)]
  refine hN _ ?_
  clear hN hE N E
  simp only[List.length_cons,List.length_nil] at hlt
  exact ⟨k+1,⟨hlt,by rw[C10];rfl,by rw[C10];rfl,rfl,rfl,rfl,rfl,rfl⟩,by omega⟩
 ·refine L11 ?_
  refine A10 [] fun N E hN hE=>?_
  simp +decide only[ZS,↓reduceIte]
  refine D10 (alpha_c a ha b hb [] (fun c hc=>by cases hc)) ?_
  simp +decide only[ZS,↓reduceIte]
  refine hN _ ?_
  clear hN hE N E
  refine L10 (Fin_ret2 4 5 rfl ?_)
  simp +decide only[ZS,↓reduceIte]
  exact hk
end
end Go.V
