/- The program's scope: all names of an expression. No condition. The program's scope: names like an old one. No condition. The program's scope: fresh. No condition. The program's scope: Unique's names. No condition. All names of an expression: plain. No condition. The program's scope: Unique. No condition. The law's bindings. No condition. ScopeUnique: what it asks, plain. No condition. -/
import Derived.Test.YtjeiboididfgmaaGreatDoorRK
import Derived.Test.YtjeiboididfgmaaGreatDoorRH
import Derived.Test.YtjeiboididfgmaaGreatDoorRYh
set_option linter.unusedVariables false
set_option linter.unusedSimpArgs false
set_option linter.defProp false
set_option maxRecDepth 100000
namespace Go.V
open Go Go.Proofs.Tryz
def putP (e:Ex) (k:Nat) (acc:List ByteArray):List ByteArray:=(List.range k).foldl (fun acc i=>(hOf e i).foldl addK ((vOf e i).foldl addK acc)) acc
theorem putP_succ (e:Ex) (k:Nat) (acc:List ByteArray):putP e (k+1) acc=(hOf e k).foldl addK ((vOf e k).foldl addK (putP e k acc)):=by
 unfold putP;rw[List.range_succ,List.foldl_append];rfl
def occK (e:Ex) (acc:List ByteArray):List ByteArray:=if (occ e).2.2 then addK acc (occ e).1 else acc
def allVis (ch:Ch) (e:Ex) (acc:List ByteArray):List ByteArray:=putP e e.parts.length (occK e acc)
def allK (e:Ex):List ByteArray:=walkF allVis e [] []
section
variable {G:GT} {H:HM}
theorem allVis_c (e:Ex) (he:Okk e) (ch:Ch) (acc:List ByteArray) {b:Nat} (hb:H b=some (.map (kv acc))) :
  CallF prog G 101 [e.av,chV ch,.ref [.map b]] H fun r H'=>r=.ret .unit/\H'=H.upd b (.map (kv (allVis ch e acc))):=by
 have hf:=he.1.one
 have hn:=he.node
 refine A11 (fn:=f101) func101 rfl (by kernel_rfl) (Nat.le_of_ble_eq_true (by kernel_rfl)) ?_
 refine A10 [] fun N E hN hE=>?_
 simp +decide only[ZS,↓reduceIte]
 refine hN _ ?_
 clear hN hE N E
 refine I10 (A10 [] fun N E hN hE=>?_)
 simp +decide only[ZS,↓reduceIte]
 refine D10 (occ_c e) ?_
 simp +decide only[ZS,↓reduceIte]
 refine hN _ ?_
 clear hN hE N E
 refine A10 [] fun N E hN hE=>?_
 simp +decide only[ZS,↓reduceIte]
 refine hN _ ?_
 clear hN hE N E
 refine VW_thenC (fun s'=>s'.tmps 2=.ref [.map b]/\s'.tmps 3=.ref e.av.cells/\s'.H=H.upd b (.map (kv (occK e acc)))/\s'.defs=[]) ?_ ?_
 ·refine T10 rfl (fun hc=>?_) (fun hc=>?_)
  ·refine R10 [] fun N E hN hE=>?_
   simp +decide only[ZS,↓reduceIte]
   refine ⟨bs_ok (by kernel_rfl) (U13 ⟨rfl,rfl⟩),?_⟩
   refine W10 (by kernel_rfl) (put_c [(occ e).1] (by show 1<=lim;decide) hb ?_)
   rw[M10]
   simp +decide only[ZS,↓reduceIte]
   refine hN _ ⟨rfl,by rw[C10];rfl,?_,rfl⟩
   have hc':(occ e).2.2=true:=hc
   unfold occK;rw[if_pos hc'];rfl
  ·have hc':(occ e).2.2=false:=hc
   refine G10 ⟨rfl,by rw[C10];rfl,?_,rfl⟩
   unfold occK;rw[if_neg (by rw[hc'];decide),updH_self hb]
 rintro ⟨tm,H1,ds⟩ ⟨f2,f3,gH,gds⟩
 obtain rfl:ds=[]:=gds
 obtain rfl:H1=H.upd b (.map (kv (occK e acc))):=gH
 rw[C10] at f3
 refine B10 2 _ f2 (B10 3 _ f3 ?_)
 refine A10 [] fun N E hN hE=>?_
 simp +decide only[ZS,↓reduceIte]
 refine D10 (sParts_c e) ?_
 simp +decide only[ZS,↓reduceIte]
 refine hN _ ?_
 clear hN hE N E
 refine J10 ?_
 refine V12 fun tm9 htm=>?_
 have t22:tm9 22=.func (.func 136) [] [.ref e.av.cells]:=by rw[htm,C10];rfl
 have t2:tm9 2=.ref [.map b]:=by rw[htm];rfl
 clear htm
 refine C12 (xs:=items e) (gf:=136) (first:=[]) (cap:=[.ref e.av.cells]) t22 (parts_it e hf hn) ?_
  (fun i H'=>H'=H.upd b (.map (kv (putP e i (occK e acc))))) (fun _ _=>False) rfl ?_ ?_ ?_
 ·intro x hx
  obtain ⟨p,_,rfl⟩:=List.mem_map.1 hx
  rfl
 ·rintro l i x H' hx rfl
  have hi:i<e.parts.length:=by
   have:=(List.getElem?_eq_some_iff.1 hx).1
   rwa [T11] at this
  rw[P13 hi] at hx
  cases hx
  generalize hxe:e.parts[i]=x at *
  simp only[setPs,List.zip,List.zipWith,List.foldl,partAV]
  refine R10 [] fun N E hN hE=>?_
  simp +decide only[ZS,↓reduceIte]
  refine F10 fun b9 hb9=>?_
  simp +decide only[ZS,↓reduceIte]
  refine hN _ ?_
  clear hN hE N E
  refine ⟨rfl,?_⟩
  refine V11 (i:=9) hb9 rfl ?_
  clear hb9
  refine J10 ?_
  refine A10 [] fun N E hN hE=>?_
  simp +decide only[ZS,↓reduceIte,t2]
  refine W10 (by kernel_rfl) (put_c (vOf e i) (vOf_len hf i) (HM.upd_same _ _ _) ?_)
  rw[M10,HM.upd_upd]
  simp +decide only[ZS,↓reduceIte]
  refine hN _ ?_
  clear hN hE N E
  refine R10 [] fun N E hN hE=>?_
  simp +decide only[ZS,↓reduceIte,t2]
  refine W10 (by kernel_rfl) (put_c (hOf e i) (hOf_len hf i) (HM.upd_same _ _ _) ?_)
  rw[M10,HM.upd_upd]
  simp +decide only[ZS,↓reduceIte]
  refine hN _ ?_
  clear hN hE N E
  refine ⟨rfl,_,Drop.refl _,?_⟩
  rw[putP_succ]
 ·rintro D H' rfl _ _
  refine ⟨fun d hd=>?_,.unit,.unit,_,J11 rfl,Drop.refl _,View.refl _,rfl,?_⟩
  ·simp at hd;exact ⟨_,hd⟩
  ·rw[T11];rfl
 ·rintro _ _ _ _ hJ
  exact hJ.elim
theorem all_c (e:Ex) (ho:Okk e):PureF prog G 58 [e.av] H (.imap (kv (allK e))):=by
 refine P10 (fn:=f58) func58 rfl (by kernel_rfl) (by kernel_rfl) (Nat.le_of_ble_eq_true (by kernel_rfl)) fun K hk=>?_
 refine A10 [] fun N E hN hE=>?_
 simp +decide only[ZS,↓reduceIte]
 refine hN _ ?_
 clear hN hE N E
 refine A10 [] fun N E hN hE=>?_
 simp +decide only[ZS,↓reduceIte]
 refine F10 fun b hb=>?_
 simp +decide only[ZS,↓reduceIte]
 refine F10 fun c hc=>?_
 obtain ⟨hcb,hc0⟩:=G11 hc
 have hcs:∀ x:List AV,((H.upd b (.map [])).upd c (.cells 67 x)) c=some (.cells 67 x):=fun x=>HM.upd_same _ _ _
 simp +decide only[ZS,↓reduceIte,hcs]
 refine hN _ ?_
 clear hN hE N E
 try simp only[HM.upd_upd]
 refine V11 (i:=3) hc rfl ?_
 refine A10 [] fun N E hN hE=>?_
 simp +decide only[ZS,↓reduceIte]
 refine W10 (by kernel_rfl) (CallF.mono (walk_c (fun acc H'=>H'=H.upd b (.map (kv acc))) allVis 101 [.ref [.map b]] ?_ e ho [] (fun _ h=>by cases h) [] _ rfl) ?_)
 ·rintro e' ch acc H' ho' hch rfl
  refine CallF.callV (by kernel_rfl) ?_
  show CallF prog G _ [e'.av,chV ch,.ref [.map b]] _ _
  refine CallF.mono (allVis_c e' ho' ch acc (HM.upd_same _ _ _)) ?_
  rintro r H' ⟨rfl,rfl⟩
  exact ⟨rfl,by rw[HM.upd_upd]⟩
 rintro r H' ⟨rfl,rfl⟩
 rw[M10]
 simp +decide only[ZS,↓reduceIte]
 refine hN _ ?_
 clear hN hE N E
 refine A10 [] fun N E hN hE=>?_
 simp +decide only[ZS,↓reduceIte]
 refine hN _ ?_
 clear hN hE N E
 refine L10 ?_
 exact Fin_drop (B12 2 rfl) (Drop.upd hb) (View.map (Drop.upd hb) (HM.upd_same _ _ _) hb) hk
theorem freeM_c (e:Ex) (ho:Okk e) (h:Bool) {K:ARes->HM->Prop} (hk:∀ b,H b=none->K (.ret (.map b)) (H.upd b (.map (kv (freeK e h))))):CallF prog G 57 [e.av,.bool h] H K:=by
 refine A11 (fn:=f57) func57 rfl (by kernel_rfl) (Nat.le_of_ble_eq_true (by kernel_rfl)) ?_
 refine A10 [] fun N E hN hE=>?_
 simp +decide only[ZS,↓reduceIte]
 refine hN _ ?_
 clear hN hE N E
 refine A10 [] fun N E hN hE=>?_
 simp +decide only[ZS,↓reduceIte]
 refine F10 fun b hb=>?_
 simp +decide only[ZS,↓reduceIte]
 refine F10 fun c hc=>?_
 obtain ⟨hcb,hc0⟩:=G11 hc
 have hcs:∀ x:List AV,((H.upd b (.map [])).upd c (.cells 67 x)) c=some (.cells 67 x):=fun x=>HM.upd_same _ _ _
 simp +decide only[ZS,↓reduceIte,hcs]
 refine hN _ ?_
 clear hN hE N E
 try simp only[HM.upd_upd]
 refine V11 (i:=5) hc rfl ?_
 refine A10 [] fun N E hN hE=>?_
 simp +decide only[ZS,↓reduceIte]
 refine W10 (by kernel_rfl) (CallF.mono (walk_c (fun acc H'=>H'=H.upd b (.map (kv acc))) (freeVis h) 98 [.ref [.bool h],.ref [.map b]] ?_ e ho [] (fun _ h=>by cases h) [] _ rfl) ?_)
 ·rintro e' ch acc H' ho' hch rfl
  refine CallF.callV (by kernel_rfl) ?_
  show CallF prog G _ [e'.av,chV ch,.ref [.bool h],.ref [.map b]] _ _
  refine CallF.mono (freeVis_c h e' ch acc hch (HM.upd_same _ _ _)) ?_
  rintro r H' ⟨rfl,rfl⟩
  exact ⟨rfl,by rw[HM.upd_upd]⟩
 rintro r H' ⟨rfl,rfl⟩
 rw[M10]
 simp +decide only[ZS,↓reduceIte]
 refine hN _ ?_
 clear hN hE N E
 refine A10 [] fun N E hN hE=>?_
 simp +decide only[ZS,↓reduceIte]
 refine hN _ ?_
 clear hN hE N E
 refine L10 ?_
 exact Fin_ret (B12 4 rfl) (hk b hb)
end
theorem extract_ofB (s:ByteArray) (m:Nat):s.extract 0 m=ofB ((bytes s).take m):=bytes_ext (by
 rw[bytes_ofB]
 unfold bytes
 rw[ByteArray.data_extract,Array.toList_extract]
 simp)
theorem bytes_word {s:ByteArray} (h:isVar s=true):∀ k (hk:k<s.size),wordByte s[k]=true:=fun k hk=>by
 unfold isVar word at h
 simp only[Bool.and_eq_true,List.all_eq_true] at h
 exact h.1.2 _ (List.mem_of_getElem? (bytes_at s k hk))
section
variable {G:GT} {H:HM}
theorem stem_c (s:ByteArray) (hv:isVar s=true):PureF prog G 108 [.str s] H (.str (stemB s)):=by
 have hsz:=isVar_size hv
 have hw:=bytes_word hv
 refine P10 (fn:=f108) func108 rfl (by kernel_rfl) (by kernel_rfl) (Nat.le_of_ble_eq_true (by kernel_rfl)) fun K hk=>?_
 refine A10 [] fun N E hN hE=>?_
 simp +decide only[ZS,↓reduceIte]
 refine hN _ ?_
 clear hN hE N E
 refine A10 [] fun N E hN hE=>?_
 simp +decide only[ZS,↓reduceIte]
 refine hN _ ?_
 clear hN hE N E
 refine I10 (A10 [] fun N E hN hE=>?_)
 simp +decide only[ZS,↓reduceIte]
 refine F10 fun b hb=>?_
 simp +decide only[ZS,↓reduceIte]
 refine hN _ ?_
 clear hN hE N E
 refine J10 ?_
 refine C11 (fun k s'=>k<=s.size/\s'.tmps 0=.str s/\s'.tmps 3=.int (stemN ((bytes s).take k))/\s'.tmps 7=.addr b 0/\s'.H=H.upd b (.siter s k)/\s'.defs=[]) (fun k=>s.size-k) 0 ⟨Nat.zero_le _,rfl,rfl,rfl,rfl,rfl⟩ ?_
 rintro k ⟨tm,H',ds⟩ ⟨hk1,h0,h3,h7,hH,hds⟩
 obtain rfl:H'=H.upd b (.siter s k):=hH
 obtain rfl:ds=[]:=hds
 have hbs:(H.upd b (.siter s k)) b=some (.siter s k):=HM.upd_same _ _ _
 have hd:Drop (H.upd b (.siter s k)) H:=Drop.upd hb
 refine B10 0 _ h0 (B10 3 _ h3 (B10 7 _ h7 ?_))
 refine A10 [] fun N E hN hE=>?_
 simp +decide only[ZS,↓reduceIte,hbs]
 by_cases hlt:k<s.size
 ·have hcb:=bytes_at s k hlt
  have hwb:=hw k hlt
  have hlo:s[k].toNat<128:=by
   simp only[wordByte,byteIs,Bool.or_eq_true,Bool.and_eq_true,decide_eq_true_eq] at hwb
   omega
  have hde:=decode_lo s k hlt hlo
  have hlb:k<(bytes s).length:=by rw[A12];exact hlt
  generalize s[k]=c at hcb hwb hlo hde
  have htk:(bytes s).take (k+1)=(bytes s).take k++[c]:=by
   rw[List.take_succ_eq_append_getElem hlb]
   rw[List.getElem?_eq_getElem hlb] at hcb
   injection hcb with hcb
   rw[hcb]
  refine wnxS_yes hlt ?_
  rw[hde]
  simp +decide only[ZS,↓reduceIte]
  refine hN _ ?_
  clear hN hE N E
  refine I10 (T10 rfl (fun hc=>?_) (fun hc=>?_))
  ·refine G10 ?_
   refine J10 ?_
   refine A10 [] fun N E hN hE=>?_
   simp +decide only[ZS,↓reduceIte]
   refine hN _ ?_
   clear hN hE N E
   refine O11 [] (fun s'=>s'.tmps 17=.bool (decide ((c.toNat:Int)<48)||decide ((57:Int)<(c.toNat:Int)))/\s'.tmps 0=.str s/\s'.tmps 3=.int (stemN ((bytes s).take k))/\s'.tmps 4=.int k/\s'.tmps 7=.addr b 0/\s'.H=H.upd b (.siter s (k+1))/\s'.defs=[]) (fun N E hN hE=>?_) ?_
   ·clear hE hk
    simp +decide only[ZS,↓reduceIte]
    refine V10 (fun hb1=>?_) (fun hb1=>?_)
    ·simp +decide only[ZS,↓reduceIte,hb1]
     refine hN _ ⟨?_,rfl,rfl,rfl,rfl,rfl,rfl⟩
     simp +decide only[ZS,↓reduceIte]
     rw[hb1];rfl
    ·simp +decide only[ZS,↓reduceIte,hb1]
     refine hN _ ⟨?_,rfl,rfl,rfl,rfl,rfl,rfl⟩
     simp +decide only[ZS,↓reduceIte]
     rw[hb1];rfl
   rintro ⟨tb,Hb,dsb⟩ ⟨f17,f0,f3,f4,f7,gH,gds⟩
   obtain rfl:dsb=[]:=gds
   obtain rfl:Hb=H.upd b (.siter s (k+1)):=gH
   refine B10 17 _ f17 (B10 0 _ f0 (B10 3 _ f3 (B10 4 _ f4 (B10 7 _ f7 ?_))))
   have hdg:(decide ((c.toNat:Int)<48)||decide ((57:Int)<(c.toNat:Int)))=!digB c:=by
    unfold digB byteIs
    rw[Bool.eq_iff_iff]
    simp only[Bool.or_eq_true,decide_eq_true_eq,Bool.not_eq_true',Bool.and_eq_false_iff,decide_eq_false_iff_not]
    omega
   rw[hdg]
   refine T10 rfl (fun hc=>?_) (fun hc=>?_)
   ·have hn:digB c=false:=by simpa using hc
    refine R10 [] fun N E hN hE=>?_
    simp +decide only[ZS,↓reduceIte,wrapN (show k<9223372036854775807 by omega)]
    refine hN _ ?_
    clear hN hE N E
    refine ⟨k+1,⟨hlt,rfl,?_,rfl,rfl,rfl⟩,by omega⟩
    rw[htk,stemN_not hn,List.length_take,Nat.min_eq_left (by omega)];rfl
   ·have hn:digB c=true:=by simpa using hc
    refine G10 ?_
    refine ⟨k+1,⟨hlt,rfl,?_,rfl,rfl,rfl⟩,by omega⟩
    rw[htk,stemN_dig hn];rfl
  ·cases hc
 ·refine wnxS_no hlt ?_
  simp +decide only[ZS,↓reduceIte]
  refine hN _ ?_
  clear hN hE N E
  refine I10 (T10 rfl (fun hc=>?_) (fun hc=>?_))
  ·cases hc
  have hks:k=s.size:=by omega
  rw[hks,<-A12,List.take_of_length_le (Nat.le_refl _)]
  have hle:=stemN_le (bytes s)
  rw[A12] at hle
  have hex:s.extract 0 (stemN (bytes s))=stemB s:=by rw[extract_ofB];rfl
  have h1:(0:Int)<=(stemN (bytes s):Int):=by omega
  have h2:((stemN (bytes s):Nat):Int)<=(s.size:Int):=by omega
  refine L11 ?_
  refine A10 [] fun N E hN hE=>?_
  simp +decide only[ZS,↓reduceIte,h1,h2,hex,Int.toNat_natCast]
  refine hN _ ?_
  clear hN hE N E
  rw[hks] at hd
  refine L10 (Fin_retD (H1:=H) 2 rfl ?_ ?_)
  ·rw[A12]
   exact hd
  ·simp +decide only[ZS,↓reduceIte]
   exact hk
end
theorem itoa_len (n:Nat):(itoa n).size=(Lib.decDigits n).length:=by rw[<-itoa_bytes,A12]
section
variable {G:GT} {H:HM}
theorem fresh_c (hG:Tabs G) (base:ByteArray) (hv:isVar base=true) (U:List ByteArray) (hU:U.length<=100000000) {g:FuncId} {cap:List AV} (hg:∀ (s:ByteArray) (K:ARes->HM->Prop),s.size<=32->K (.ret (.bool (has U s))) H->CallV prog G (.func (.func g) [] cap) [.str s] H K) :
  PureF prog G 64 [.str base,.func (.func g) [] cap] H (.str (freshB base U)):=by
 have hsz:=isVar_size hv
 have hlim:32<=lim:=by decide
 refine P10 (fn:=f64) func64 rfl (by kernel_rfl) (by kernel_rfl) (Nat.le_of_ble_eq_true (by kernel_rfl)) fun K hk=>?_
 refine A10 [] fun N E hN hE=>?_
 simp +decide only[ZS,↓reduceIte]
 refine hN _ ?_
 clear hN hE N E
 refine I10 (A10 [] fun N E hN hE=>?_)
 simp +decide only[ZS,↓reduceIte]
 refine hg base _ (by omega) ?_
 rw[M10]
 simp +decide only[ZS,↓reduceIte]
 refine hN _ ?_
 clear hN hE N E
 refine T10 rfl (fun hc=>?_) (fun hc=>?_)
 ·have hn:has U base=false:=by simpa using hc
  refine A10 [] fun N E hN hE=>?_
  simp +decide only[ZS,↓reduceIte]
  refine hN _ ?_
  clear hN hE N E
  refine L10 (K10 4 rfl ?_)
  simp +decide only[ZS,↓reduceIte]
  rw[freshB,hn,if_neg (by decide)] at hk;exact hk
 have hn:has U base=true:=by simpa using hc
 rw[freshB,hn,if_pos rfl] at hk
 refine G10 ?_
 refine A10 [] fun N E hN hE=>?_
 simp +decide only[ZS,↓reduceIte]
 refine hN _ ?_
 clear hN hE N E
 obtain ⟨s1,s2⟩:=freshM_spec (stemB base) U
 have hM:=freshM_le (stemB base) U hU
 obtain ⟨M,hMM⟩:∃ M,freshM (stemB base) U=M:=⟨_,rfl⟩
 rw[hMM] at s1 s2 hM hk
 have hst:(stemB base).size<=12:=by
  unfold stemB
  rw[<-A12,bytes_ofB,List.length_take,A12];omega
 refine J10 ?_
 refine C11 (fun n s'=>n<=M/\s'.tmps 0=.str base/\s'.tmps 1=.func (.func g) [] cap/\s'.tmps 5=.int n/\s'.H=H/\s'.defs=[]) (fun n=>M-n) 0 ⟨Nat.zero_le _,rfl,rfl,rfl,rfl,rfl⟩ ?_
 rintro n ⟨tm,H',ds⟩ ⟨hn1,h0,h1,h5,hH,hds⟩
 obtain rfl:H'=H:=hH
 obtain rfl:ds=[]:=hds
 have hd9:(itoa n).size<=9:=by rw[itoa_len];exact dec_short 8 n (by omega)
 refine B10 0 _ h0 (B10 1 _ h1 (B10 5 _ h5 ?_))
 refine I10 (J10 ?_)
 refine A10 [] fun N E hN hE=>?_
 simp +decide only[ZS,↓reduceIte]
 refine D10 (itoa_c hG n (by omega) (by omega)) ?_
 simp +decide only[ZS,↓reduceIte]
 refine D10 (stem_c base hv) ?_
 simp +decide only[ZS,↓reduceIte]
 refine hN _ ?_
 clear hN hE N E
 have hwd:IntKind.i64.wrap (12-((itoa n).size:Int))=((12-(itoa n).size:Nat):Int):=by rw[wrap64]<;>omega
 have hmin:(if ((12-(itoa n).size:Nat):Int)<((stemB base).size:Int) then ((12-(itoa n).size:Nat):Int) else ((stemB base).size:Int))=((min (stemB base).size (12-(itoa n).size):Nat):Int):=by split<;>omega
 have hge:(0:Int)<=((min (stemB base).size (12-(itoa n).size):Nat):Int):=by omega
 have hle:((min (stemB base).size (12-(itoa n).size):Nat):Int)<=((stemB base).size:Int):=by omega
 have hex:(stemB base).extract 0 (((min (stemB base).size (12-(itoa n).size):Nat):Int)).toNat=ofB ((bytes (stemB base)).take (12-(itoa n).size)):=by
  rw[extract_ofB,Int.toNat_natCast]
  congr 1
  rw[<-A12 (stemB base)]
  by_cases q:(bytes (stemB base)).length<=12-(itoa n).size
  ·rw[Nat.min_eq_left q,List.take_of_length_le (Nat.le_refl _),List.take_of_length_le q]
  ·rw[Nat.min_eq_right (by omega)]
 have hsz2:(ofB ((bytes (stemB base)).take (12-(itoa n).size))).size+(itoa n).size<=lim:=by
  rw[<-A12 (ofB _),bytes_ofB,List.length_take,A12];omega
 have hcand:ofB ((bytes (stemB base)).take (12-(itoa n).size))++itoa n=candB (stemB base) n:=rfl
 refine A10 [] fun N E hN hE=>?_
 simp +decide only[ZS,↓reduceIte,hwd,hmin,hge,hle,hex,hsz2,hcand]
 refine hN _ ?_
 clear hN hE N E
 have hcs:(candB (stemB base) n).size<=32:=by
  rw[<-A12,candB_bytes,List.length_append,List.length_take,A12]
  rw[itoa_len] at hd9;omega
 refine A10 [] fun N E hN hE=>?_
 simp +decide only[ZS,↓reduceIte]
 refine hg (candB (stemB base) n) _ hcs ?_
 rw[M10]
 simp +decide only[ZS,↓reduceIte]
 refine hN _ ?_
 clear hN hE N E
 refine T10 rfl (fun hc=>?_) (fun hc=>?_)
 ·have hq:has U (candB (stemB base) n)=false:=by simpa using hc
  have he:n=M:=by
   have:¬ n<M:=fun q=>by
    have h3:=s2 n q
    rw[Bool.eq_false_iff] at hq
    exact hq ((P11 _ _).2 h3)
   omega
  refine A10 [] fun N E hN hE=>?_
  simp +decide only[ZS,↓reduceIte]
  refine hN _ ?_
  clear hN hE N E
  refine L10 ?_
  simp only[AX.inBlock,AX.then]
  refine K10 (fn:=f64) 4 rfl ?_
  simp +decide only[ZS,↓reduceIte]
  rw[he];exact hk
 ·have hq:has U (candB (stemB base) n)=true:=by simpa using hc
  have hlt:n<M:=by
   have:n≠M:=fun q=>by
    rw[q] at hq
    exact s1 ((P11 _ _).1 hq)
   omega
  refine G10 ?_
  refine R10 [] fun N E hN hE=>?_
  simp +decide only[ZS,↓reduceIte,wrapN (show n<9223372036854775807 by omega)]
  refine hN _ ?_
  clear hN hE N E
  exact ⟨n+1,⟨hlt,rfl,rfl,rfl,rfl,rfl⟩,by omega⟩
end
section
variable {G:GT} {H:HM}
theorem used_c (s:ByteArray) (l E:List ByteArray) {b:Nat} (hb:H b=some (.map (kv l))):PureF prog G 80 [.str s,.ref [.map b],.ref [.imap (kv E)]] H (.bool (has (l++E) s)):=by
 have ha:has (l++E) s=(has l s||has E s):=by unfold has;rw[List.any_append]
 rw[ha]
 refine P10 (fn:=f80) func80 rfl (by kernel_rfl) (by kernel_rfl) (Nat.le_of_ble_eq_true (by kernel_rfl)) fun K hk=>?_
 refine A10 [] fun N E hN hE=>?_
 simp +decide only[ZS,↓reduceIte]
 refine hN _ ?_
 clear hN hE N E
 refine O11 [] (fun s'=>s'.tmps 4=.bool (has l s||has E s)/\s'.H=H/\s'.defs=[]) (fun N E hN hE=>?_) ?_
 ·clear hE hk
  simp +decide only[ZS,↓reduceIte,hb,vlk_kv]
  refine V10 (fun hb1=>?_) (fun hb1=>?_)
  ·simp +decide only[ZS,↓reduceIte,hb,vlk_kv,hb1]
   refine hN _ ⟨?_,rfl,rfl⟩
   simp +decide only[ZS,↓reduceIte]
   rw[hb1];rfl
  ·simp +decide only[ZS,↓reduceIte,hb,vlk_kv,hb1]
   refine hN _ ⟨?_,rfl,rfl⟩
   simp +decide only[ZS,↓reduceIte]
   rw[hb1];rfl
 rintro ⟨tm,H1,ds⟩ ⟨f4,gH,gds⟩
 obtain rfl:H1=H:=gH
 obtain rfl:ds=[]:=gds
 refine B10 4 _ f4 ?_
 refine L10 (K10 4 rfl ?_)
 simp +decide only[ZS,↓reduceIte]
 exact hk
def oU (h:Bool) (a:GS):AObj:=.map (kv (a h))
def gvn (q:Bool) (b1 b2:Nat):List (AV×AV):=if q then [(.bool false,.map b1),(.bool true,.map b2)] else [(.bool true,.map b2),(.bool false,.map b1)]
def given (q:Bool) (b1 b2:Nat):AV:=.ref [.imap (gvn q b1 b2)]
theorem vlk_given (q:Bool) (b1 b2:Nat) (h:Bool):vlk (some .bool) (some ⟨.map 9 4,1,8,.val (.map none)⟩) (gvn q b1 b2) (.bool h) false=some (.map (if h then b2 else b1)):=by
 cases h<;>cases q<;>rfl
theorem addK_new {l:List ByteArray} {s:ByteArray} (h:s∉l):addK l s=l++[s]:=by
 unfold addK;rw[if_neg (fun q=>h ((P11 _ _).1 q))]
theorem unique1_c (hG:Tabs G) {Ev:List ByteArray} (hEv:Ev.length<=20000000) (a:GS) (ha:GS.cnt a<=60000000) (s:ByteArray) (hs:isVar s=true) (h:Bool) (q:Bool) {b1 b2:Nat} (hne:b1≠b2) (h1:H b1=some (oU false a)) (h2:H b2=some (oU true a)) :
  CallF prog G 79 [.str s,.bool h,given q b1 b2,.ref [.imap (kv Ev)]] H fun r H'=>r=.ret (.str (nxU Ev a s h).1)/\H'=(H.upd b1 (oU false (nxU Ev a s h).2)).upd b2 (oU true (nxU Ev a s h).2):=by
 obtain ⟨b,hbb⟩:∃ b,(if h then b2 else b1)=b:=⟨_,rfl⟩
 have hb:H b=some (.map (kv (a h))):=by
  rw[<-hbb]
  cases h with
  |true=>exact h2
  |false=>exact h1
 have hal:(a h).length<=60000000:=by
  unfold GS.cnt at ha
  cases h<;>omega
 have hfin:H.upd b (.map (kv (a h++[pickU Ev (a h) s])))=(H.upd b1 (oU false (nxU Ev a s h).2)).upd b2 (oU true (nxU Ev a s h).2):=by
  cases h with
  |true=>
   have:oU false (nxU Ev a s true).2=oU false a:=rfl
   rw[<-hbb,this,updH_self h1];rfl
  |false=>
   have:oU true (nxU Ev a s false).2=oU true a:=rfl
   rw[<-hbb,this,updH_self (H:=H.upd b1 _) (by rw[HM.upd_ne _ _ hne.symm];exact h2)];rfl
 have hvl:=vlk_given q b1 b2 h
 rw[hbb] at hvl
 rw[<-hfin]
 unfold given
 refine A11 (fn:=f79) func79 rfl (by kernel_rfl) (Nat.le_of_ble_eq_true (by kernel_rfl)) ?_
 refine A10 [] fun N E hN hE=>?_
 simp +decide only[ZS,↓reduceIte]
 refine hN _ ?_
 clear hN hE N E
 refine A10 [] fun N E hN hE=>?_
 simp +decide only[ZS,↓reduceIte,hvl]
 refine F10 fun c hc=>?_
 have hcs:∀ x:List AV,(H.upd c (.cells 67 x)) c=some (.cells 67 x):=fun x=>HM.upd_same _ _ _
 simp +decide only[ZS,↓reduceIte,hcs]
 refine hN _ ?_
 clear hN hE N E
 try simp only[HM.upd_upd]
 refine V11 (i:=7) hc rfl ?_
 clear hcs hc
 refine I10 (A10 [] fun N E hN hE=>?_)
 simp +decide only[ZS,↓reduceIte,hb,vlk_kv]
 refine hN _ ?_
 clear hN hE N E
 refine VW_thenC (fun s'=>s'.tmps 0=.str (pickU Ev (a h) s)/\s'.tmps 7=.ref [.map b]/\s'.H=H/\s'.defs=[]) ?_ ?_
 ·refine T10 rfl (fun hc=>?_) (fun hc=>?_)
  ·have hq:has (a h) s=true:=hc
   refine R10 [] fun N E hN hE=>?_
   simp +decide only[ZS,↓reduceIte]
   refine D10 (fresh_c hG s hs (a h++Ev) (by rw[List.length_append];omega) (g:=80) (cap:=[.ref [.map b],.ref [.imap (kv Ev)]]) (fun s' K _ hk=>CallF.callV (by kernel_rfl) ((used_c s' (a h) Ev hb).2 K hk))) ?_
   simp +decide only[ZS,↓reduceIte]
   refine hN _ ⟨?_,rfl,rfl,rfl⟩
   simp +decide only[ZS,↓reduceIte]
   unfold pickU;rw[if_pos hq]
  ·have hq:has (a h) s=false:=hc
   refine G10 ⟨?_,rfl,rfl,rfl⟩
   simp +decide only[ZS,↓reduceIte]
   unfold pickU;rw[if_neg (by rw[hq];decide)]
 rintro ⟨tm,H1,ds⟩ ⟨f0,f7,gH,gds⟩
 obtain rfl:H1=H:=gH
 obtain rfl:ds=[]:=gds
 have hnot:=pickU_not Ev (a h) s
 have hres:(nxU Ev a s h).1=pickU Ev (a h) s:=rfl
 rw[hres]
 generalize pickU Ev (a h) s=p at *
 refine B10 0 _ f0 (B10 7 _ f7 ?_)
 refine A10 [] fun N E hN hE=>?_
 simp +decide only[ZS,↓reduceIte]
 refine ⟨bs_ok (by kernel_rfl) (U13 ⟨rfl,rfl⟩),?_⟩
 refine W10 (by kernel_rfl) (put_c [p] (by show 1<=lim;decide) hb ?_)
 rw[M10]
 simp +decide only[ZS,↓reduceIte]
 refine hN _ ?_
 clear hN hE N E
 refine A10 [] fun N E hN hE=>?_
 simp +decide only[ZS,↓reduceIte]
 refine hN _ ?_
 clear hN hE N E
 refine L10 ?_
 try simp only[AX.then]
 refine K10 (fn:=f79) 6 rfl ?_
 simp +decide only[ZS,↓reduceIte]
 show H1.upd b (.map (kv (addK (a h) p)))=_
 rw[addK_new hnot]
end
theorem addF_mem (x:ByteArray):∀ (l acc:List ByteArray),x∈l.foldl addK acc↔x∈acc\/x∈l
 |[],acc=>by simp
 |s::l,acc=>by
  rw[List.foldl_cons,addF_mem x l,addK_mem,List.mem_cons,or_assoc]
theorem addF_nodup:∀ (l:List ByteArray) {acc:List ByteArray},acc.Nodup->(l.foldl addK acc).Nodup
 |[],_,h=>h
 |s::l,_,h=>by rw[List.foldl_cons];exact addF_nodup l (addK_nodup s h)
theorem putP_mem (e:Ex) (x:ByteArray) (acc:List ByteArray):∀ k,x∈putP e k acc↔x∈acc\/∃ i,i<k/\(x∈vOf e i\/x∈hOf e i)
 |0=>by simp[putP]
 |k+1=>by
  rw[putP_succ,addF_mem,addF_mem,putP_mem e x acc k]
  constructor
  ·rintro (((h|⟨i,h1,h2⟩)|h)|h)
   ·exact .inl h
   ·exact .inr ⟨i,by omega,h2⟩
   ·exact .inr ⟨k,by omega,.inl h⟩
   ·exact .inr ⟨k,by omega,.inr h⟩
  ·rintro (h|⟨i,h1,h2⟩)
   ·exact .inl (.inl (.inl h))
   ·by_cases q:i=k
    ·subst q
     rcases h2 with h2|h2
     ·exact .inl (.inr h2)
     ·exact .inr h2
    ·exact .inl (.inl (.inr ⟨i,by omega,h2⟩))
theorem putP_nodup (e:Ex) {acc:List ByteArray} (h:acc.Nodup):∀ k,(putP e k acc).Nodup
 |0=>h
 |k+1=>by rw[putP_succ];exact addF_nodup _ (addF_nodup _ (putP_nodup e h k))
theorem occK_mem (e:Ex) (x:ByteArray) (acc:List ByteArray):x∈occK e acc↔x∈acc\/((occ e).2.2=true/\x=(occ e).1):=by
 unfold occK
 by_cases h:(occ e).2.2=true
 ·rw[if_pos h,addK_mem];simp[h]
 ·rw[if_neg h];simp[h]
theorem occK_nodup (e:Ex) {acc:List ByteArray} (h:acc.Nodup):(occK e acc).Nodup:=by
 unfold occK
 split
 ·exact addK_nodup _ h
 ·exact h
def AI (x:ByteArray):Ex->Prop:=Ex.para fun e rs=>((occ e).2.2=true/\x=(occ e).1)\/(∃ i,i<e.parts.length/\(x∈vOf e i\/x∈hOf e i))\/∃ r∈rs,r
theorem AI_eq (x:ByteArray) (e:Ex):AI x e↔((occ e).2.2=true/\x=(occ e).1)\/(∃ i,i<e.parts.length/\(x∈vOf e i\/x∈hOf e i))\/∃ p∈e.parts,AI x p:=by
 unfold AI
 rw[Ex.para_eq]
 refine or_congr Iff.rfl (or_congr Iff.rfl ⟨?_,?_⟩)
 ·rintro ⟨r,hr,h⟩
  obtain ⟨p,hp,rfl⟩:=List.mem_map.1 hr
  exact ⟨p,hp,h⟩
 ·rintro ⟨p,hp,h⟩
  exact ⟨_,List.mem_map.2 ⟨p,hp,rfl⟩,h⟩
theorem walkA_mem (e:Ex):∀ (ch:Ch) (acc:List ByteArray) (x:ByteArray),x∈walkF allVis e ch acc↔x∈acc\/AI x e:=by
 induction e using Ex.ind with
 |step e ih=>
  intro ch acc x
  have key:∀ (ps:List Ex) (i:Nat) (acc:List ByteArray),(∀ p∈ps,p∈e.parts)->(x∈goW e ch i (ps.map (walkF allVis)) acc↔x∈acc\/∃ p∈ps,AI x p):=fun ps=>by
   induction ps with
   |nil=>intro i acc _;simp[goW]
   |cons p ps ihp=>
    intro i acc hp
    rw[List.map_cons,goW,ihp (i+1) _ (fun q hq=>hp q (by simp[hq])),ih p (hp p (by simp))]
    simp only[List.mem_cons,exists_eq_or_imp,or_assoc]
  rw[walkF_eq,key e.parts 0 _ (fun p hp=>hp),AI_eq]
  unfold allVis
  rw[putP_mem,occK_mem,or_assoc,or_assoc]
theorem walkA_nodup (e:Ex):∀ (ch:Ch) (acc:List ByteArray),acc.Nodup->(walkF allVis e ch acc).Nodup:=by
 induction e using Ex.ind with
 |step e ih=>
  intro ch acc h
  have key:∀ (ps:List Ex) (i:Nat) (acc:List ByteArray),(∀ p∈ps,p∈e.parts)->acc.Nodup->(goW e ch i (ps.map (walkF allVis)) acc).Nodup:=fun ps=>by
   induction ps with
   |nil=>intro i acc _ h;exact h
   |cons p ps ihp=>
    intro i acc hp h
    rw[List.map_cons,goW]
    exact ihp (i+1) _ (fun q hq=>hp q (by simp[hq])) (ih p (hp p (by simp)) _ _ h)
  rw[walkF_eq]
  exact key e.parts 0 _ (fun p hp=>hp) (putP_nodup e (occK_nodup e h) _)
theorem allK_mem (e:Ex) (x:ByteArray):x∈allK e↔AI x e:=by
 unfold allK;rw[walkA_mem];simp
def nmsR:List Ar->List ByteArray
 |[]=>[]
 |a::l=>a.names++nmsR l
def nms:Ex->List ByteArray:=Ex.para fun e rs=>e.s::(e.names++(nmsR e.arms++rs.flatten))
theorem nms_eq (e:Ex):nms e=e.s::(e.names++(nmsR e.arms++(e.parts.map nms).flatten)):=by
 unfold nms;rw[Ex.para_eq]
theorem nmsR_mem {x:ByteArray}:∀ {l:List Ar} {a:Ar},a∈l->x∈a.names->x∈nmsR l
 |[],_,h,_=>by cases h
 |b::l,a,h,hx=>by
  rw[nmsR,List.mem_append]
  rcases List.mem_cons.1 h with rfl|h
  ·exact .inl hx
  ·exact .inr (nmsR_mem h hx)
theorem nms_len (e:Ex):(nms e).length=e.wid:=by
 induction e using Ex.ind with
 |step e ih=>
  have h1:∀ l:List Ar,(nmsR l).length=(l.map fun a=>a.names.length).sum:=fun l=>by
   induction l with
   |nil=>rfl
   |cons a l ihl=>rw[nmsR,List.length_append,List.map_cons,List.sum_cons,ihl]
  have h2:∀ ps:List Ex,(∀ p∈ps,(nms p).length=p.wid)->(ps.map nms).flatten.length=(ps.map Ex.wid).sum:=fun ps=>by
   induction ps with
   |nil=>intro _;rfl
   |cons p ps ihp=>
    intro h
    rw[List.map_cons,List.flatten_cons,List.length_append,List.map_cons,List.sum_cons,ihp (fun q hq=>h q (by simp[hq])),h p (by simp)]
  rw[nms_eq,Ex.wid_eq,List.length_cons,List.length_append,List.length_append,h1,h2 e.parts ih];omega
theorem own_names {e:Ex} {i:Nat} {x:ByteArray} (h:x∈vOf e i\/x∈hOf e i):x∈e.names\/∃ a∈e.arms,x∈a.names:=by
 rcases h with h|h
 ·unfold vOf at h
  split at h
  ·unfold ownV at h
   split at h
   ·exact .inl (List.mem_of_mem_take h)
   ·split at h
    ·exact .inl (List.mem_of_mem_take h)
    ·cases h
  ·split at h
   ·rename_i a ha
    exact .inr ⟨a,List.mem_of_getElem? ha,h⟩
   ·cases h
 ·unfold hOf at h
  split at h
  ·unfold ownH at h
   split at h
   ·exact .inl h
   ·cases h
  ·cases h
theorem AI_nms (x:ByteArray) (e:Ex):AI x e->x∈nms e:=by
 induction e using Ex.ind with
 |step e ih=>
  intro h
  rw[nms_eq,List.mem_cons,List.mem_append,List.mem_append]
  rcases (AI_eq x e).1 h with ⟨h1,h2⟩|⟨i,_,h⟩|⟨p,hp,h⟩
  ·rw[occ_s h1] at h2;exact .inl h2
  ·rcases own_names h with h|⟨a,ha,h⟩
   ·exact .inr (.inl h)
   ·exact .inr (.inr (.inl (nmsR_mem ha h)))
  ·exact .inr (.inr (.inr (List.mem_flatten.2 ⟨_,List.mem_map.2 ⟨p,hp,rfl⟩,ih p hp h⟩)))
theorem allK_len (e:Ex):(allK e).length<=e.wid:=by
 rw[<-nms_len]
 exact pigeon (walkA_nodup e [] [] List.nodup_nil) fun x hx=>AI_nms x e ((allK_mem e x).1 hx)
theorem bsN_part {e:Ex} (hn:nodeErr e=0) {p:ByteArray×Bool} (hp:p∈bsN e):∃ i,i<e.parts.length/\p.1∈selN p.2 (fr e i):=by
 obtain ⟨sh,hx,hk,_,_,hb,_,_⟩:=(O13 e).1 hn
 have hpl:=Z11 e
 simp only[nodeBad,Bool.or_eq_false_iff,Bool.not_eq_false'] at hb
 obtain ⟨⟨⟨hm,hl⟩,_⟩,_⟩:=hb
 have use:∀ i,i<e.l.length->(p.1∈selN p.2 (ownV e i,ownH e i))->∃ i,i<e.parts.length/\p.1∈selN p.2 (fr e i):=fun i hi h=>⟨i,by omega,by rw[fr_left hi];exact h⟩
 unfold bsN at hp
 have none:e.names.length=0->e.k≠17->False:=fun h h17=>by
  rw[if_neg h17,List.eq_nil_of_length_eq_zero h] at hp;cases hp
 rcases (show e.k=0\/e.k=1\/e.k=2\/e.k=3\/e.k=4\/e.k=5\/e.k=6\/e.k=7\/e.k=8\/e.k=9\/e.k=10\/e.k=11\/e.k=12\/e.k=13\/e.k=14\/e.k=15\/e.k=16\/e.k=17\/e.k=18\/e.k=19 by omega) with
  h|h|h|h|h|h|h|h|h|h|h|h|h|h|h|h|h|h|h|h
 all_goals
  rw[h] at hx
  cases hx
  simp[nodeMany,nodeParts,h] at hm hl
 all_goals first|exact (none (by omega) (by omega)).elim|exact (none (by rw[hm];rfl) (by omega)).elim|skip
 all_goals (first|rw[if_neg (by omega)] at hp|rw[if_pos h] at hp)
 all_goals obtain ⟨y,hy,rfl⟩:=List.mem_map.1 hp
 ·refine use 0 (by omega) ?_
  rw[decide_eq_false (by omega)]
  show y∈ownV e 0
  unfold ownV own1
  rw[h]
  simpa[List.take_of_length_le (show e.names.length<=1 by omega)] using hy
 ·refine use 1 (by omega) ?_
  rw[decide_eq_false (by omega)]
  show y∈ownV e 1
  unfold ownV own1
  rw[h]
  simpa[List.take_of_length_le (show e.names.length<=1 by omega)] using hy
 ·refine use 0 (by omega) ?_
  rw[decide_eq_false (by omega)]
  show y∈ownV e 0
  unfold ownV own1
  rw[h]
  simpa[List.take_of_length_le (show e.names.length<=2 by omega)] using hy
 ·refine use 0 (by omega) ?_
  rw[decide_eq_true h]
  show y∈ownH e 0
  unfold ownH
  rw[if_pos h];exact hy
 ·refine use 2 (by omega) ?_
  show y∈ownV e 2
  unfold ownV own1
  rw[h]
  simpa using hy
noncomputable def sUniq (e:Ex):Ex:=if check e=0 then uniqG (allK e) e else zeroEx
def ents (d3 d6 q:Bool) (b1 b2:Nat):List (AV×AV):=if d3 then (if d6 then gvn q b1 b2 else [(.bool false,.map b1)]) else (if d6 then [(.bool true,.map b2)] else [])
theorem ents_ok (d3 d6 q:Bool) (b1 b2:Nat):keysOk .bool (ents d3 d6 q b1 b2)=true:=by cases d3<;>cases d6<;>cases q<;>rfl
theorem ents_3 (d6 q:Bool) (b1 b2:Nat):assocSet (.bool false) (.map b1) (ents false d6 q b1 b2)=ents true d6 false b1 b2:=by cases d6<;>rfl
theorem ents_6 (d3 q:Bool) (b1 b2:Nat):assocSet (.bool true) (.map b2) (ents d3 false q b1 b2)=ents d3 true true b1 b2:=by cases d3<;>rfl
theorem ents_f (d6 q:Bool) (b1 b1' b2:Nat):ents false d6 q b1 b2=ents false d6 q b1' b2:=by cases d6<;>rfl
theorem ents_t (d3 q:Bool) (b1 b2 b2':Nat):ents d3 false q b1 b2=ents d3 false q b1 b2':=by cases d3<;>rfl
structure UniJ (H:HM) (e:Ex) (r:Nat) (d0 d2 d3 d5 d6 d7 d8 d9 q:Bool) (b0 b1 b2 b6:Nat) (s:AS):Prop where
 ds:s.defs=[]
 t1:s.tmps 1=.ref e.av.cells
 t2:s.tmps 2=.addr r 0
 t5:s.tmps 5=.ref [.imap (kv (allK e))]
 t16:s.tmps 16=e.av
 t18:s.tmps 18=e.av
 old:∀ b o,H b=some o->s.H b=some o
 m:d0=true->H b0=none/\s.H b0=some (.map (ents d3 d6 q b1 b2))/\s.tmps 15=.map b0
 f:d2=true->H b1=none/\s.H b1=some (.map (kv (freeK e false)))/\s.tmps 17=.map b1
 g:d5=true->H b2=none/\s.H b2=some (.map (kv (freeK e true)))/\s.tmps 19=.map b2
 w:d7=true->s.tmps 20=.map b0
 c:d8=true->H b6=none/\s.H b6=some (.cells 93 [if d9 then .map b0 else .val (.map none)])/\s.tmps 6=.addr b6 0
 n1:d0=true->d2=true->b0≠b1
 n2:d0=true->d5=true->b0≠b2
 n3:d2=true->d5=true->b1≠b2
 k3:d3=true->d0=true/\d2=true
 k6:d6=true->d0=true/\d5=true
 k7:d7=true->d0=true
 k9:d9=true->d7=true/\d8=true
theorem ne_of_obj {H:HM} {a b:Nat} {o o':AObj} (ha:H a=some o) (hb:H b=some o') (hn:o≠o'):a≠b:=fun q=>by
 rw[q,hb] at ha;injection ha with ha;exact hn ha.symm
theorem ne_of_new {H:HM} {a b:Nat} {o:AObj} (ha:H a=some o) (hb:H b=none):a≠b:=fun q=>by rw[q,hb] at ha;cases ha
section
variable {H:HM}
theorem sUnique_c (e:Ex) (hi:Inp e):PureF prog G0 35 [e.av] H (.tup [(sUniq e).av,.int (check e)]):=by
 have hbb:bnd=16777216:=rfl
 refine P10 (fn:=f35) func35 rfl (by kernel_rfl) (by kernel_rfl) (Nat.le_of_ble_eq_true (by kernel_rfl)) fun K hk=>?_
 refine A10 [] fun N E hN hE=>?_
 simp +decide only[ZS,↓reduceIte]
 refine F10 fun r hr=>?_
 simp +decide only[ZS,↓reduceIte]
 refine hN _ ?_
 clear hN hE N E
 have k2:∀ cs,(H.upd r (.cells 27 cs)) r=some (.cells 27 cs):=fun cs=>HM.upd_same _ _ _
 refine I10 (A10 [] fun N E hN hE=>?_)
 simp +decide only[ZS,↓reduceIte]
 refine D10 (pCheck_c tabs2_0 e hi.1) ?_
 simp +decide only[ZS,↓reduceIte]
 refine hN _ ?_
 clear hN hE N E
 refine A10 [] fun N E hN hE=>?_
 simp +decide only[ZS,↓reduceIte]
 refine hN _ ?_
 clear hN hE N E
 refine T10 rfl (fun hc=>?_) (fun hc=>?_)
 ·have hc':check e≠0:=by simpa using hc
  refine A10 [] fun N E hN hE=>?_
  simp +decide only[ZS,↓reduceIte,k2]
  refine hN _ ?_
  clear hN hE N E
  refine L10 ?_
  simp only[AX.then]
  have hz:sUniq e=zeroEx:=by unfold sUniq;rw[if_neg hc']
  rw[hz] at hk
  try simp only[HM.upd_upd]
  have n0:View G0 (H.upd r (.cells 27 zc)) H .nil0 (.list []):=View.nil0 (Drop.upd hr)
  have v0:∀ x,View G0 (H.upd r (.cells 27 zc)) H x x:=fun x=>View.of_drop (Drop.upd hr) x
  refine ⟨fun d hd=>(by cases hd),_,.tup [zeroEx.av,.int (check e)],H,vresults_aggT (a:=2) (t:=27) (cs:=zc) rfl ti27 rfl rfl rfl (k2 _),Drop.upd hr,?_,hk⟩
  refine View.tup (.cons ?_ (.cons (v0 _) .nil))
  have hres:zeroEx.av=.agg [.int 0,.int 0,.str emp,.str emp,.list [],.list [],.list []]:=(ex_fold 0 0 emp emp [] [] []).symm
  rw[hres]
  exact View.agg (.cons (v0 _) (.cons (v0 _) (.cons (v0 _) (.cons (v0 _) (.cons n0 (.cons n0 (.cons n0 .nil)))))))
 ·have hc':check e=0:=by simpa using hc
  have he:=hi.okk hc'
  refine G10 ?_
  refine A10 [] fun N E hN hE=>?_
  simp +decide only[ZS,↓reduceIte]
  refine D10 (all_c e he) ?_
  simp +decide only[ZS,↓reduceIte]
  refine F10 fun b5 hb5=>?_
  have k5:∀ cs,((H.upd r (.cells 27 zc)).upd b5 (.cells 67 cs)) b5=some (.cells 67 cs):=fun cs=>HM.upd_same _ _ _
  simp +decide only[ZS,↓reduceIte,k5]
  refine hN _ ?_
  clear hN hE N E
  try simp only[HM.upd_upd]
  refine V11 (i:=5) hb5 rfl ?_
  clear k5 hb5
  obtain ⟨Hr,hHr⟩:∃ Hr,Hr=H.upd r (.cells 27 zc):=⟨_,rfl⟩
  have hrr:Hr r=some (.cells 27 zc):=by rw[hHr,HM.upd_same]
  have hro:∀ b,b≠r->Hr b=H b:=fun b hb=>by rw[hHr,HM.upd_ne _ _ hb]
  show VW prog G0 f35.ntmps none _ _ ⟨_,H.upd r (.cells 27 zc),_⟩
  rw[<-hHr]
  clear hHr k2
  refine V12 fun tm htm=>?_
  have u1:tm 1=.ref [.int e.k,.int e.n,.str e.s,.str e.t,.list (strs e.names),.list (exs e.l),.list (ars e.arms)]:=by rw[htm];rfl
  have u2:tm 2=.addr r 0:=by rw[htm];rfl
  have u5:tm 5=.ref [.imap (kv (allK e))]:=by rw[htm];rfl
  clear htm
  refine' VW_inv [] [1,4] (fun _=>True) (fun D s=>∃ q b0 b1 b2 b6,UniJ Hr e r (D 0) (D 2) (D 3) (D 5) (D 6) (D 7) (D 8) (D 9) q b0 b1 b2 b6 s) (by kernel_rfl) (by kernel_rfl) trivial (fun H' N hp hN=>?_) ?_ ?_ ?_
  rotate_left 1
  ·simp only[opsAt,List.drop,List.take,List.cons_append,List.nil_append]
   simp +decide only[ZS,QS,↓reduceIte,u1]
   exact hN
  ·exact ⟨true,0,0,0,0,⟨rfl,by rw[C10];exact u1,u2,u5,rfl,rfl,fun _ _ h=>h,fun h=>(by cases h),fun h=>(by cases h),fun h=>(by cases h),fun h=>(by cases h),fun h=>(by cases h),fun h=>(by cases h),fun h=>(by cases h),fun h=>(by cases h),fun h=>(by cases h),fun h=>(by cases h),fun h=>(by cases h),fun h=>(by cases h)⟩⟩
  ·intro i hi hq D s hD hDi
   obtain ⟨tm2,Hc,ds⟩:=s
   rintro ⟨q,b0,b1,b2,b6,j⟩
   obtain rfl:ds=[]:=j.ds
   have hi':i<10:=hi
   have h1:i≠1:=fun q=>by rw[q] at hq;exact absurd hq (by decide)
   have h4:i≠4:=fun q=>by rw[q] at hq;exact absurd hq (by decide)
   have j16:=j.t16
   have j18:=j.t18
   simp only at j16 j18
   have no:∀ k,(∀ x,D k=true->D i=true)->D k=false:=fun k h=>by
    cases q:D k with
    |false=>rfl
    |true=>have:=h i q;rw[hDi] at this;cases this
   refine wops_step fun N hN=>?_
   rcases (show i=0\/i=2\/i=3\/i=5\/i=6\/i=7\/i=8\/i=9 by omega) with rfl|rfl|rfl|rfl|rfl|rfl|rfl|rfl
   ·have d3:=no 3 fun _ h=>(j.k3 h).1
    have d6:=no 6 fun _ h=>(j.k6 h).1
    have d7:=no 7 fun _ h=>j.k7 h
    have d9:=no 9 fun _ h=>j.k7 (j.k9 h).1
    simp only[List.drop,List.take]
    simp +decide only[ZS,↓reduceIte]
    refine F10 fun b hb=>?_
    simp +decide only[ZS,↓reduceIte]
    have hb0:=fresh_old j.old hb
    refine hN _ ⟨trivial,q,b,b1,b2,b6,⟨rfl,j.t1,j.t2,j.t5,j.t16,j.t18,fun k o h=>B11 hb (j.old k o h),fun _=>⟨hb0,?_,rfl⟩,fun h=>⟨(j.f h).1,B11 hb (j.f h).2.1,(j.f h).2.2⟩,fun h=>⟨(j.g h).1,B11 hb (j.g h).2.1,(j.g h).2.2⟩,fun h=>?_,fun h=>?_,fun _ h=>(ne_of_new (j.f h).2.1 hb).symm,fun _ h=>(ne_of_new (j.g h).2.1 hb).symm,j.n3,fun h=>⟨rfl,(j.k3 h).2⟩,fun h=>⟨rfl,(j.k6 h).2⟩,fun _=>rfl,j.k9⟩⟩
    ·show (Hc.upd b _) b=some (.map (ents (D 3) (D 6) q b1 b2))
     rw[d3,d6,HM.upd_same];rfl
    ·have h':D 7=true:=h
     rw[d7] at h';cases h'
    ·have:=j.c h
     rw[d9] at this
     refine ⟨this.1,?_,this.2.2⟩
     show (Hc.upd b _) b6=some (.cells 93 [if D 9=true then _ else .val (.map none)])
     rw[d9]
     exact B11 hb this.2.1
   ·have d3:=no 3 fun _ h=>(j.k3 h).2
    simp only[List.drop,List.take]
    simp +decide only[ZS,↓reduceIte,j16]
    refine W10 (by kernel_rfl) (freeM_c e he false fun b hb=>?_)
    rw[M10]
    simp +decide only[ZS,↓reduceIte]
    have hb0:=fresh_old j.old hb
    refine hN _ ⟨trivial,q,b0,b,b2,b6,⟨rfl,j.t1,j.t2,j.t5,j.t16,j.t18,fun k o h=>B11 hb (j.old k o h),fun h=>?_,fun _=>⟨hb0,HM.upd_same _ _ _,rfl⟩,fun h=>⟨(j.g h).1,B11 hb (j.g h).2.1,(j.g h).2.2⟩,j.w,fun h=>⟨(j.c h).1,B11 hb (j.c h).2.1,(j.c h).2.2⟩,fun h _=>ne_of_new (j.m h).2.1 hb,j.n2,fun _ h=>(ne_of_new (j.g h).2.1 hb).symm,fun h=>⟨(j.k3 h).1,rfl⟩,j.k6,j.k7,j.k9⟩⟩
    have:=j.m h
    refine ⟨this.1,?_,this.2.2⟩
    have h2:=this.2.1
    rw[d3,ents_f _ _ _ b] at h2
    show (Hc.upd b _) b0=some (.map (ents (D 3) (D 6) q b b2))
    rw[d3]
    exact B11 hb h2
   ·have hd0:=hD 0 (by kernel_rfl)
    have hd2:=hD 2 (by kernel_rfl)
    obtain ⟨c1,c2,c3⟩:=j.m hd0
    obtain ⟨e1,e2,e3⟩:=j.f hd2
    simp only at c2 c3 e2 e3
    rw[hDi] at c2
    simp only[List.drop,List.take]
    simp +decide only[ZS,↓reduceIte,c3,e3,c2]
    have nb:∀ {k o},Hr k=some o->k≠b0:=fun h q=>by rw[q,c1] at h;cases h
    refine ⟨ents_ok _ _ _ _ _,hN _ ⟨trivial,false,b0,b1,b2,b6,⟨rfl,j.t1,j.t2,j.t5,j.t16,j.t18,fun k o h=>K12 (nb h) (j.old k o h),fun _=>⟨c1,?_,c3⟩,fun h=>⟨e1,K12 (j.n1 hd0 hd2).symm e2,e3⟩,fun h=>⟨(j.g h).1,K12 (j.n2 hd0 h).symm (j.g h).2.1,(j.g h).2.2⟩,j.w,fun h=>⟨(j.c h).1,K12 (ne_of_obj (j.c h).2.1 c2 (fun q=>by cases q)) (j.c h).2.1,(j.c h).2.2⟩,j.n1,j.n2,j.n3,fun _=>⟨hd0,hd2⟩,j.k6,j.k7,j.k9⟩⟩⟩
    show (Hc.upd b0 _) b0=some (.map (ents true (D 6) false b1 b2))
    rw[HM.upd_same,ents_3]
   ·have d6:=no 6 fun _ h=>(j.k6 h).2
    simp only[List.drop,List.take]
    simp +decide only[ZS,↓reduceIte,j18]
    refine W10 (by kernel_rfl) (freeM_c e he true fun b hb=>?_)
    rw[M10]
    simp +decide only[ZS,↓reduceIte]
    have hb0:=fresh_old j.old hb
    refine hN _ ⟨trivial,q,b0,b1,b,b6,⟨rfl,j.t1,j.t2,j.t5,j.t16,j.t18,fun k o h=>B11 hb (j.old k o h),fun h=>?_,fun h=>⟨(j.f h).1,B11 hb (j.f h).2.1,(j.f h).2.2⟩,fun _=>⟨hb0,HM.upd_same _ _ _,rfl⟩,j.w,fun h=>⟨(j.c h).1,B11 hb (j.c h).2.1,(j.c h).2.2⟩,j.n1,fun h _=>ne_of_new (j.m h).2.1 hb,fun h _=>ne_of_new (j.f h).2.1 hb,j.k3,fun h=>⟨(j.k6 h).1,rfl⟩,j.k7,j.k9⟩⟩
    have:=j.m h
    refine ⟨this.1,?_,this.2.2⟩
    have h2:=this.2.1
    rw[d6,ents_t _ _ _ _ b] at h2
    show (Hc.upd b _) b0=some (.map (ents (D 3) (D 6) q b1 b))
    rw[d6]
    exact B11 hb h2
   ·have hd0:=hD 0 (by kernel_rfl)
    have hd5:=hD 5 (by kernel_rfl)
    obtain ⟨c1,c2,c3⟩:=j.m hd0
    obtain ⟨e1,e2,e3⟩:=j.g hd5
    simp only at c2 c3 e2 e3
    rw[hDi] at c2
    simp only[List.drop,List.take]
    simp +decide only[ZS,↓reduceIte,c3,e3,c2]
    have nb:∀ {k o},Hr k=some o->k≠b0:=fun h q=>by rw[q,c1] at h;cases h
    refine ⟨ents_ok _ _ _ _ _,hN _ ⟨trivial,true,b0,b1,b2,b6,⟨rfl,j.t1,j.t2,j.t5,j.t16,j.t18,fun k o h=>K12 (nb h) (j.old k o h),fun _=>⟨c1,?_,c3⟩,fun h=>⟨(j.f h).1,K12 (j.n1 hd0 h).symm (j.f h).2.1,(j.f h).2.2⟩,fun h=>⟨e1,K12 (j.n2 hd0 hd5).symm e2,e3⟩,j.w,fun h=>⟨(j.c h).1,K12 (ne_of_obj (j.c h).2.1 c2 (fun q=>by cases q)) (j.c h).2.1,(j.c h).2.2⟩,j.n1,j.n2,j.n3,j.k3,fun _=>⟨hd0,hd5⟩,j.k7,j.k9⟩⟩⟩
    show (Hc.upd b0 _) b0=some (.map (ents (D 3) true true b1 b2))
    rw[HM.upd_same,ents_6]
   ·have hd0:=hD 0 (by kernel_rfl)
    have c3:=(j.m hd0).2.2
    simp only at c3
    simp only[List.drop,List.take]
    simp +decide only[ZS,↓reduceIte,c3]
    exact hN _ ⟨trivial,q,b0,b1,b2,b6,⟨rfl,j.t1,j.t2,j.t5,j.t16,j.t18,j.old,j.m,j.f,j.g,fun _=>rfl,j.c,j.n1,j.n2,j.n3,j.k3,j.k6,fun _=>hd0,fun h=>⟨rfl,(j.k9 h).2⟩⟩⟩
   ·have d9:=no 9 fun _ h=>(j.k9 h).2
    simp only[List.drop,List.take]
    simp +decide only[ZS,↓reduceIte]
    refine F10 fun b hb=>?_
    simp +decide only[ZS,↓reduceIte]
    have hb0:=fresh_old j.old hb
    refine hN _ ⟨trivial,q,b0,b1,b2,b,⟨rfl,j.t1,j.t2,j.t5,j.t16,j.t18,fun k o h=>B11 hb (j.old k o h),fun h=>⟨(j.m h).1,B11 hb (j.m h).2.1,(j.m h).2.2⟩,fun h=>⟨(j.f h).1,B11 hb (j.f h).2.1,(j.f h).2.2⟩,fun h=>⟨(j.g h).1,B11 hb (j.g h).2.1,(j.g h).2.2⟩,j.w,fun _=>⟨hb0,?_,rfl⟩,j.n1,j.n2,j.n3,j.k3,j.k6,j.k7,fun h=>⟨(j.k9 h).1,rfl⟩⟩⟩
    show (Hc.upd b _) b=some (.cells 93 [if D 9=true then _ else .val (.map none)])
    rw[d9,HM.upd_same];rfl
   ·have hd7:=hD 7 (by kernel_rfl)
    have hd8:=hD 8 (by kernel_rfl)
    have c0:=j.w hd7
    obtain ⟨c1,c2,c3⟩:=j.c hd8
    simp only at c0 c2 c3
    rw[hDi] at c2
    simp only[List.drop,List.take]
    simp +decide only[ZS,↓reduceIte,c0,c2,c3]
    have nb:∀ {k o},Hr k=some o->k≠b6:=fun h q=>by rw[q,c1] at h;cases h
    have nm:∀ {k es},Hc k=some (.map es)->k≠b6:=fun h q=>by rw[q,c2] at h;cases h
    refine hN _ ⟨trivial,q,b0,b1,b2,b6,⟨rfl,j.t1,j.t2,j.t5,j.t16,j.t18,fun k o h=>K12 (nb h) (j.old k o h),fun h=>⟨(j.m h).1,K12 (nm (j.m h).2.1) (j.m h).2.1,(j.m h).2.2⟩,fun h=>⟨(j.f h).1,K12 (nm (j.f h).2.1) (j.f h).2.1,(j.f h).2.2⟩,fun h=>⟨(j.g h).1,K12 (nm (j.g h).2.1) (j.g h).2.1,(j.g h).2.2⟩,j.w,fun _=>⟨c1,HM.upd_same _ _ _,c3⟩,j.n1,j.n2,j.n3,j.k3,j.k6,j.k7,fun _=>⟨hd7,hd8⟩⟩⟩
  ·rintro D ⟨tm2,Hc,ds⟩ hall ⟨q,b0,b1,b2,b6,j⟩
   obtain rfl:ds=[]:=j.ds
   have A:∀ i,i<10->[1,4].contains i=false->D i=true:=fun i h1 h2=>hall i h1 h2
   obtain ⟨m1,m2,m3⟩:=j.m (A 0 (by decide) (by decide))
   obtain ⟨f1,f2,f3⟩:=j.f (A 2 (by decide) (by decide))
   obtain ⟨g1,g2,g3⟩:=j.g (A 5 (by decide) (by decide))
   obtain ⟨c1,c2,c3⟩:=j.c (A 8 (by decide) (by decide))
   have n1:=j.n1 (A 0 (by decide) (by decide)) (A 2 (by decide) (by decide))
   have n2:=j.n2 (A 0 (by decide) (by decide)) (A 5 (by decide) (by decide))
   have n3:=j.n3 (A 2 (by decide) (by decide)) (A 5 (by decide) (by decide))
   rw[A 3 (by decide) (by decide),A 6 (by decide) (by decide)] at m2
   rw[A 9 (by decide) (by decide),if_pos rfl] at c2
   replace m2:Hc b0=some (.map (gvn q b1 b2)):=m2
   have j1:=j.t1
   have j2:=j.t2
   have j5:=j.t5
   have hold:=j.old
   simp only at j1 j2 j5 f2 g2 c2 c3 hold
   clear j hall A
   obtain ⟨Hn,hHn⟩:∃ Hn:HM,Hn=fun k=>if k=b0\/k=b6 then none else Hc k:=⟨_,rfl⟩
   have dn:Drop Hc Hn:=fun k=>by
    rw[hHn]
    by_cases q:k=b0\/k=b6
    ·exact .inl (if_pos q)
    ·exact .inr (if_neg q)
   have gn:∀ {k},k≠b0->k≠b6->Hn k=Hc k:=fun q1 q2=>by rw[hHn];exact if_neg (by simp[q1,q2])
   have e0:Hn b0=none:=by rw[hHn];exact if_pos (.inl rfl)
   have e6:Hn b6=none:=by rw[hHn];exact if_pos (.inr rfl)
   have nv:Hn b1=some (oU false (freeK e)):=by
    rw[gn n1.symm (ne_of_obj f2 c2 (fun q=>by cases q))];exact f2
   have nh:Hn b2=some (oU true (freeK e)):=by
    rw[gn n2.symm (ne_of_obj g2 c2 (fun q=>by cases q))];exact g2
   have nold:∀ k o,Hr k=some o->Hn k=some o:=fun k o h=>by
    have k0:k≠b0:=fun q=>by rw[q,m1] at h;cases h
    have k6:k≠b6:=fun q=>by rw[q,c1] at h;cases h
    rw[gn k0 k6];exact hold k o h
   refine VW_see (s:=⟨tm2,Hc,[]⟩) (i:=6) (H1:=Hn) (v':=given q b1 b2) dn (by
    show View G0 Hc Hn (tm2 6) _
    rw[c3]
    exact View.cellsR (off:=0) dn c2 e6 (.cons (View.map dn m2 e0) .nil)) ?_
   clear dn gn e0 e6 m2 c2 c3 f2 g2 hHn hold m3 f3 g3
   rw[C10] at j1
   have hEl:=allK_len e
   have hEe:(allK e).length<=20000000:=by have:=he.2.2.2;omega
   have hfa:=freeK_le he.2.1 false
   have hfb:=freeK_le he.2.1 true
   have hnd:=he.2.2.1
   have hwd:=he.2.2.2
   refine A10 [] fun N E hN hE=>?_
   simp +decide only[ZS,↓reduceIte,j1,j2,j5]
   refine W10 (by kernel_rfl) (CallF.mono (renamerIn_c (nx:=nxU (allK e)) (o1:=oU false) (o2:=oU true) (cnt:=GS.cnt) (top:=60000000) (g:=79) (cap:=[given q b1 b2,.ref [.imap (kv (allK e))]]) n3 ?_ (nxU_cnt _) e he [] (freeK e) Hn nv nh ?_) ?_)
   ·intro a s h H1 hca hsa hva hb1 hb2
    exact CallF.callV (by kernel_rfl) (unique1_c tabs0 hEe a (by omega) s hva h q n3 hb1 hb2)
   ·show (freeK e false).length+(freeK e true).length+e.wid<=_
    omega
   rintro r' H5 ⟨rfl,rfl⟩
   rw[M10]
   have hcan:(renF (nxU (allK e)) e [] (freeK e)).1=sUniq e:=by unfold sUniq;rw[if_pos hc'];rfl
   rw[hcan]
   generalize (renF (nxU (allK e)) e [] (freeK e)).2=a9
   have hrv:r≠b1:=fun q=>by rw[<-q,hrr] at f1;cases f1
   have hrh:r≠b2:=fun q=>by rw[<-q,hrr] at g1;cases g1
   have n5:((Hn.upd b1 (oU false a9)).upd b2 (oU true a9)) r=some (.cells 27 zc):=by rw[HM.upd_ne _ _ hrh,HM.upd_ne _ _ hrv];exact nold r _ hrr
   have d5:Drop ((Hn.upd b1 (oU false a9)).upd b2 (oU true a9)) H:=fun k=>by
    by_cases qr:k=r
    ·rw[qr];exact .inl hr
    ·have hv0:H b1=none:=by
      rw[<-hro b1 (Ne.symm hrv)];exact f1
     have hh0:H b2=none:=by rw[<-hro b2 (Ne.symm hrh)];exact g1
     by_cases qh:k=b2
     ·rw[qh];exact .inl hh0
     ·by_cases qv:k=b1
      ·rw[qv];exact .inl hv0
      ·rw[HM.upd_ne _ _ qh,HM.upd_ne _ _ qv]
       cases hk':H k with
       |none=>exact .inl rfl
       |some o=>exact .inr (nold k o (by rw[hro k qr];exact hk')).symm
   generalize (Hn.upd b1 (oU false a9)).upd b2 (oU true a9)=H9 at n5 d5
   simp +decide only[ZS,↓reduceIte,j2,n5]
   refine hN _ ?_
   clear hN hE N E
   refine L10 ?_
   try simp only[AX.then]
   have hd:Drop (H9.upd r (.cells 27 (sUniq e).av.cells)) H:=fun k=>by
    by_cases qr:k=r
    ·rw[qr];exact .inl hr
    ·rw[HM.upd_ne _ _ qr];exact d5 k
   rw[C10] at hd
   have hav:(sUniq e).av=.agg [.int (sUniq e).k,.int (sUniq e).n,.str (sUniq e).s,.str (sUniq e).t,.list (strs (sUniq e).names),.list (exs (sUniq e).l),.list (ars (sUniq e).arms)]:=by
    have:=ex_fold (sUniq e).k (sUniq e).n (sUniq e).s (sUniq e).t (sUniq e).names (sUniq e).l (sUniq e).arms
    rw[ex_eta] at this;exact this.symm
   rw[hc',hav] at hk
   refine ⟨fun d hd=>(by cases hd),_,.tup [.agg [.int (sUniq e).k,.int (sUniq e).n,.str (sUniq e).s,.str (sUniq e).t,.list (strs (sUniq e).names),.list (exs (sUniq e).l),.list (ars (sUniq e).arms)],.int 0],H,vresults_aggT (et:=27) (a:=2) (t:=27) (cs:=[.int (sUniq e).k,.int (sUniq e).n,.str (sUniq e).s,.str (sUniq e).t,.list (strs (sUniq e).names),.list (exs (sUniq e).l),.list (ars (sUniq e).arms)]) rfl ti27 rfl rfl j2 (HM.upd_same _ _ _),hd,View.of_drop hd _,hk⟩
end
section
variable {G:GT}
end
theorem occ_var {e:Ex} (hn:nodeErr e=0) (h:(occ e).2.2=true):isVar (occ e).1=true:=by
 obtain ⟨x,hx,hk,_,hcl,_⟩:=(O13 e).1 hn
 have h2:=hcl.1
 have h1:x.S=1:=by
  unfold occ at h
  split at h
  ·rename_i q
   rcases q with q|q|q
   ·rw[q] at hx;cases hx;rfl
   ·rw[q] at hx;cases hx;rfl
   ·rw[q] at hx;cases hx;rfl
  ·split at h
   ·rename_i q
    rw[q] at hx;cases hx;rfl
   ·cases h
 rw[h1] at h2
 rw[occ_s h];exact h2
section
variable {α:Type} {nx:α->ByteArray->Bool->ByteArray×α}
end
theorem left_check {e u:Ex} (hc:check e=0) (ha:alphaF e u []=true) (hu:checked u=0):check u=0:=by
 have hl:=alpha_left e u [] [] ha
 unfold check at hc ⊢
 rw[<-hl,hu]
 split at hc
 ·cases hc
 ·rename_i h
  rw[if_neg h]
structure UG (e u:Ex):Prop where
 ok:Okk u
 inp:Inp u
 c:check u=0
 a:alphaF e u []=true
theorem sUniq_good {e:Ex} (hi:Inp e) (hc:check e=0):UG e (sUniq e)/\sUniq e=uniqG (allK e) e:=by
 have he:=hi.okk hc
 have hE:(allK e).length<=20000000:=by
  have:=allK_len e
  have:=he.2.2.2
  have hb:bnd=16777216:=rfl
  omega
 obtain ⟨h1,h2,h3,h4,h5⟩:=uniq_good hE he
 have hs:sUniq e=uniqG (allK e) e:=by unfold sUniq;rw[if_pos hc]
 rw[<-hs] at h1 h2 h3 h4 h5
 exact ⟨⟨⟨h3,h2,by rw[h4];exact he.2.2.1,by rw[h5];exact he.2.2.2⟩,⟨h3,by rw[h4];exact he.2.2.1,by rw[h5];exact he.2.2.2⟩,left_check hc h1 h2,h1⟩,hs⟩
end Go.V
