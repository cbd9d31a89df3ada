/- The program's scope: all names of an expression. No condition. The program's scope: names like an old one. No condition. The program's scope: fresh. No condition. The program's scope: Unique's names. No condition. All names of an expression: plain. No condition. The program's scope: Unique. No condition. The law's bindings. No condition. ScopeUnique: what it asks, plain. No condition. -/
import Derived.Test.YtjeiboididfgmaaGreatDoorQK
import Derived.Test.YtjeiboididfgmaaGreatDoorQH
import Derived.Test.YtjeiboididfgmaaGreatDoorQYh
set_option linter.unusedVariables false
set_option linter.unusedSimpArgs false
set_option linter.defProp false
set_option maxRecDepth 100000
namespace Go.V
open Go Go.Proofs.Tryz
def putP (e:Ex) (k:Nat) (acc:List ByteArray):List ByteArray:=(List.range k).foldl (fun acc i=>(hOf e i).foldl addK ((vOf e i).foldl addK acc)) acc
theorem putP_succ (e:Ex) (k:Nat) (acc:List ByteArray):putP e (k+1) acc=(hOf e k).foldl addK ((vOf e k).foldl addK (putP e k acc)):=by
 unfold putP;rw[List.range_succ,List.foldl_append];rfl
def occK (e:Ex) (acc:List ByteArray):List ByteArray:=if (occ e).2.2 then addK acc (occ e).1 else acc
def allVis (ch:Ch) (e:Ex) (acc:List ByteArray):List ByteArray:=putP e e.parts.length (occK e acc)
def allK (e:Ex):List ByteArray:=walkF allVis e [] []
section
variable {G:GT} {H:HM}
theorem allVis_c (e:Ex) (he:Okk e) (ch:Ch) (acc:List ByteArray) {b:Nat} (hb:H b=some (.map (kv acc))) :
  CallF prog G 101 [e.av,chV ch,.ref [.map b]] H fun r H'=>r=.ret .unit/\H'=H.upd b (.map (kv (allVis ch e acc))):=by
 have hf:=he.1.one
 have hn:=he.node
 refine K11 (fn:=f101) func101 rfl (by kernel_rfl) (Nat.le_of_ble_eq_true (by kernel_rfl)) ?_
 refine A10 [] fun N E hN hE=>?_
 simp +decide only[ZS,↓reduceIte]
 refine hN _ ?_
 clear hN hE N E
 refine I10 (A10 [] fun N E hN hE=>?_)
 simp +decide only[ZS,↓reduceIte]
 refine D10 (occ_c e) ?_
 simp +decide only[ZS,↓reduceIte]
 refine hN _ ?_
 clear hN hE N E
 refine A10 [] fun N E hN hE=>?_
 simp +decide only[ZS,↓reduceIte]
 refine hN _ ?_
 clear hN hE N E
 refine VW_thenC (fun s'=>s'.tmps 2=.ref [.map b]/\s'.tmps 3=.ref e.av.cells/\s'.H=H.upd b (.map (kv (occK e acc)))/\s'.defs=[]) ?_ ?_
 ·refine O10 rfl (fun hc=>?_) (fun hc=>?_)
  ·refine P10 [] fun N E hN hE=>?_
   simp +decide only[ZS,↓reduceIte]
   refine ⟨bs_ok (by kernel_rfl) (B12 ⟨rfl,rfl⟩),?_⟩
   refine G11 (by kernel_rfl) (put_c [(occ e).1] (by show 1<=lim;decide) hb ?_)
   rw[T10]
   simp +decide only[ZS,↓reduceIte]
   refine hN _ ⟨rfl,by rw[C10];rfl,?_,rfl⟩
   have hc':(occ e).2.2=true:=hc
   unfold occK;rw[if_pos hc'];rfl
  ·have hc':(occ e).2.2=false:=hc
   refine G10 ⟨rfl,by rw[C10];rfl,?_,rfl⟩
   unfold occK;rw[if_neg (by rw[hc'];decide),updH_self hb]
 rintro ⟨tm,H1,ds⟩ ⟨f2,f3,gH,gds⟩
 obtain rfl:ds=[]:=gds
 obtain rfl:H1=H.upd b (.map (kv (occK e acc))):=gH
 rw[C10] at f3
 refine B10 2 _ f2 (B10 3 _ f3 ?_)
 refine A10 [] fun N E hN hE=>?_
 simp +decide only[ZS,↓reduceIte]
 refine D10 (sParts_c e) ?_
 simp +decide only[ZS,↓reduceIte]
 refine hN _ ?_
 clear hN hE N E
 refine K10 ?_
 refine F13 fun tm9 htm=>?_
 have t22:tm9 22=.func (.func 136) [] [.ref e.av.cells]:=by rw[htm,C10];rfl
 have t2:tm9 2=.ref [.map b]:=by rw[htm];rfl
 clear htm
 refine Y11 (xs:=items e) (gf:=136) (first:=[]) (cap:=[.ref e.av.cells]) t22 (parts_it e hf hn) ?_
  (fun i H'=>H'=H.upd b (.map (kv (putP e i (occK e acc))))) (fun _ _=>False) rfl ?_ ?_ ?_
 ·intro x hx
  obtain ⟨p,_,rfl⟩:=List.mem_map.1 hx
  rfl
 ·rintro l i x H' hx rfl
  have hi:i<e.parts.length:=by
   have:=(List.getElem?_eq_some_iff.1 hx).1
   rwa [P11] at this
  rw[P13 hi] at hx
  cases hx
  generalize hxe:e.parts[i]=x at *
  simp only[setPs,List.zip,List.zipWith,List.foldl,partAV]
  refine P10 [] fun N E hN hE=>?_
  simp +decide only[ZS,↓reduceIte]
  refine L10 fun b9 hb9=>?_
  simp +decide only[ZS,↓reduceIte]
  refine hN _ ?_
  clear hN hE N E
  refine ⟨rfl,?_⟩
  refine U11 (i:=9) hb9 rfl ?_
  clear hb9
  refine K10 ?_
  refine A10 [] fun N E hN hE=>?_
  simp +decide only[ZS,↓reduceIte,t2]
  refine G11 (by kernel_rfl) (put_c (vOf e i) (vOf_len hf i) (HM.upd_same _ _ _) ?_)
  rw[T10,HM.upd_upd]
  simp +decide only[ZS,↓reduceIte]
  refine hN _ ?_
  clear hN hE N E
  refine P10 [] fun N E hN hE=>?_
  simp +decide only[ZS,↓reduceIte,t2]
  refine G11 (by kernel_rfl) (put_c (hOf e i) (hOf_len hf i) (HM.upd_same _ _ _) ?_)
  rw[T10,HM.upd_upd]
  simp +decide only[ZS,↓reduceIte]
  refine hN _ ?_
  clear hN hE N E
  refine ⟨rfl,_,Drop.refl _,?_⟩
  rw[putP_succ]
 ·rintro D H' rfl _ _
  refine ⟨fun d hd=>?_,.unit,.unit,_,J11 rfl,Drop.refl _,View.refl _,rfl,?_⟩
  ·simp at hd;exact ⟨_,hd⟩
  ·rw[P11];rfl
 ·rintro _ _ _ _ hJ
  exact hJ.elim
theorem all_c (e:Ex) (ho:Okk e):PureF prog G 58 [e.av] H (.imap (kv (allK e))):=by
 refine M10 (fn:=f58) func58 rfl (by kernel_rfl) (by kernel_rfl) (Nat.le_of_ble_eq_true (by kernel_rfl)) fun K hk=>?_
 refine A10 [] fun N E hN hE=>?_
 simp +decide only[ZS,↓reduceIte]
 refine hN _ ?_
 clear hN hE N E
 refine A10 [] fun N E hN hE=>?_
 simp +decide only[ZS,↓reduceIte]
 refine L10 fun b hb=>?_
 simp +decide only[ZS,↓reduceIte]
 refine L10 fun c hc=>?_
 obtain ⟨hcb,hc0⟩:=O11 hc
 have hcs:∀ x:List AV,((H.upd b (.map [])).upd c (.cells 67 x)) c=some (.cells 67 x):=fun x=>HM.upd_same _ _ _
 simp +decide only[ZS,↓reduceIte,hcs]
 refine hN _ ?_
 clear hN hE N E
 try simp only[HM.upd_upd]
 refine U11 (i:=3) hc rfl ?_
 refine A10 [] fun N E hN hE=>?_
 simp +decide only[ZS,↓reduceIte]
 refine G11 (by kernel_rfl) (CallF.mono (walk_c (fun acc H'=>H'=H.upd b (.map (kv acc))) allVis 101 [.ref [.map b]] ?_ e ho [] (fun _ h=>by cases h) [] _ rfl) ?_)
 ·rintro e' ch acc H' ho' hch rfl
  refine CallF.callV (by kernel_rfl) ?_
  show CallF prog G _ [e'.av,chV ch,.ref [.map b]] _ _
  refine CallF.mono (allVis_c e' ho' ch acc (HM.upd_same _ _ _)) ?_
  rintro r H' ⟨rfl,rfl⟩
  exact ⟨rfl,by rw[HM.upd_upd]⟩
 rintro r H' ⟨rfl,rfl⟩
 rw[T10]
 simp +decide only[ZS,↓reduceIte]
 refine hN _ ?_
 clear hN hE N E
 refine A10 [] fun N E hN hE=>?_
 simp +decide only[ZS,↓reduceIte]
 refine hN _ ?_
 clear hN hE N E
 refine J10 ?_
 exact Fin_drop (L11 2 rfl) (Drop.upd hb) (View.map (Drop.upd hb) (HM.upd_same _ _ _) hb) hk
end
theorem extract_ofB (s:ByteArray) (m:Nat):s.extract 0 m=ofB ((bytes s).take m):=bytes_ext (by
 rw[bytes_ofB]
 unfold bytes
 rw[ByteArray.data_extract,Array.toList_extract]
 simp)
theorem bytes_word {s:ByteArray} (h:isVar s=true):∀ k (hk:k<s.size),wordByte s[k]=true:=fun k hk=>by
 unfold isVar word at h
 simp only[Bool.and_eq_true,List.all_eq_true] at h
 exact h.1.2 _ (List.mem_of_getElem? (bytes_at s k hk))
section
variable {G:GT} {H:HM}
theorem stem_c (s:ByteArray) (hv:isVar s=true):PureF prog G 108 [.str s] H (.str (stemB s)):=by
 have hsz:=isVar_size hv
 have hw:=bytes_word hv
 refine M10 (fn:=f108) func108 rfl (by kernel_rfl) (by kernel_rfl) (Nat.le_of_ble_eq_true (by kernel_rfl)) fun K hk=>?_
 refine A10 [] fun N E hN hE=>?_
 simp +decide only[ZS,↓reduceIte]
 refine hN _ ?_
 clear hN hE N E
 refine A10 [] fun N E hN hE=>?_
 simp +decide only[ZS,↓reduceIte]
 refine hN _ ?_
 clear hN hE N E
 refine I10 (A10 [] fun N E hN hE=>?_)
 simp +decide only[ZS,↓reduceIte]
 refine L10 fun b hb=>?_
 simp +decide only[ZS,↓reduceIte]
 refine hN _ ?_
 clear hN hE N E
 refine K10 ?_
 refine Y10 (fun k s'=>k<=s.size/\s'.tmps 0=.str s/\s'.tmps 3=.int (stemN ((bytes s).take k))/\s'.tmps 7=.addr b 0/\s'.H=H.upd b (.siter s k)/\s'.defs=[]) (fun k=>s.size-k) 0 ⟨Nat.zero_le _,rfl,rfl,rfl,rfl,rfl⟩ ?_
 rintro k ⟨tm,H',ds⟩ ⟨hk1,h0,h3,h7,hH,hds⟩
 obtain rfl:H'=H.upd b (.siter s k):=hH
 obtain rfl:ds=[]:=hds
 have hbs:(H.upd b (.siter s k)) b=some (.siter s k):=HM.upd_same _ _ _
 have hd:Drop (H.upd b (.siter s k)) H:=Drop.upd hb
 refine B10 0 _ h0 (B10 3 _ h3 (B10 7 _ h7 ?_))
 refine A10 [] fun N E hN hE=>?_
 simp +decide only[ZS,↓reduceIte,hbs]
 by_cases hlt:k<s.size
 ·have hcb:=bytes_at s k hlt
  have hwb:=hw k hlt
  have hlo:s[k].toNat<128:=by
   simp only[wordByte,byteIs,Bool.or_eq_true,Bool.and_eq_true,decide_eq_true_eq] at hwb
   omega
  have hde:=decode_lo s k hlt hlo
  have hlb:k<(bytes s).length:=by rw[R11];exact hlt
  generalize s[k]=c at hcb hwb hlo hde
  have htk:(bytes s).take (k+1)=(bytes s).take k++[c]:=by
   rw[List.take_succ_eq_append_getElem hlb]
   rw[List.getElem?_eq_getElem hlb] at hcb
   injection hcb with hcb
   rw[hcb]
  refine wnxS_yes hlt ?_
  rw[hde]
  simp +decide only[ZS,↓reduceIte]
  refine hN _ ?_
  clear hN hE N E
  refine I10 (O10 rfl (fun hc=>?_) (fun hc=>?_))
  ·refine G10 ?_
   refine K10 ?_
   refine A10 [] fun N E hN hE=>?_
   simp +decide only[ZS,↓reduceIte]
   refine hN _ ?_
   clear hN hE N E
   refine C11 [] (fun s'=>s'.tmps 17=.bool (decide ((c.toNat:Int)<48)||decide ((57:Int)<(c.toNat:Int)))/\s'.tmps 0=.str s/\s'.tmps 3=.int (stemN ((bytes s).take k))/\s'.tmps 4=.int k/\s'.tmps 7=.addr b 0/\s'.H=H.upd b (.siter s (k+1))/\s'.defs=[]) (fun N E hN hE=>?_) ?_
   ·clear hE hk
    simp +decide only[ZS,↓reduceIte]
    refine U10 (fun hb1=>?_) (fun hb1=>?_)
    ·simp +decide only[ZS,↓reduceIte,hb1]
     refine hN _ ⟨?_,rfl,rfl,rfl,rfl,rfl,rfl⟩
     simp +decide only[ZS,↓reduceIte]
     rw[hb1];rfl
    ·simp +decide only[ZS,↓reduceIte,hb1]
     refine hN _ ⟨?_,rfl,rfl,rfl,rfl,rfl,rfl⟩
     simp +decide only[ZS,↓reduceIte]
     rw[hb1];rfl
   rintro ⟨tb,Hb,dsb⟩ ⟨f17,f0,f3,f4,f7,gH,gds⟩
   obtain rfl:dsb=[]:=gds
   obtain rfl:Hb=H.upd b (.siter s (k+1)):=gH
   refine B10 17 _ f17 (B10 0 _ f0 (B10 3 _ f3 (B10 4 _ f4 (B10 7 _ f7 ?_))))
   have hdg:(decide ((c.toNat:Int)<48)||decide ((57:Int)<(c.toNat:Int)))=!digB c:=by
    unfold digB byteIs
    rw[Bool.eq_iff_iff]
    simp only[Bool.or_eq_true,decide_eq_true_eq,Bool.not_eq_true',Bool.and_eq_false_iff,decide_eq_false_iff_not]
    omega
   rw[hdg]
   refine O10 rfl (fun hc=>?_) (fun hc=>?_)
   ·have hn:digB c=false:=by simpa using hc
    refine P10 [] fun N E hN hE=>?_
    simp +decide only[ZS,↓reduceIte,wrapN (show k<9223372036854775807 by omega)]
    refine hN _ ?_
    clear hN hE N E
    refine ⟨k+1,⟨hlt,rfl,?_,rfl,rfl,rfl⟩,by omega⟩
    rw[htk,stemN_not hn,List.length_take,Nat.min_eq_left (by omega)];rfl
   ·have hn:digB c=true:=by simpa using hc
    refine G10 ?_
    refine ⟨k+1,⟨hlt,rfl,?_,rfl,rfl,rfl⟩,by omega⟩
    rw[htk,stemN_dig hn];rfl
  ·cases hc
 ·refine wnxS_no hlt ?_
  simp +decide only[ZS,↓reduceIte]
  refine hN _ ?_
  clear hN hE N E
  refine I10 (O10 rfl (fun hc=>?_) (fun hc=>?_))
  ·cases hc
  have hks:k=s.size:=by omega
  rw[hks,<-R11,List.take_of_length_le (Nat.le_refl _)]
  have hle:=stemN_le (bytes s)
  rw[R11] at hle
  have hex:s.extract 0 (stemN (bytes s))=stemB s:=by rw[extract_ofB];rfl
  have h1:(0:Int)<=(stemN (bytes s):Int):=by omega
  have h2:((stemN (bytes s):Nat):Int)<=(s.size:Int):=by omega
  refine B11 ?_
  refine A10 [] fun N E hN hE=>?_
  simp +decide only[ZS,↓reduceIte,h1,h2,hex,Int.toNat_natCast]
  refine hN _ ?_
  clear hN hE N E
  rw[hks] at hd
  refine J10 (I12 (H1:=H) 2 rfl ?_ ?_)
  ·rw[R11]
   exact hd
  ·simp +decide only[ZS,↓reduceIte]
   exact hk
end
theorem itoa_len (n:Nat):(itoa n).size=(Lib.decDigits n).length:=by rw[<-itoa_bytes,R11]
section
variable {G:GT} {H:HM}
theorem fresh_c (hG:Tabs G) (base:ByteArray) (hv:isVar base=true) (U:List ByteArray) (hU:U.length<=100000000) {g:FuncId} {cap:List AV} (hg:∀ (s:ByteArray) (K:ARes->HM->Prop),s.size<=32->K (.ret (.bool (has U s))) H->CallV prog G (.func (.func g) [] cap) [.str s] H K) :
  PureF prog G 64 [.str base,.func (.func g) [] cap] H (.str (freshB base U)):=by
 have hsz:=isVar_size hv
 have hlim:32<=lim:=by decide
 refine M10 (fn:=f64) func64 rfl (by kernel_rfl) (by kernel_rfl) (Nat.le_of_ble_eq_true (by kernel_rfl)) fun K hk=>?_
 refine A10 [] fun N E hN hE=>?_
 simp +decide only[ZS,↓reduceIte]
 refine hN _ ?_
 clear hN hE N E
 refine I10 (A10 [] fun N E hN hE=>?_)
 simp +decide only[ZS,↓reduceIte]
 refine hg base _ (by omega) ?_
 rw[T10]
 simp +decide only[ZS,↓reduceIte]
 refine hN _ ?_
 clear hN hE N E
 refine O10 rfl (fun hc=>?_) (fun hc=>?_)
 ·have hn:has U base=false:=by simpa using hc
  refine A10 [] fun N E hN hE=>?_
  simp +decide only[ZS,↓reduceIte]
  refine hN _ ?_
  clear hN hE N E
  refine J10 (F10 4 rfl ?_)
  simp +decide only[ZS,↓reduceIte]
  rw[freshB,hn,if_neg (by decide)] at hk;exact hk
 have hn:has U base=true:=by simpa using hc
 rw[freshB,hn,if_pos rfl] at hk
 refine G10 ?_
 refine A10 [] fun N E hN hE=>?_
 simp +decide only[ZS,↓reduceIte]
 refine hN _ ?_
 clear hN hE N E
 obtain ⟨s1,s2⟩:=freshM_spec (stemB base) U
 have hM:=freshM_le (stemB base) U hU
 obtain ⟨M,hMM⟩:∃ M,freshM (stemB base) U=M:=⟨_,rfl⟩
 rw[hMM] at s1 s2 hM hk
 have hst:(stemB base).size<=12:=by
  unfold stemB
  rw[<-R11,bytes_ofB,List.length_take,R11];omega
 refine K10 ?_
 refine Y10 (fun n s'=>n<=M/\s'.tmps 0=.str base/\s'.tmps 1=.func (.func g) [] cap/\s'.tmps 5=.int n/\s'.H=H/\s'.defs=[]) (fun n=>M-n) 0 ⟨Nat.zero_le _,rfl,rfl,rfl,rfl,rfl⟩ ?_
 rintro n ⟨tm,H',ds⟩ ⟨hn1,h0,h1,h5,hH,hds⟩
 obtain rfl:H'=H:=hH
 obtain rfl:ds=[]:=hds
 have hd9:(itoa n).size<=9:=by rw[itoa_len];exact dec_short 8 n (by omega)
 refine B10 0 _ h0 (B10 1 _ h1 (B10 5 _ h5 ?_))
 refine I10 (K10 ?_)
 refine A10 [] fun N E hN hE=>?_
 simp +decide only[ZS,↓reduceIte]
 refine D10 (itoa_c hG n (by omega) (by omega)) ?_
 simp +decide only[ZS,↓reduceIte]
 refine D10 (stem_c base hv) ?_
 simp +decide only[ZS,↓reduceIte]
 refine hN _ ?_
 clear hN hE N E
 have hwd:IntKind.i64.wrap (12-((itoa n).size:Int))=((12-(itoa n).size:Nat):Int):=by rw[wrap64]<;>omega
 have hmin:(if ((12-(itoa n).size:Nat):Int)<((stemB base).size:Int) then ((12-(itoa n).size:Nat):Int) else ((stemB base).size:Int))=((min (stemB base).size (12-(itoa n).size):Nat):Int):=by split<;>omega
 have hge:(0:Int)<=((min (stemB base).size (12-(itoa n).size):Nat):Int):=by omega
 have hle:((min (stemB base).size (12-(itoa n).size):Nat):Int)<=((stemB base).size:Int):=by omega
 have hex:(stemB base).extract 0 (((min (stemB base).size (12-(itoa n).size):Nat):Int)).toNat=ofB ((bytes (stemB base)).take (12-(itoa n).size)):=by
  rw[extract_ofB,Int.toNat_natCast]
  congr 1
  rw[<-R11 (stemB base)]
  by_cases q:(bytes (stemB base)).length<=12-(itoa n).size
  ·rw[Nat.min_eq_left q,List.take_of_length_le (Nat.le_refl _),List.take_of_length_le q]
  ·rw[Nat.min_eq_right (by omega)]
 have hsz2:(ofB ((bytes (stemB base)).take (12-(itoa n).size))).size+(itoa n).size<=lim:=by
  rw[<-R11 (ofB _),bytes_ofB,List.length_take,R11];omega
 have hcand:ofB ((bytes (stemB base)).take (12-(itoa n).size))++itoa n=candB (stemB base) n:=rfl
 refine A10 [] fun N E hN hE=>?_
 simp +decide only[ZS,↓reduceIte,hwd,hmin,hge,hle,hex,hsz2,hcand]
 refine hN _ ?_
 clear hN hE N E
 have hcs:(candB (stemB base) n).size<=32:=by
  rw[<-R11,candB_bytes,List.length_append,List.length_take,R11]
  rw[itoa_len] at hd9;omega
 refine A10 [] fun N E hN hE=>?_
 simp +decide only[ZS,↓reduceIte]
 refine hg (candB (stemB base) n) _ hcs ?_
 rw[T10]
 simp +decide only[ZS,↓reduceIte]
 refine hN _ ?_
 clear hN hE N E
 refine O10 rfl (fun hc=>?_) (fun hc=>?_)
 ·have hq:has U (candB (stemB base) n)=false:=by simpa using hc
  have he:n=M:=by
   have:¬ n<M:=fun q=>by
    have h3:=s2 n q
    rw[Bool.eq_false_iff] at hq
    exact hq ((W11 _ _).2 h3)
   omega
  refine A10 [] fun N E hN hE=>?_
  simp +decide only[ZS,↓reduceIte]
  refine hN _ ?_
  clear hN hE N E
  refine J10 ?_
  simp only[AX.inBlock,AX.then]
  refine F10 (fn:=f64) 4 rfl ?_
  simp +decide only[ZS,↓reduceIte]
  rw[he];exact hk
 ·have hq:has U (candB (stemB base) n)=true:=by simpa using hc
  have hlt:n<M:=by
   have:n≠M:=fun q=>by
    rw[q] at hq
    exact s1 ((W11 _ _).1 hq)
   omega
  refine G10 ?_
  refine P10 [] fun N E hN hE=>?_
  simp +decide only[ZS,↓reduceIte,wrapN (show n<9223372036854775807 by omega)]
  refine hN _ ?_
  clear hN hE N E
  exact ⟨n+1,⟨hlt,rfl,rfl,rfl,rfl,rfl⟩,by omega⟩
end
section
variable {G:GT} {H:HM}
def gvn (q:Bool) (b1 b2:Nat):List (AV×AV):=if q then [(.bool false,.map b1),(.bool true,.map b2)] else [(.bool true,.map b2),(.bool false,.map b1)]
end
theorem addF_mem (x:ByteArray):∀ (l acc:List ByteArray),x∈l.foldl addK acc↔x∈acc\/x∈l
 |[],acc=>by simp
 |s::l,acc=>by
  rw[List.foldl_cons,addF_mem x l,addK_mem,List.mem_cons,or_assoc]
theorem addF_nodup:∀ (l:List ByteArray) {acc:List ByteArray},acc.Nodup->(l.foldl addK acc).Nodup
 |[],_,h=>h
 |s::l,_,h=>by rw[List.foldl_cons];exact addF_nodup l (addK_nodup s h)
theorem putP_mem (e:Ex) (x:ByteArray) (acc:List ByteArray):∀ k,x∈putP e k acc↔x∈acc\/∃ i,i<k/\(x∈vOf e i\/x∈hOf e i)
 |0=>by simp[putP]
 |k+1=>by
  rw[putP_succ,addF_mem,addF_mem,putP_mem e x acc k]
  constructor
  ·rintro (((h|⟨i,h1,h2⟩)|h)|h)
   ·exact .inl h
   ·exact .inr ⟨i,by omega,h2⟩
   ·exact .inr ⟨k,by omega,.inl h⟩
   ·exact .inr ⟨k,by omega,.inr h⟩
  ·rintro (h|⟨i,h1,h2⟩)
   ·exact .inl (.inl (.inl h))
   ·by_cases q:i=k
    ·subst q
     rcases h2 with h2|h2
     ·exact .inl (.inr h2)
     ·exact .inr h2
    ·exact .inl (.inl (.inr ⟨i,by omega,h2⟩))
theorem putP_nodup (e:Ex) {acc:List ByteArray} (h:acc.Nodup):∀ k,(putP e k acc).Nodup
 |0=>h
 |k+1=>by rw[putP_succ];exact addF_nodup _ (addF_nodup _ (putP_nodup e h k))
theorem occK_mem (e:Ex) (x:ByteArray) (acc:List ByteArray):x∈occK e acc↔x∈acc\/((occ e).2.2=true/\x=(occ e).1):=by
 unfold occK
 by_cases h:(occ e).2.2=true
 ·rw[if_pos h,addK_mem];simp[h]
 ·rw[if_neg h];simp[h]
theorem occK_nodup (e:Ex) {acc:List ByteArray} (h:acc.Nodup):(occK e acc).Nodup:=by
 unfold occK
 split
 ·exact addK_nodup _ h
 ·exact h
def AI (x:ByteArray):Ex->Prop:=Ex.para fun e rs=>((occ e).2.2=true/\x=(occ e).1)\/(∃ i,i<e.parts.length/\(x∈vOf e i\/x∈hOf e i))\/∃ r∈rs,r
theorem AI_eq (x:ByteArray) (e:Ex):AI x e↔((occ e).2.2=true/\x=(occ e).1)\/(∃ i,i<e.parts.length/\(x∈vOf e i\/x∈hOf e i))\/∃ p∈e.parts,AI x p:=by
 unfold AI
 rw[Ex.para_eq]
 refine or_congr Iff.rfl (or_congr Iff.rfl ⟨?_,?_⟩)
 ·rintro ⟨r,hr,h⟩
  obtain ⟨p,hp,rfl⟩:=List.mem_map.1 hr
  exact ⟨p,hp,h⟩
 ·rintro ⟨p,hp,h⟩
  exact ⟨_,List.mem_map.2 ⟨p,hp,rfl⟩,h⟩
theorem walkA_mem (e:Ex):∀ (ch:Ch) (acc:List ByteArray) (x:ByteArray),x∈walkF allVis e ch acc↔x∈acc\/AI x e:=by
 induction e using Ex.ind with
 |step e ih=>
  intro ch acc x
  have key:∀ (ps:List Ex) (i:Nat) (acc:List ByteArray),(∀ p∈ps,p∈e.parts)->(x∈goW e ch i (ps.map (walkF allVis)) acc↔x∈acc\/∃ p∈ps,AI x p):=fun ps=>by
   induction ps with
   |nil=>intro i acc _;simp[goW]
   |cons p ps ihp=>
    intro i acc hp
    rw[List.map_cons,goW,ihp (i+1) _ (fun q hq=>hp q (by simp[hq])),ih p (hp p (by simp))]
    simp only[List.mem_cons,exists_eq_or_imp,or_assoc]
  rw[walkF_eq,key e.parts 0 _ (fun p hp=>hp),AI_eq]
  unfold allVis
  rw[putP_mem,occK_mem,or_assoc,or_assoc]
theorem walkA_nodup (e:Ex):∀ (ch:Ch) (acc:List ByteArray),acc.Nodup->(walkF allVis e ch acc).Nodup:=by
 induction e using Ex.ind with
 |step e ih=>
  intro ch acc h
  have key:∀ (ps:List Ex) (i:Nat) (acc:List ByteArray),(∀ p∈ps,p∈e.parts)->acc.Nodup->(goW e ch i (ps.map (walkF allVis)) acc).Nodup:=fun ps=>by
   induction ps with
   |nil=>intro i acc _ h;exact h
   |cons p ps ihp=>
    intro i acc hp h
    rw[List.map_cons,goW]
    exact ihp (i+1) _ (fun q hq=>hp q (by simp[hq])) (ih p (hp p (by simp)) _ _ h)
  rw[walkF_eq]
  exact key e.parts 0 _ (fun p hp=>hp) (putP_nodup e (occK_nodup e h) _)
theorem allK_mem (e:Ex) (x:ByteArray):x∈allK e↔AI x e:=by
 unfold allK;rw[walkA_mem];simp
def nmsR:List Ar->List ByteArray
 |[]=>[]
 |a::l=>a.names++nmsR l
def nms:Ex->List ByteArray:=Ex.para fun e rs=>e.s::(e.names++(nmsR e.arms++rs.flatten))
theorem nms_eq (e:Ex):nms e=e.s::(e.names++(nmsR e.arms++(e.parts.map nms).flatten)):=by
 unfold nms;rw[Ex.para_eq]
theorem nmsR_mem {x:ByteArray}:∀ {l:List Ar} {a:Ar},a∈l->x∈a.names->x∈nmsR l
 |[],_,h,_=>by cases h
 |b::l,a,h,hx=>by
  rw[nmsR,List.mem_append]
  rcases List.mem_cons.1 h with rfl|h
  ·exact .inl hx
  ·exact .inr (nmsR_mem h hx)
theorem nms_len (e:Ex):(nms e).length=e.wid:=by
 induction e using Ex.ind with
 |step e ih=>
  have h1:∀ l:List Ar,(nmsR l).length=(l.map fun a=>a.names.length).sum:=fun l=>by
   induction l with
   |nil=>rfl
   |cons a l ihl=>rw[nmsR,List.length_append,List.map_cons,List.sum_cons,ihl]
  have h2:∀ ps:List Ex,(∀ p∈ps,(nms p).length=p.wid)->(ps.map nms).flatten.length=(ps.map Ex.wid).sum:=fun ps=>by
   induction ps with
   |nil=>intro _;rfl
   |cons p ps ihp=>
    intro h
    rw[List.map_cons,List.flatten_cons,List.length_append,List.map_cons,List.sum_cons,ihp (fun q hq=>h q (by simp[hq])),h p (by simp)]
  rw[nms_eq,Ex.wid_eq,List.length_cons,List.length_append,List.length_append,h1,h2 e.parts ih];omega
theorem own_names {e:Ex} {i:Nat} {x:ByteArray} (h:x∈vOf e i\/x∈hOf e i):x∈e.names\/∃ a∈e.arms,x∈a.names:=by
 rcases h with h|h
 ·unfold vOf at h
  split at h
  ·unfold ownV at h
   split at h
   ·exact .inl (List.mem_of_mem_take h)
   ·split at h
    ·exact .inl (List.mem_of_mem_take h)
    ·cases h
  ·split at h
   ·rename_i a ha
    exact .inr ⟨a,List.mem_of_getElem? ha,h⟩
   ·cases h
 ·unfold hOf at h
  split at h
  ·unfold ownH at h
   split at h
   ·exact .inl h
   ·cases h
  ·cases h
theorem AI_nms (x:ByteArray) (e:Ex):AI x e->x∈nms e:=by
 induction e using Ex.ind with
 |step e ih=>
  intro h
  rw[nms_eq,List.mem_cons,List.mem_append,List.mem_append]
  rcases (AI_eq x e).1 h with ⟨h1,h2⟩|⟨i,_,h⟩|⟨p,hp,h⟩
  ·rw[occ_s h1] at h2;exact .inl h2
  ·rcases own_names h with h|⟨a,ha,h⟩
   ·exact .inr (.inl h)
   ·exact .inr (.inr (.inl (nmsR_mem ha h)))
  ·exact .inr (.inr (.inr (List.mem_flatten.2 ⟨_,List.mem_map.2 ⟨p,hp,rfl⟩,ih p hp h⟩)))
theorem allK_len (e:Ex):(allK e).length<=e.wid:=by
 rw[<-nms_len]
 exact pigeon (walkA_nodup e [] [] List.nodup_nil) fun x hx=>AI_nms x e ((allK_mem e x).1 hx)
theorem bsN_part {e:Ex} (hn:nodeErr e=0) {p:ByteArray×Bool} (hp:p∈bsN e):∃ i,i<e.parts.length/\p.1∈selN p.2 (fr e i):=by
 obtain ⟨sh,hx,hk,_,_,hb,_,_⟩:=(node_iff e).1 hn
 have hpl:=F11 e
 simp only[nodeBad,Bool.or_eq_false_iff,Bool.not_eq_false'] at hb
 obtain ⟨⟨⟨hm,hl⟩,_⟩,_⟩:=hb
 have use:∀ i,i<e.l.length->(p.1∈selN p.2 (ownV e i,ownH e i))->∃ i,i<e.parts.length/\p.1∈selN p.2 (fr e i):=fun i hi h=>⟨i,by omega,by rw[fr_left hi];exact h⟩
 unfold bsN at hp
 have none:e.names.length=0->e.k≠17->False:=fun h h17=>by
  rw[if_neg h17,List.eq_nil_of_length_eq_zero h] at hp;cases hp
 rcases (show e.k=0\/e.k=1\/e.k=2\/e.k=3\/e.k=4\/e.k=5\/e.k=6\/e.k=7\/e.k=8\/e.k=9\/e.k=10\/e.k=11\/e.k=12\/e.k=13\/e.k=14\/e.k=15\/e.k=16\/e.k=17\/e.k=18\/e.k=19 by omega) with
  h|h|h|h|h|h|h|h|h|h|h|h|h|h|h|h|h|h|h|h
 all_goals
  rw[h] at hx
  cases hx
  simp[nodeMany,nodeParts,h] at hm hl
 all_goals first|exact (none (by omega) (by omega)).elim|exact (none (by rw[hm];rfl) (by omega)).elim|skip
 all_goals (first|rw[if_neg (by omega)] at hp|rw[if_pos h] at hp)
 all_goals obtain ⟨y,hy,rfl⟩:=List.mem_map.1 hp
 ·refine use 0 (by omega) ?_
  rw[decide_eq_false (by omega)]
  show y∈ownV e 0
  unfold ownV own1
  rw[h]
  simpa[List.take_of_length_le (show e.names.length<=1 by omega)] using hy
 ·refine use 1 (by omega) ?_
  rw[decide_eq_false (by omega)]
  show y∈ownV e 1
  unfold ownV own1
  rw[h]
  simpa[List.take_of_length_le (show e.names.length<=1 by omega)] using hy
 ·refine use 0 (by omega) ?_
  rw[decide_eq_false (by omega)]
  show y∈ownV e 0
  unfold ownV own1
  rw[h]
  simpa[List.take_of_length_le (show e.names.length<=2 by omega)] using hy
 ·refine use 0 (by omega) ?_
  rw[decide_eq_true h]
  show y∈ownH e 0
  unfold ownH
  rw[if_pos h];exact hy
 ·refine use 2 (by omega) ?_
  show y∈ownV e 2
  unfold ownV own1
  rw[h]
  simpa using hy
def ents (d3 d6 q:Bool) (b1 b2:Nat):List (AV×AV):=if d3 then (if d6 then gvn q b1 b2 else [(.bool false,.map b1)]) else (if d6 then [(.bool true,.map b2)] else [])
section
variable {H:HM}
end
section
variable {G:GT}
end
theorem occ_var {e:Ex} (hn:nodeErr e=0) (h:(occ e).2.2=true):isVar (occ e).1=true:=by
 obtain ⟨x,hx,hk,_,hcl,_⟩:=(node_iff e).1 hn
 have h2:=hcl.1
 have h1:x.S=1:=by
  unfold occ at h
  split at h
  ·rename_i q
   rcases q with q|q|q
   ·rw[q] at hx;cases hx;rfl
   ·rw[q] at hx;cases hx;rfl
   ·rw[q] at hx;cases hx;rfl
  ·split at h
   ·rename_i q
    rw[q] at hx;cases hx;rfl
   ·cases h
 rw[h1] at h2
 rw[occ_s h];exact h2
section
variable {α:Type} {nx:α->ByteArray->Bool->ByteArray×α}
end
theorem chk {e:Ex} (hc:check e=0):checked e=0:=by
 unfold check at hc
 split at hc
 ·cases hc
 ·exact hc
end Go.V
