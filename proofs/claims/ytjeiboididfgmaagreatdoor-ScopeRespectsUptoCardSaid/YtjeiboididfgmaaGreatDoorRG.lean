/- The program's syntax: classes, names, arms. No condition. The program's syntax: arms. No condition. The program's syntax: nodes. No condition. The program's syntax: trees. No condition. The program's syntax: Check. No condition. -/
import Derived.Test.YtjeiboididfgmaaGreatDoorRD
import Derived.Test.YtjeiboididfgmaaGreatDoorRF
set_option linter.unusedVariables false
set_option linter.unusedSimpArgs false
set_option linter.defProp false
set_option maxRecDepth 100000
namespace Go.V
open Go Go.Proofs.Tryz
theorem has_comm (l:List ByteArray) (s:ByteArray):(l.any fun x=>decide (s=x))=has l s:=by
 unfold has;congr 1;funext x;exact decide_eq_decide.2 eq_comm
theorem prims_or (s:ByteArray):has prims s=(decide (s=⟨#[43]⟩)||decide (s=⟨#[45]⟩)||decide (s=⟨#[42]⟩)||decide (s=⟨#[60]⟩)||decide (s=⟨#[61,61]⟩)):=by
 rw[<-has_comm]
 simp[prims,Bool.or_assoc]
section
variable {G:GT} {H:HM}
theorem sIndex_c (l:List ByteArray) (s:ByteArray) (hl:l.length<=lim):PureF prog G 142 [.list (strs l),.str s] H (.int (index l s)):=by
 have hlim:lim<9223372036854775807:=by decide
 refine P10 (fn:=f142) func142 rfl (by kernel_rfl) (by kernel_rfl) (Nat.le_of_ble_eq_true (by kernel_rfl)) fun K hk=>?_
 refine A10 [] fun N E hN hE=>?_
 simp +decide only[ZS,↓reduceIte]
 refine hN _ ?_
 clear hN hE N E
 refine I10 (A10 [] fun N E hN hE=>?_)
 simp +decide only[ZS,↓reduceIte,O10]
 refine hN _ ?_
 clear hN hE N E
 refine J10 ?_
 refine C11 (fun k s'=>k<=l.length/\(∀ j,j<k->l[j]?≠some s)/\s'.tmps 0=.list (strs l)/\s'.tmps 1=.str s/\s'.tmps 7=.int l.length/\s'.tmps 8=.int k/\s'.H=H/\s'.defs=[]) (fun k=>l.length-k) 0 ⟨Nat.zero_le _,by simp,rfl,rfl,rfl,rfl,rfl,rfl⟩ ?_
 rintro k ⟨tm,H',ds⟩ ⟨hk1,hk2,h0,h1,h7,h8,hH,hds⟩
 obtain rfl:H'=H:=hH
 obtain rfl:ds=[]:=hds
 refine B10 0 _ h0 (B10 1 _ h1 (B10 7 _ h7 (B10 8 _ h8 ?_)))
 refine A10 [] fun N E hN hE=>?_
 simp +decide only[ZS,↓reduceIte]
 refine hN _ ?_
 clear hN hE N E
 refine I10 (T10 rfl (fun hc=>?_) (fun hc=>?_))
 ·have hlt:k<l.length:=by have:=of_decide_eq_true hc;omega
  refine G10 ?_
  refine I10 (J10 ?_)
  refine A10 [] fun N E hN hE=>?_
  simp +decide only[ZS,↓reduceIte]
  refine hN _ ?_
  clear hN hE N E
  refine A10 [] fun N E hN hE=>?_
  simp +decide only[ZS,↓reduceIte,strs_at hlt,nat0,Int.toNat_natCast]
  refine hN _ ?_
  clear hN hE N E
  refine T10 rfl (fun hc=>?_) (fun hc=>?_)
  ·refine A10 [] fun N E hN hE=>?_
   simp +decide only[ZS,↓reduceIte]
   refine hN _ ?_
   clear hN hE N E
   refine L10 (K10 4 rfl ?_)
   simp +decide only[ZS,↓reduceIte]
   rwa [idx_some hlt hk2 (of_decide_eq_true hc).symm] at hk
  ·refine G10 ?_
   refine R10 [] fun N E hN hE=>?_
   simp +decide only[ZS,↓reduceIte,wrapN (show k<9223372036854775807 by omega)]
   refine hN _ ?_
   clear hN hE N E
   refine ⟨k+1,⟨hlt,?_,rfl,rfl,rfl,rfl,rfl,rfl⟩,by omega⟩
   intro j hj
   rcases Nat.lt_succ_iff_lt_or_eq.1 hj with h|rfl
   ·exact hk2 j h
   ·have:=of_decide_eq_false hc
    simpa[hlt] using fun e=>this e.symm
 ·refine L11 ?_
  refine A10 [] fun N E hN hE=>?_
  simp +decide only[ZS,↓reduceIte]
  refine hN _ ?_
  clear hN hE N E
  refine L10 (K10 4 rfl ?_)
  simp +decide only[ZS,↓reduceIte]
  rwa [idx_none (fun j hj=>hk2 j (by have:=of_decide_eq_false hc;omega))] at hk
theorem X12 (l:List ByteArray) (s:ByteArray) (hl:l.length<=lim):PureF prog G 115 [.list (strs l),.str s] H (.bool (has l s)):=by
 refine P10 (fn:=f115) func115 rfl (by kernel_rfl) (by kernel_rfl) (Nat.le_of_ble_eq_true (by kernel_rfl)) fun K hk=>?_
 refine A10 [] fun N E hN hE=>?_
 simp +decide only[ZS,↓reduceIte]
 refine hN _ ?_
 clear hN hE N E
 refine A10 [] fun N E hN hE=>?_
 simp +decide only[ZS,↓reduceIte]
 refine D10 (sIndex_c l s hl) ?_
 simp +decide only[ZS,↓reduceIte]
 refine hN _ ?_
 clear hN hE N E
 refine L10 (K10 4 rfl ?_)
 simp +decide only[ZS,↓reduceIte]
 rwa [index_has]
theorem pAmong_c (n low high:Int):PureF prog G 171 [.int n,.int low,.int high] H (.bool (decide (low<=n)&&decide (n<=high))):=by
 refine P10 (fn:=f171) func171 rfl (by kernel_rfl) (by kernel_rfl) (Nat.le_of_ble_eq_true (by kernel_rfl)) fun K hk=>?_
 refine A10 [] fun N E hN hE=>?_
 simp +decide only[ZS,↓reduceIte]
 refine hN _ ?_
 clear hN hE N E
 refine O11 [] (fun s'=>s'.tmps 6=.bool (decide (low<=n)&&decide (n<=high))/\s'.H=H/\s'.defs=[]) (fun N E hN hE=>?_) ?_
 ·clear hE
  try clear hk
  simp +decide only[ZS,↓reduceIte]
  repeat' (refine V10 (fun hb=>?_) (fun hb=>?_)<;>simp +decide only[ZS,↓reduceIte, *])
  all_goals refine hN _ ?_
  all_goals clear hN
  all_goals refine ⟨?_,?_,?_⟩
  all_goals first|rfl|assumption|(simp only[C10];rfl)|(simp +decide only[ZS,↓reduceIte]<;>simp_all;done)|(simp +decide only[ZS,↓reduceIte]<;>simp_all<;>omega)
 rintro ⟨tb1,Hb1,dsb⟩ ⟨fb6,gHb,gdsb⟩
 obtain rfl:H=Hb1:=gHb.symm
 obtain rfl:dsb=[]:=gdsb
 try simp only[C10] at fb6
 refine B10 6 _ fb6 ?_
 refine L10 (K10 6 rfl ?_)
 simp +decide only[ZS,↓reduceIte]
 exact hk
theorem pIs_c (hG:Tabs G) (s:ByteArray) (n:Int) (hs:s.size<=lim):PureF prog G 172 [.str s,.int n] H (.bool (cls s n)):=by
 refine P10 (fn:=f172) func172 rfl (by kernel_rfl) (by kernel_rfl) (Nat.le_of_ble_eq_true (by kernel_rfl)) fun K hk=>?_
 refine A10 [] fun N E hN hE=>?_
 simp +decide only[ZS,↓reduceIte]
 refine hN _ ?_
 clear hN hE N E
 refine I10 (A10 [] fun N E hN hE=>?_)
 simp +decide only[ZS,↓reduceIte]
 refine hN _ ?_
 clear hN hE N E
 refine J10 ?_
 refine A10 [] fun N E hN hE=>?_
 simp +decide only[ZS,↓reduceIte]
 refine hN _ ?_
 clear hN hE N E
 refine T10 rfl (fun hc=>?_) (fun hc=>?_)
 ·have h:=of_decide_eq_true hc
  refine A10 [] fun N E hN hE=>?_
  simp +decide only[ZS,↓reduceIte]
  refine D10 (pIsVar_c hG s hs) ?_
  simp +decide only[ZS,↓reduceIte]
  refine hN _ ?_
  clear hN hE N E
  refine L10 (K10 4 rfl ?_)
  simp +decide only[ZS,↓reduceIte]
  simpa[cls,h] using hk
 have h1:=of_decide_eq_false hc
 refine A10 [] fun N E hN hE=>?_
 simp +decide only[ZS,↓reduceIte]
 refine hN _ ?_
 clear hN hE N E
 refine T10 rfl (fun hc=>?_) (fun hc=>?_)
 ·have h:=of_decide_eq_true hc
  refine A10 [] fun N E hN hE=>?_
  simp +decide only[ZS,↓reduceIte]
  refine D10 (pIsUpper_c s hs) ?_
  simp +decide only[ZS,↓reduceIte]
  refine hN _ ?_
  clear hN hE N E
  refine L10 (K10 4 rfl ?_)
  simp +decide only[ZS,↓reduceIte]
  simpa[cls,h] using hk
 have h2:=of_decide_eq_false hc
 refine A10 [] fun N E hN hE=>?_
 simp +decide only[ZS,↓reduceIte]
 refine hN _ ?_
 clear hN hE N E
 refine T10 rfl (fun hc=>?_) (fun hc=>?_)
 ·have h:=of_decide_eq_true hc
  rw[cls,if_neg h1,if_neg h2,if_pos h] at hk
  rw[prims_or] at hk
  refine O11 [] (fun s'=>s'.tmps 4=.bool (decide (s=⟨#[43]⟩)||decide (s=⟨#[45]⟩)||decide (s=⟨#[42]⟩)||decide (s=⟨#[60]⟩)||decide (s=⟨#[61,61]⟩))/\s'.H=H/\s'.defs=[]) (fun N E hN hE=>?_) ?_
  ·clear hE
   try clear hk
   simp +decide only[ZS,↓reduceIte]
   repeat' (refine V10 (fun hb=>?_) (fun hb=>?_)<;>simp +decide only[ZS,↓reduceIte, *])
   all_goals refine hN _ ?_
   all_goals clear hN
   all_goals refine ⟨?_,?_,?_⟩
   all_goals first|rfl|assumption|(simp only[C10];rfl)|(simp +decide only[ZS,↓reduceIte]<;>simp_all;done)|(simp +decide only[ZS,↓reduceIte]<;>simp_all<;>omega)
  rintro ⟨tb2,Hb2,dsb⟩ ⟨fb4,gHb,gdsb⟩
  obtain rfl:H=Hb2:=gHb.symm
  obtain rfl:dsb=[]:=gdsb
  try simp only[C10] at fb4
  refine B10 4 _ fb4 ?_
  refine L10 (K10 4 rfl ?_)
  simp +decide only[ZS,↓reduceIte]
  exact hk
 have h3:=of_decide_eq_false hc
 refine G10 ?_
 refine A10 [] fun N E hN hE=>?_
 simp +decide only[ZS,↓reduceIte]
 refine hN _ ?_
 clear hN hE N E
 refine L10 (K10 4 rfl ?_)
 simp +decide only[ZS,↓reduceIte]
 simpa[cls,h1,h2,h3] using hk
def pdistF (ok:ByteArray->Bool):List ByteArray->List ByteArray->Int
 |_,[]=>0
 |b,x::l=>if ok x then (if has b x then 5 else pdistF ok (b++[x]) l) else 4
theorem pdist_var:∀ (l b:List ByteArray),pdistF (fun s=>cls s 1) b l=distinctF b l
 |[],b=>rfl
 |x::l,b=>by
  simp only[pdistF,distinctF,pdist_var l]
  have:cls x 1=isVar x:=by simp[cls]
  rw[this]
theorem pdist_upper:∀ (l b:List ByteArray),pdistF (fun s=>cls s 2) b l=uppersF b l
 |[],b=>rfl
 |x::l,b=>by
  simp only[pdistF,uppersF,pdist_upper l]
  have:cls x 2=isUpper x:=by simp[cls]
  rw[this]
theorem pDistinct_c (hG:Tabs G) (l:List ByteArray) (n:Int) (hl:l.length<=bnd) (hx:∀ x∈l,x.size<=bnd):PureF prog G 173 [.list (strs l),.int n] H (.int (pdistF (fun s=>cls s n) [] l)):=by
 have hbb:=bnd_lt
 refine P10 (fn:=f173) func173 rfl (by kernel_rfl) (by kernel_rfl) (Nat.le_of_ble_eq_true (by kernel_rfl)) fun K hk=>?_
 refine A10 [] fun N E hN hE=>?_
 simp +decide only[ZS,↓reduceIte]
 refine hN _ ?_
 clear hN hE N E
 refine I10 (A10 [] fun N E hN hE=>?_)
 simp +decide only[ZS,↓reduceIte,O10]
 refine hN _ ?_
 clear hN hE N E
 refine J10 ?_
 refine C11 (fun k s'=>k<=l.length/\pdistF (fun s=>cls s n) [] l=pdistF (fun s=>cls s n) (l.take k) (l.drop k)/\s'.tmps 0=.list (strs l)/\s'.tmps 1=.int n/\s'.tmps 7=.list (strs l)/\s'.tmps 8=.int l.length/\s'.tmps 9=.int k/\s'.H=H/\s'.defs=[]) (fun k=>l.length-k) 0 ⟨Nat.zero_le _,rfl,rfl,rfl,rfl,rfl,rfl,rfl,rfl⟩ ?_
 rintro k ⟨tm,H',ds⟩ ⟨hk1,hk2,h0,h1,h7,h8,h9,hH,hds⟩
 obtain rfl:H'=H:=hH
 obtain rfl:ds=[]:=hds
 refine B10 0 _ h0 (B10 1 _ h1 (B10 7 _ h7 (B10 8 _ h8 (B10 9 _ h9 ?_))))
 refine A10 [] fun N E hN hE=>?_
 simp +decide only[ZS,↓reduceIte]
 refine hN _ ?_
 clear hN hE N E
 refine I10 (T10 rfl (fun hc=>?_) (fun hc=>?_))
 ·have hlt:k<l.length:=by have:=of_decide_eq_true hc;omega
  have hxk:=hx l[k] (List.getElem_mem hlt)
  rw[drop_at hlt,pdistF] at hk2
  refine G10 ?_
  refine I10 (J10 ?_)
  refine A10 [] fun N E hN hE=>?_
  simp +decide only[ZS,↓reduceIte,strs_at hlt,nat0,Int.toNat_natCast]
  refine hN _ ?_
  clear hN hE N E
  refine J10 ?_
  refine A10 [] fun N E hN hE=>?_
  simp +decide only[ZS,↓reduceIte]
  refine D10 (pIs_c hG l[k] n (bnd_lim hxk)) ?_
  simp +decide only[ZS,↓reduceIte]
  refine hN _ ?_
  clear hN hE N E
  refine T10 rfl (fun hc=>?_) (fun hc=>?_)
  ·refine A10 [] fun N E hN hE=>?_
   simp +decide only[ZS,↓reduceIte]
   refine hN _ ?_
   clear hN hE N E
   refine L10 (K10 4 rfl ?_)
   simp +decide only[ZS,↓reduceIte]
   have hv:cls l[k] n=false:=by simpa using hc
   rw[hk2,hv] at hk;exact hk
  have hv:cls l[k] n=true:=by simpa using hc
  rw[hv,if_pos rfl] at hk2
  have hsl:(k:Int)<=(l.length:Int):=by omega
  refine A10 [] fun N E hN hE=>?_
  simp +decide only[ZS,↓reduceIte,nat0,Int.toNat_natCast,strs_szc,O10,hsl,strs_take]
  refine D10 (X12 (l.take k) l[k] (by rw[List.length_take];exact Nat.le_trans (Nat.min_le_right _ _) (bnd_lim hl))) ?_
  simp +decide only[ZS,↓reduceIte]
  refine hN _ ?_
  clear hN hE N E
  refine T10 rfl (fun hc=>?_) (fun hc=>?_)
  ·refine A10 [] fun N E hN hE=>?_
   simp +decide only[ZS,↓reduceIte]
   refine hN _ ?_
   clear hN hE N E
   refine L10 (K10 4 rfl ?_)
   simp +decide only[ZS,↓reduceIte]
   rw[hk2,if_pos hc] at hk;exact hk
  ·refine G10 ?_
   refine R10 [] fun N E hN hE=>?_
   simp +decide only[ZS,↓reduceIte,wrapN (show k<9223372036854775807 by omega)]
   refine hN _ ?_
   clear hN hE N E
   refine ⟨k+1,⟨hlt,?_,rfl,rfl,rfl,rfl,rfl,rfl,rfl⟩,by omega⟩
   rw[take_at hlt,hk2,hc];rfl
 ·refine L11 ?_
  have hk3:k=l.length:=by have:=of_decide_eq_false hc;omega
  subst hk3
  refine A10 [] fun N E hN hE=>?_
  simp +decide only[ZS,↓reduceIte]
  refine hN _ ?_
  clear hN hE N E
  refine L10 (K10 4 rfl ?_)
  simp +decide only[ZS,↓reduceIte]
  rw[hk2,List.drop_length] at hk;exact hk
end
section
variable {P:Program} {G:GT} {M:List Nat} {ops:Array Oper} {N:AS->Prop} {E:AV->AS->Prop} {H:HM} {tl:List Oper}
theorem wcall_pv {fv:AV} {args:List AV} {v:AV} {d:Option Nat} {rest:List Oper} {tm:Nat->AV} {ds:List ADef} (h:PureV P G fv args H v) (hk:wops P G M ops N E rest (putT d v tm) H ds) :
  wcall P G M ops N E fv args d rest tm H ds:=h _ hk
theorem PureF.clo {f:FuncId} {first cap args:List AV} {v:AV} (h:PureF P G f (first++args++cap) H v):PureV P G (.func (.func f) first cap) args H v:=fun K hk=>CallF.callV h.1 (h.2 K hk)
theorem wcall_K {fv:AV} {args:List AV} {d:Option Nat} {rest:List Oper} {tm:Nat->AV} {ds:List ADef} {K:ARes->HM->Prop} (h:CallV P G fv args H K) (hk:∀ r H',K r H'->kont P G M ops N E d rest tm ds r H') :
  wcall P G M ops N E fv args d rest tm H ds:=CallV.mono h hk
end
theorem av_bool {a b:Bool} (h:a=b):AV.val (.bool a)=AV.val (.bool b):=by rw[h]
def idxF {α:Type} (g:α->Bool):List α->Int
 |[] => -1
 |x::l=>if g x then 0 else let k:=idxF g l;if k<0 then -1 else k+1
theorem idxF_some {α:Type} {g:α->Bool}:∀ {l:List α} {k:Nat} (hk:k<l.length),(∀ j (hj:j<l.length),j<k->g l[j]=false)->g l[k]=true->idxF g l=k
 |x::l,0,_,_,he=>by simp at he;simp[idxF,he]
 |x::l,k+1,hk,h,he=>by
  have hx:g x=false:=h 0 (by simp) (by omega)
  have ih:=idxF_some (l:=l) (g:=g) (k:=k) (by simpa using hk) (fun j hj hjk=>h (j+1) (by simpa using hj) (by omega)) (by simpa using he)
  simp only[idxF,hx,ih]
  simp;omega
theorem idxF_none {α:Type} {g:α->Bool}:∀ {l:List α},(∀ j (hj:j<l.length),g l[j]=false)->idxF g l = -1
 |[],_=>rfl
 |x::l,h=>by
  have hx:g x=false:=h 0 (by simp)
  have ih:=idxF_none (l:=l) (g:=g) (fun j hj=>h (j+1) (by simpa using hj))
  simp[idxF,hx,ih]
theorem idxF_any {α:Type} (g:α->Bool):∀ l:List α,decide (0<=idxF g l)=l.any g
 |[]=>rfl
 |x::l=>by
  have ih:=idxF_any g l
  rw[List.any_cons,<-ih]
  cases hx:g x with
  |true=>simp[idxF,hx]
  |false=>
   simp only[idxF,hx]
   by_cases h:idxF g l<0
   ·simp[h]
   ·simp[h];omega
theorem ars_szc (l:List Ar):(∀ x∈ars l,x.cells.length=9)=True:=eq_true (ars_sz l)
section
variable {G:GT} {H:HM}
theorem armIdx_c (l:List Ar) (fv:AV) (g:Ar->Bool) (hl:l.length<=lim) (hf:∀ x∈l,PureV prog G fv [x.av] H (.bool (g x))):PureF prog G 206 [.list (ars l),fv] H (.int (idxF g l)):=by
 have hlim:lim<9223372036854775807:=by decide
 refine P10 (fn:=f206) func206 rfl (by kernel_rfl) (by kernel_rfl) (Nat.le_of_ble_eq_true (by kernel_rfl)) fun K hk=>?_
 refine A10 [] fun N E hN hE=>?_
 simp +decide only[ZS,↓reduceIte]
 refine hN _ ?_
 clear hN hE N E
 refine I10 (A10 [] fun N E hN hE=>?_)
 simp +decide only[ZS,↓reduceIte,U11]
 refine hN _ ?_
 clear hN hE N E
 refine J10 ?_
 refine C11 (fun k s'=>k<=l.length/\(∀ j (hj:j<l.length),j<k->g l[j]=false)/\s'.tmps 0=.list (ars l)/\s'.tmps 1=fv/\s'.tmps 7=.int l.length/\s'.tmps 8=.int k/\s'.H=H/\s'.defs=[]) (fun k=>l.length-k) 0 ⟨Nat.zero_le _,by simp,rfl,rfl,rfl,rfl,rfl,rfl⟩ ?_
 rintro k ⟨tm,H',ds⟩ ⟨hk1,hk2,h0,h1,h7,h8,hH,hds⟩
 obtain rfl:H'=H:=hH
 obtain rfl:ds=[]:=hds
 refine B10 0 _ h0 (B10 1 _ h1 (B10 7 _ h7 (B10 8 _ h8 ?_)))
 refine A10 [] fun N E hN hE=>?_
 simp +decide only[ZS,↓reduceIte]
 refine hN _ ?_
 clear hN hE N E
 refine I10 (T10 rfl (fun hc=>?_) (fun hc=>?_))
 ·have hlt:k<l.length:=by have:=of_decide_eq_true hc;omega
  refine G10 ?_
  refine I10 (J10 ?_)
  refine A10 [] fun N E hN hE=>?_
  simp +decide only[ZS,↓reduceIte]
  refine hN _ ?_
  clear hN hE N E
  refine A10 [] fun N E hN hE=>?_
  simp +decide only[ZS,↓reduceIte,ars_at hlt,nat0,Int.toNat_natCast]
  simp only[<-J12,ar_fold,ar_eta]
  refine wcall_pv (hf _ (List.getElem_mem hlt)) ?_
  simp +decide only[ZS,↓reduceIte]
  refine hN _ ?_
  clear hN hE N E
  refine T10 rfl (fun hc=>?_) (fun hc=>?_)
  ·refine A10 [] fun N E hN hE=>?_
   simp +decide only[ZS,↓reduceIte]
   refine hN _ ?_
   clear hN hE N E
   refine L10 (K10 4 rfl ?_)
   simp +decide only[ZS,↓reduceIte]
   rwa [idxF_some hlt hk2 hc] at hk
  ·refine G10 ?_
   refine R10 [] fun N E hN hE=>?_
   simp +decide only[ZS,↓reduceIte,wrapN (show k<9223372036854775807 by omega)]
   refine hN _ ?_
   clear hN hE N E
   refine ⟨k+1,⟨hlt,?_,rfl,rfl,rfl,rfl,rfl,rfl⟩,by omega⟩
   intro j hj hjk
   rcases Nat.lt_succ_iff_lt_or_eq.1 hjk with h|rfl
   ·exact hk2 j hj h
   ·exact hc
 ·refine L11 ?_
  refine A10 [] fun N E hN hE=>?_
  simp +decide only[ZS,↓reduceIte]
  refine hN _ ?_
  clear hN hE N E
  refine L10 (K10 4 rfl ?_)
  simp +decide only[ZS,↓reduceIte]
  rwa [idxF_none (fun j hj=>hk2 j hj (by have:=of_decide_eq_false hc;omega))] at hk
theorem armContains_c (l:List Ar) (fv:AV) (g:Ar->Bool) (hl:l.length<=lim) (hf:∀ x∈l,PureV prog G fv [x.av] H (.bool (g x))):PureF prog G 193 [.list (ars l),fv] H (.bool (l.any g)):=by
 refine P10 (fn:=f193) func193 rfl (by kernel_rfl) (by kernel_rfl) (Nat.le_of_ble_eq_true (by kernel_rfl)) fun K hk=>?_
 refine A10 [] fun N E hN hE=>?_
 simp +decide only[ZS,↓reduceIte]
 refine hN _ ?_
 clear hN hE N E
 refine A10 [] fun N E hN hE=>?_
 simp +decide only[ZS,↓reduceIte]
 refine D10 (armIdx_c l fv g hl hf) ?_
 simp +decide only[ZS,↓reduceIte]
 refine hN _ ?_
 clear hN hE N E
 refine L10 (K10 4 rfl ?_)
 simp +decide only[ZS,↓reduceIte]
 rwa [idxF_any]
theorem arm1_c (a b:Ar):PureF prog G 194 [b.av,.ref a.av.cells] H (.bool (decide (b.op=a.op))):=by
 refine P10 (fn:=f194) func194 rfl (by kernel_rfl) (by kernel_rfl) (Nat.le_of_ble_eq_true (by kernel_rfl)) fun K hk=>?_
 rw[show AV.ref a.av.cells=AV.ref [.str a.op,.list (strs a.names),.int a.body.k,.int a.body.n,.str a.body.s,.str a.body.t,.list (strs a.body.names),.list (exs a.body.l),.list (ars a.body.arms)] from by rw[J12]]
 refine A10 [] fun N E hN hE=>?_
 simp +decide only[ZS,↓reduceIte]
 refine hN _ ?_
 clear hN hE N E
 refine A10 [] fun N E hN hE=>?_
 simp +decide only[ZS,↓reduceIte]
 refine hN _ ?_
 clear hN hE N E
 refine L10 (K10 3 rfl ?_)
 simp +decide only[ZS,↓reduceIte]
 exact hk
def armOne (h:Bool) (b:List Ar) (a:Ar):Int:=
 if armArity h (h&&b.isEmpty) a then 7 else if armName h (h&&b.isEmpty) a then 4 else if distinct a.names=0 then (if (b.map Ar.op).any (fun o=>decide (o=a.op)) then 5 else 0) else distinct a.names
theorem armsF_one (h:Bool) (b:List Ar) (a:Ar) (l:List Ar):armsF h b (a::l)=if armOne h b a=0 then armsF h (b++[a]) l else armOne h b a:=by
 unfold armOne
 rw[armsF]
 by_cases h1:armArity h (h&&b.isEmpty) a=true
 ·simp[h1]
 ·by_cases h2:armName h (h&&b.isEmpty) a=true
  ·simp[h1,h2]
  ·by_cases h3:distinct a.names=0
   ·by_cases h4:((b.map Ar.op).any fun o=>decide (o=a.op))=true
    ·simp only[h1,h2,h3,h4,if_true];simp
    ·simp only[h1,h2,h3,h4,if_true];simp
   ·simp[h1,h2,h3]
theorem pArm_c (hG:Tabs G) (e:Ex) (hf:fit1 e) (i:Nat) (hi:i<e.arms.length):PureF prog G 174 [e.av,.int i] H (.int (armOne (!decide (e.k=11)) (e.arms.take i) e.arms[i])):=by
 obtain ⟨_,_,_,_,hn,_,hx⟩:=hf
 have hbb:=bnd_lt
 obtain ⟨ha1,ha2,ha3⟩:=hx e.arms[i] (List.getElem_mem hi)
 have hil:(i:Int)<=(e.arms.length:Int):=by omega
 have hemp:(e.arms.take i).isEmpty=decide (i=0):=by
  rw[Bool.eq_iff_iff,List.isEmpty_iff,decide_eq_true_eq]
  constructor
  ·intro h
   have:=congrArg List.length h
   rw[List.length_take,List.length_nil] at this;omega
  ·rintro rfl;rfl
 have hat:=ars_at hi
 have hcon:=armContains_c (G:=G) (H:=H) (e.arms.take i) (.func (.func 194) [] [.ref e.arms[i].av.cells]) (fun b=>decide (b.op=e.arms[i].op)) (by rw[List.length_take];exact Nat.le_trans (Nat.min_le_right _ _) (bnd_lim hn))
  (fun b _=>PureF.clo (f:=194) (first:=[]) (args:=[b.av]) (cap:=[.ref e.arms[i].av.cells]) (arm1_c e.arms[i] b))
 have hany:((e.arms.take i).any fun b=>decide (b.op=e.arms[i].op))=((e.arms.take i).map Ar.op).any (fun o=>decide (o=e.arms[i].op)):=by rw[List.any_map];rfl
 rw[hany] at hcon
 generalize e.arms[i]=a at *
 refine P10 (fn:=f174) func174 rfl (by kernel_rfl) (by kernel_rfl) (Nat.le_of_ble_eq_true (by kernel_rfl)) fun K hk=>?_
 refine A10 [] fun N E hN hE=>?_
 simp +decide only[ZS,↓reduceIte]
 refine hN _ ?_
 clear hN hE N E
 refine A10 [] fun N E hN hE=>?_
 simp +decide only[ZS,↓reduceIte,hat,nat0,Int.toNat_natCast]
 refine F10 fun b hbn=>?_
 simp +decide only[ZS,↓reduceIte,hat]
 refine hN _ ?_
 clear hN hE N E
 refine V11 (i:=5) hbn rfl ?_
 clear hbn
 refine V13 [] 5 (by kernel_rfl) (by kernel_rfl) (by kernel_rfl) fun N E hN hE=>?_
 simp only[List.take,List.drop]
 simp +decide only[ZS,QS,↓reduceIte,O10]
 refine hN _ ?_
 clear hN hE N E
 refine VW_seqC (fun s'=>s'.tmps 6=.int (if e.k=11 then 2 else if i=0 then 0 else 1)/\s'.tmps 7=.bool (!armArity (!decide (e.k=11)) (!decide (e.k=11)&&decide (i=0)) a)/\s'.tmps 5=.ref a.av.cells/\s'.tmps 2=.ref e.av.cells/\s'.tmps 1=.int i/\s'.H=H/\s'.defs=[]) ?_ ?_
 ·refine J10 ?_
  refine A10 [] fun N E hN hE=>?_
  simp +decide only[ZS,↓reduceIte]
  refine hN _ ?_
  clear hN hE N E
  refine T10 rfl (fun hc=>?_) (fun hc=>?_)
  ·have h11:e.k=11:=of_decide_eq_true hc
   refine VW_regqE [] 5 (by kernel_rfl) (by kernel_rfl) (by kernel_rfl) fun N E hN hE=>?_
   simp only[List.take,List.drop]
   simp +decide only[ZS,QS,↓reduceIte,O10]
   refine hN _ ⟨?_,?_,?_,?_,rfl,rfl,rfl⟩
   ·simp +decide only[ZS,↓reduceIte]
    rw[if_pos h11]
   ·simp +decide only[ZS,↓reduceIte]
    refine av_bool ?_
    rw[armArity,hc,Bool.eq_iff_iff];simp
   ·rw[J12];rfl
   ·rw[C10];rfl
  have h11:¬ e.k=11:=of_decide_eq_false hc
  have hc11:=hc
  refine A10 [] fun N E hN hE=>?_
  simp +decide only[ZS,↓reduceIte]
  refine hN _ ?_
  clear hN hE N E
  refine T10 rfl (fun hc=>?_) (fun hc=>?_)
  ·have hi0:i=0:=by have:=of_decide_eq_true hc;omega
   refine VW_regqE [] 10 (by kernel_rfl) (by kernel_rfl) (by kernel_rfl) fun N E hN hE=>?_
   simp only[List.take,List.drop]
   simp +decide only[ZS,QS,↓reduceIte,O10]
   refine qgd_split (fun hb=>?_) (fun hb=>?_)
   ·simp +decide only[ZS,QS,↓reduceIte,hb]
    refine hN _ ⟨?_,?_,?_,?_,rfl,rfl,rfl⟩
    ·simp +decide only[ZS,↓reduceIte]
     rw[if_neg h11,if_pos hi0]
    ·simp +decide only[ZS,↓reduceIte]
     refine av_bool ?_
     rw[Bool.eq_iff_iff];simp only[armArity,hc11,hi0,decide_true,Bool.not_false,Bool.true_and,retStr,hb];simp;try exact decide_eq_true_iff.symm
    ·rw[J12];rfl
    ·rw[C10];rfl
   ·simp +decide only[ZS,QS,↓reduceIte,hb]
    refine hN _ ⟨?_,?_,?_,?_,rfl,rfl,rfl⟩
    ·simp +decide only[ZS,↓reduceIte]
     rw[if_neg h11,if_pos hi0]
    ·simp +decide only[ZS,↓reduceIte]
     refine av_bool ?_
     rw[Bool.eq_iff_iff];simp only[armArity,hc11,hi0,decide_true,Bool.not_false,Bool.true_and,retStr,hb];simp;try exact decide_eq_true_iff.symm
    ·rw[J12];rfl
    ·rw[C10];rfl
  ·have hi0:¬ i=0:=by have:=of_decide_eq_false hc;omega
   refine G10 ⟨?_,?_,?_,?_,rfl,rfl,rfl⟩
   ·simp +decide only[ZS,↓reduceIte]
    rw[if_neg h11,if_neg hi0]
   ·simp +decide only[ZS,↓reduceIte]
    simp only[armArity,hc11,hi0,decide_false,Bool.not_false,Bool.true_and,Bool.and_false,Bool.false_and,Bool.false_or,Bool.or_false,Bool.not_not,Bool.not_true]
   ·rw[J12];rfl
   ·rw[C10];rfl
 rintro ⟨tm1,H1,ds⟩ ⟨f6,f7,f5,f2,f1,gH,gds⟩
 obtain rfl:H=H1:=gH.symm
 obtain rfl:ds=[]:=gds
 rw[J12] at f5
 rw[C10] at f2
 refine B10 6 _ f6 (B10 7 _ f7 (B10 5 _ f5 (B10 2 _ f2 (B10 1 _ f1 ?_))))
 rw[armOne,hemp] at hk
 refine I10 (A10 [] fun N E hN hE=>?_)
 simp +decide only[ZS,↓reduceIte]
 refine hN _ ?_
 clear hN hE N E
 refine T10 rfl (fun hc=>?_) (fun hc=>?_)
 ·refine A10 [] fun N E hN hE=>?_
  simp +decide only[ZS,↓reduceIte]
  refine hN _ ?_
  clear hN hE N E
  refine L10 (K10 4 rfl ?_)
  simp +decide only[ZS,↓reduceIte]
  have:armArity (!decide (e.k=11)) (!decide (e.k=11)&&decide (i=0)) a=true:=by simpa using hc
  rw[this,if_pos rfl] at hk;exact hk
 have hfi:armArity (!decide (e.k=11)) (!decide (e.k=11)&&decide (i=0)) a=false:=by simpa using hc
 rw[hfi,if_neg (by decide)] at hk
 refine G10 ?_
 refine I10 (O11 [] (fun s'=>s'.tmps 48=.bool (armName (!decide (e.k=11)) (!decide (e.k=11)&&decide (i=0)) a)/\s'.tmps 5=.ref a.av.cells/\s'.tmps 2=.ref e.av.cells/\s'.tmps 1=.int i/\s'.H=H/\s'.defs=[]) (fun N E hN hE=>?_) ?_)
 ·clear hE hk
  by_cases h11:e.k=11
  ·rw[if_pos h11]
   simp +decide only[ZS,↓reduceIte,decide_false,decide_true,Bool.not_false,Bool.not_true]
   refine D10 (pIs_c hG a.op 2 (bnd_lim ha1)) ?_
   simp +decide only[ZS,↓reduceIte,decide_false,decide_true,Bool.not_false,Bool.not_true]
   refine hN _ ⟨?_,?_,?_,rfl,rfl,rfl⟩
   ·simp +decide only[ZS,↓reduceIte]
    simp[armName,h11]
   ·rw[J12];rfl
   ·rw[C10];rfl
  ·by_cases hi0:i=0
   ·rw[if_neg h11,if_pos hi0]
    simp +decide only[ZS,↓reduceIte,decide_false,decide_true,Bool.not_false,Bool.not_true]
    refine hN _ ⟨?_,?_,?_,rfl,rfl,rfl⟩
    ·simp +decide only[ZS,↓reduceIte]
     simp[armName,h11,hi0]
    ·rw[J12];rfl
    ·rw[C10];rfl
   ·rw[if_neg h11,if_neg hi0]
    simp +decide only[ZS,↓reduceIte,decide_false,decide_true,Bool.not_false,Bool.not_true]
    refine D10 (pIs_c hG a.op 1 (bnd_lim ha1)) ?_
    simp +decide only[ZS,↓reduceIte,decide_false,decide_true,Bool.not_false,Bool.not_true]
    refine hN _ ⟨?_,?_,?_,rfl,rfl,rfl⟩
    ·simp +decide only[ZS,↓reduceIte]
     simp[armName,h11,hi0]
    ·rw[J12];rfl
    ·rw[C10];rfl
 rintro ⟨tm2,H1,ds⟩ ⟨f48,f5,f2,f1,gH,gds⟩
 obtain rfl:H=H1:=gH.symm
 obtain rfl:ds=[]:=gds
 rw[J12] at f5
 rw[C10] at f2
 refine B10 48 _ f48 (B10 5 _ f5 (B10 2 _ f2 (B10 1 _ f1 ?_)))
 refine T10 rfl (fun hc=>?_) (fun hc=>?_)
 ·refine A10 [] fun N E hN hE=>?_
  simp +decide only[ZS,↓reduceIte]
  refine hN _ ?_
  clear hN hE N E
  refine L10 (K10 4 rfl ?_)
  simp +decide only[ZS,↓reduceIte]
  rw[if_pos hc] at hk;exact hk
 rw[if_neg (by rw[hc];decide)] at hk
 refine G10 ?_
 refine I10 (A10 [] fun N E hN hE=>?_)
 simp +decide only[ZS,↓reduceIte]
 refine D10 (pDistinct_c hG a.names 1 ha2 ha3) ?_
 rw[pdist_var]
 simp +decide only[ZS,↓reduceIte]
 refine hN _ ?_
 clear hN hE N E
 refine A10 [] fun N E hN hE=>?_
 simp +decide only[ZS,↓reduceIte]
 refine hN _ ?_
 clear hN hE N E
 refine T10 rfl (fun hc=>?_) (fun hc=>?_)
 ·have hne:distinct a.names≠0:=by simpa[distinct] using hc
  refine A10 [] fun N E hN hE=>?_
  simp +decide only[ZS,↓reduceIte]
  refine hN _ ?_
  clear hN hE N E
  refine L10 (K10 4 rfl ?_)
  simp +decide only[ZS,↓reduceIte]
  rw[if_neg hne] at hk;exact hk
 have hne:distinct a.names=0:=by simpa[distinct] using hc
 rw[if_pos hne] at hk
 refine G10 ?_
 refine I10 (A10 [] fun N E hN hE=>?_)
 simp +decide only[ZS,↓reduceIte,nat0,Int.toNat_natCast,U11,hil,ars_take,ars_szc]
 simp only[<-J12,ar_fold,ar_eta]
 refine D10 hcon ?_
 simp +decide only[ZS,↓reduceIte]
 refine hN _ ?_
 clear hN hE N E
 refine T10 rfl (fun hc=>?_) (fun hc=>?_)
 ·refine A10 [] fun N E hN hE=>?_
  simp +decide only[ZS,↓reduceIte]
  refine hN _ ?_
  clear hN hE N E
  refine L10 (K10 4 rfl ?_)
  simp +decide only[ZS,↓reduceIte]
  rw[if_pos hc] at hk;exact hk
 rw[if_neg (by rw[hc];decide)] at hk
 refine G10 ?_
 refine A10 [] fun N E hN hE=>?_
 simp +decide only[ZS,↓reduceIte]
 refine hN _ ?_
 clear hN hE N E
 refine L10 (K10 4 rfl ?_)
 simp +decide only[ZS,↓reduceIte]
 exact hk
end
structure PSh where
 s:Int
 t:Int
 names:Int
 more:Int
 parts:Int
 plus:Int
 arms:Bool
 low:Int
 high:Int
def PSh.cs (x:PSh):List AV:=[.int x.s,.int x.t,.int x.names,.int x.more,.int x.parts,.int x.plus,.bool x.arms,.int x.low,.int x.high]
def toP (k:Nat) (x:Shape):PSh:=⟨x.S,x.T,x.Names,if k=17 then 12 else 0,x.L,if k=10 then 4 else 0,x.Arms,x.Low,x.High⟩
def shCells:List AV:=(shapes.zipIdx.map fun p=>toP p.2 p.1).flatMap PSh.cs
structure Tabs2 (G:GT):Prop extends Tabs G where
 shapes:G 0=some shCells
theorem flatMap_at {α:Type} (f:α->List AV) (n:Nat):∀ (l:List α) (k:Nat) (x:α),(∀ y∈l,(f y).length=n)->l[k]?=some x->((l.flatMap f).drop (k*n)).take n=f x
 |[],k,x,_,h=>by simp at h
 |y::l,0,x,hn,h=>by
  simp only[List.getElem?_cons_zero,Option.some.injEq] at h
  subst h
  rw[List.flatMap_cons,Nat.zero_mul,List.drop_zero,List.take_left' (hn y (by simp))]
 |y::l,k+1,x,hn,h=>by
  rw[List.flatMap_cons,Nat.succ_mul,Nat.add_comm,<-List.drop_drop,List.drop_left' (hn y (by simp))]
  exact flatMap_at f n l k x (fun z hz=>hn z (by simp[hz])) (by simpa using h)
theorem shape_at (k:Nat) (x:Shape) (h:shapes[k]?=some x):(shCells.drop (k*9)).take 9=(toP k x).cs:=by
 refine flatMap_at PSh.cs 9 _ k (toP k x) (fun y _=>rfl) ?_
 rw[List.getElem?_map,List.getElem?_zipIdx,h];simp
theorem shape_room (k:Nat) (h:k<20):(9<=(shCells.drop (k*9)).length)=True:=by
 have e:shCells.length=180:=by decide
 rw[List.length_drop,e]
 exact eq_true (by omega)
theorem td195:tdAt prog 195=some (.arr 20 194 9):=by kernel_rfl
theorem many_eq (e:Ex) (x:Shape) (h0:0<=e.k) (hx:shapes[e.k.toNat]?=some x):(decide ((toP e.k.toNat x).names<=e.names.length)&&decide ((e.names.length:Int)<=(toP e.k.toNat x).names+(toP e.k.toNat x).more))=nodeMany x e:=by
 unfold nodeMany toP
 by_cases h:e.k=17
 ·rw[h] at hx ⊢
  have:shapes[(17:Int).toNat]?=some ⟨0,0,1,3,false,0,0⟩:=rfl
  rw[this] at hx;cases hx
  rw[Bool.eq_iff_iff];simp;omega
 ·have:¬ e.k.toNat=17:=by omega
  rw[if_neg this,Bool.eq_iff_iff];simp[h];omega
theorem parts_eq (e:Ex) (x:Shape) (h0:0<=e.k) (hx:shapes[e.k.toNat]?=some x):(decide ((toP e.k.toNat x).parts<=e.l.length)&&decide ((e.l.length:Int)<=(toP e.k.toNat x).parts+(toP e.k.toNat x).plus))=nodeParts x e:=by
 unfold nodeParts toP
 by_cases h:e.k=10
 ·rw[h] at hx ⊢
  have:shapes[(10:Int).toNat]?=some ⟨2,0,0,0,false,0,0⟩:=rfl
  rw[this] at hx;cases hx
  rw[show (if (10:Int).toNat=10 then (4:Int) else 0)=4 from rfl,Bool.eq_iff_iff]
  simp
  intro hq;rw[hq];simp
 ·have:¬ e.k.toNat=10:=by omega
  rw[if_neg this,Bool.eq_iff_iff];simp[h];omega
section
variable {G:GT} {H:HM}
theorem pNode_c (hG:Tabs2 G) (e:Ex) (hf:fit1 e):PureF prog G 159 [e.av] H (.int (nodeErr e)):=by
 have hf':=hf
 obtain ⟨hs1,hs2,hn,hll,hla,hx,hax⟩:=hf
 have hbb:=bnd_lt
 have hev:∀ tm,ev G tm (.global 0)=.ref shCells:=fun tm=>by simp only[ev,hG.shapes]
 refine P10 (fn:=f159) func159 rfl (by kernel_rfl) (by kernel_rfl) (Nat.le_of_ble_eq_true (by kernel_rfl)) fun K hk=>?_
 refine A10 [] fun N E hN hE=>?_
 simp +decide only[ZS,↓reduceIte]
 refine hN _ ?_
 clear hN hE N E
 refine I10 (A10 [] fun N E hN hE=>?_)
 simp +decide only[ZS,↓reduceIte]
 refine D10 (pAmong_c e.k 0 19) ?_
 simp +decide only[ZS,↓reduceIte]
 refine hN _ ?_
 clear hN hE N E
 refine T10 rfl (fun hc=>?_) (fun hc=>?_)
 ·refine A10 [] fun N E hN hE=>?_
  simp +decide only[ZS,↓reduceIte]
  refine hN _ ?_
  clear hN hE N E
  refine L10 (K10 2 rfl ?_)
  simp +decide only[ZS,↓reduceIte]
  have:(decide (0<=e.k)&&decide (e.k<=19))=false:=by simpa only[Bool.not_eq_true'] using hc
  rw[nodeErr,this,if_neg (by decide)] at hk;exact hk
 have hin:(decide (0<=e.k)&&decide (e.k<=19))=true:=by simpa only[Bool.not_eq_false'] using hc
 have hk0:0<=e.k:=by simp at hin;omega
 have hk19:e.k.toNat<20:=by simp at hin;omega
 have hk20:(0<=e.k/\e.k<((20:Nat):Int))=True:=eq_true (by omega)
 obtain ⟨x,hsx⟩:∃ x,shapes[e.k.toNat]?=some x:=⟨_,List.getElem?_eq_getElem (show e.k.toNat<shapes.length from hk19)⟩
 rw[nodeErr,hin,if_pos rfl,hsx] at hk
 simp only at hk
 have hmany:=many_eq e x hk0 hsx
 have hparts:=parts_eq e x hk0 hsx
 have hat:=shape_at e.k.toNat x hsx
 have hroom:=shape_room e.k.toNat hk19
 have hp:toP e.k.toNat x=⟨x.S,x.T,x.Names,(toP e.k.toNat x).more,x.L,(toP e.k.toNat x).plus,x.Arms,x.Low,x.High⟩:=rfl
 have hb1:0<=(toP e.k.toNat x).more/\(toP e.k.toNat x).more<=12:=by simp only[toP];split<;>omega
 have hb2:0<=(toP e.k.toNat x).plus/\(toP e.k.toNat x).plus<=4:=by simp only[toP];split<;>omega
 have hb3:0<=x.Names/\x.Names<=2/\0<=x.L/\x.L<=3:=by
  have:∀ y∈shapes,0<=y.Names/\y.Names<=2/\0<=y.L/\y.L<=3:=by decide
  exact this x (List.mem_of_getElem? hsx)
 generalize toP e.k.toNat x=px at *
 obtain ⟨p1,p2,p3,mo,p5,pl,p7,p8,p9⟩:=px
 simp only[PSh.mk.injEq] at hp
 obtain ⟨rfl,rfl,rfl,_,rfl,_,rfl,rfl,rfl⟩:=hp
 simp only at hmany hparts hb1 hb2
 rw[show PSh.cs ⟨x.S,x.T,x.Names,mo,x.L,pl,x.Arms,x.Low,x.High⟩=[.int x.S,.int x.T,.int x.Names,.int mo,.int x.L,.int pl,.bool x.Arms,.int x.Low,.int x.High] from rfl] at hat
 refine G10 ?_
 refine A10 [] fun N E hN hE=>?_
 simp +decide only[ZS,↓reduceIte,hev,td195,hk20,hroom,hat]
 refine F10 fun b hbn=>?_
 simp +decide only[ZS,↓reduceIte,hat]
 refine hN _ ?_
 clear hN hE N E
 refine V11 (i:=3) hbn rfl ?_
 clear hbn
 rw[nodeOf] at hk
 refine I10 ?_
 refine J10 ?_
 refine A10 [] fun N E hN hE=>?_
 simp +decide only[ZS,↓reduceIte]
 refine D10 (pAmong_c e.n x.Low x.High) ?_
 simp +decide only[ZS,↓reduceIte]
 refine hN _ ?_
 clear hN hE N E
 refine T10 rfl (fun hc=>?_) (fun hc=>?_)
 ·refine A10 [] fun N E hN hE=>?_
  simp +decide only[ZS,↓reduceIte]
  refine hN _ ?_
  clear hN hE N E
  refine L10 (K10 2 rfl ?_)
  simp +decide only[ZS,↓reduceIte]
  have:(decide (x.Low<=e.n)&&decide (e.n<=x.High))=false:=by simpa only[Bool.not_eq_true'] using hc
  rw[this,if_neg (by decide)] at hk;exact hk
 have hlow:(decide (x.Low<=e.n)&&decide (e.n<=x.High))=true:=by simpa only[Bool.not_eq_false'] using hc
 rw[hlow,if_pos rfl] at hk
 refine O11 [] (fun s'=>s'.tmps 26=.bool (!cls e.s x.S||!cls e.t x.T)/\s'.tmps 1=.ref e.av.cells/\s'.tmps 3=.ref [.int x.S,.int x.T,.int x.Names,.int mo,.int x.L,.int pl,.bool x.Arms,.int x.Low,.int x.High]/\s'.H=H/\s'.defs=[]) (fun N E hN hE=>?_) ?_
 ·clear hE hk
  simp +decide only[ZS,↓reduceIte]
  refine D10 (pIs_c hG.toTabs e.s x.S (bnd_lim hs1)) ?_
  simp +decide only[ZS,↓reduceIte]
  refine V10 (fun hb=>?_) (fun hb=>?_)
  ·simp +decide only[ZS,↓reduceIte,hb]
   refine hN _ ?_
   clear hN
   refine ⟨?_,?_,?_,?_,?_⟩
   all_goals first|rfl|assumption|(simp +decide only[ZS,↓reduceIte]<;>simp_all)
  ·simp +decide only[ZS,↓reduceIte,hb]
   refine D10 (pIs_c hG.toTabs e.t x.T (bnd_lim hs2)) ?_
   simp +decide only[ZS,↓reduceIte,hb]
   refine hN _ ?_
   clear hN
   refine ⟨?_,?_,?_,?_,?_⟩
   all_goals first|rfl|assumption|(simp +decide only[ZS,↓reduceIte]<;>simp_all)
 rintro ⟨tm1,H1,ds⟩ ⟨f26,f1,f3,gH,gds⟩
 obtain rfl:H=H1:=gH.symm
 obtain rfl:ds=[]:=gds
 rw[C10] at f1
 refine B10 26 _ f26 (B10 1 _ f1 (B10 3 _ f3 ?_))
 refine T10 rfl (fun hc=>?_) (fun hc=>?_)
 ·refine A10 [] fun N E hN hE=>?_
  simp +decide only[ZS,↓reduceIte]
  refine hN _ ?_
  clear hN hE N E
  refine L10 (K10 2 rfl ?_)
  simp +decide only[ZS,↓reduceIte]
  rw[if_pos hc] at hk;exact hk
 rw[hc,if_neg (by decide)] at hk
 have hw1:IntKind.i64.wrap (x.Names+mo)=x.Names+mo:=wrap64 (by omega) (by omega)
 have hw2:IntKind.i64.wrap (x.L+pl)=x.L+pl:=wrap64 (by omega) (by omega)
 refine O11 [] (fun s'=>s'.tmps 41=.bool (!nodeMany x e||!nodeParts x e)/\s'.tmps 1=.ref e.av.cells/\s'.tmps 3=.ref [.int x.S,.int x.T,.int x.Names,.int mo,.int x.L,.int pl,.bool x.Arms,.int x.Low,.int x.High]/\s'.H=H/\s'.defs=[]) (fun N E hN hE=>?_) ?_
 ·clear hE hk
  simp +decide only[ZS,↓reduceIte,O10,Z10,hw1,hw2]
  refine D10 (pAmong_c _ _ _) ?_
  rw[hmany]
  simp +decide only[ZS,↓reduceIte,O10,Z10,hw1,hw2]
  refine V10 (fun hb=>?_) (fun hb=>?_)
  ·simp +decide only[ZS,↓reduceIte,hb]
   refine hN _ ?_
   clear hN
   refine ⟨?_,?_,?_,?_,?_⟩
   all_goals first|rfl|assumption|(simp +decide only[ZS,↓reduceIte]<;>simp_all)
  ·simp +decide only[ZS,↓reduceIte,hb,O10,Z10,hw1,hw2]
   refine D10 (pAmong_c _ _ _) ?_
   rw[hparts]
   simp +decide only[ZS,↓reduceIte,hb]
   refine hN _ ?_
   clear hN
   refine ⟨?_,?_,?_,?_,?_⟩
   all_goals first|rfl|assumption|(simp +decide only[ZS,↓reduceIte]<;>simp_all)
 rintro ⟨tm2,H1,ds⟩ ⟨f41,f1,f3,gH,gds⟩
 obtain rfl:H=H1:=gH.symm
 obtain rfl:ds=[]:=gds
 rw[C10] at f1
 refine B10 41 _ f41 (B10 1 _ f1 (B10 3 _ f3 ?_))
 rw[nodeBad] at hk
 refine T10 rfl (fun hc=>?_) (fun hc=>?_)
 ·refine A10 [] fun N E hN hE=>?_
  simp +decide only[ZS,↓reduceIte]
  refine hN _ ?_
  clear hN hE N E
  refine L10 (K10 2 rfl ?_)
  simp +decide only[ZS,↓reduceIte]
  rw[hc,Bool.true_or,Bool.true_or,if_pos rfl] at hk;exact hk
 rw[hc,Bool.false_or] at hk
 have hmp:=hc
 refine O11 [] (fun s'=>s'.tmps 68=.bool ((!x.Arms&&decide ((0:Int)<e.arms.length))||decide ((9:Int)<e.arms.length))/\s'.tmps 1=.ref e.av.cells/\s'.tmps 3=.ref [.int x.S,.int x.T,.int x.Names,.int mo,.int x.L,.int pl,.bool x.Arms,.int x.Low,.int x.High]/\s'.H=H/\s'.defs=[]) (fun N E hN hE=>?_) ?_
 ·clear hE
  try clear hk
  simp +decide only[ZS,↓reduceIte,U11]
  repeat' (refine V10 (fun hb=>?_) (fun hb=>?_)<;>simp +decide only[ZS,↓reduceIte,U11, *])
  all_goals refine hN _ ?_
  all_goals clear hN
  all_goals refine ⟨?_,?_,?_,?_,?_⟩
  all_goals first|rfl|assumption|(simp only[C10];rfl)|(simp +decide only[ZS,↓reduceIte]<;>simp_all;done)|(simp +decide only[ZS,↓reduceIte]<;>simp_all<;>omega)
 rintro ⟨tb1,Hb1,dsb⟩ ⟨fb68,fb1,fb3,gHb,gdsb⟩
 obtain rfl:H=Hb1:=gHb.symm
 obtain rfl:dsb=[]:=gdsb
 try simp only[C10] at fb1 fb3
 refine B10 68 _ fb68 (B10 1 _ fb1 (B10 3 _ fb3 ?_))
 refine T10 rfl (fun hc=>?_) (fun hc=>?_)
 ·refine A10 [] fun N E hN hE=>?_
  simp +decide only[ZS,↓reduceIte]
  refine hN _ ?_
  clear hN hE N E
  refine L10 (K10 2 rfl ?_)
  simp +decide only[ZS,↓reduceIte]
  rw[if_pos hc] at hk;exact hk
 rw[hc,if_neg (by decide)] at hk
 have harms:=hc
 refine G10 ?_
 refine A10 [] fun N E hN hE=>?_
 simp +decide only[ZS,↓reduceIte,O10]
 refine hN _ ?_
 clear hN hE N E
 have hu:e.k=17->1<=e.names.length:=by
  intro h17
  rw[h17] at hsx
  have hxe:x=⟨0,0,1,3,false,0,0⟩:=by
   have:shapes[(17:Int).toNat]?=some ⟨0,0,1,3,false,0,0⟩:=rfl
   rw[this] at hsx;exact (Option.some.inj hsx).symm
  have hm:nodeMany x e=true:=by
   cases hq:nodeMany x e with
   |true=>rfl
   |false=>rw[hq] at hmp;cases hmp
  rw[hxe] at hm
  simp[nodeMany] at hm
  omega
 refine VW_seqC (fun s'=>s'.tmps 4=.int ((if e.k=17 then 1 else e.names.length:Nat):Nat)/\s'.tmps 1=.ref e.av.cells/\s'.tmps 3=.ref [.int x.S,.int x.T,.int x.Names,.int mo,.int x.L,.int pl,.bool x.Arms,.int x.Low,.int x.High]/\s'.H=H/\s'.defs=[]) ?_ ?_
 ·refine A10 [] fun N E hN hE=>?_
  simp +decide only[ZS,↓reduceIte]
  refine hN _ ?_
  clear hN hE N E
  refine T10 rfl (fun hc=>?_) (fun hc=>?_)
  ·refine R10 [] fun N E hN hE=>?_
   simp +decide only[ZS,↓reduceIte]
   refine hN _ ?_
   clear hN hE N E
   refine ⟨?_,?_,rfl,rfl,rfl⟩
   ·simp +decide only[ZS,↓reduceIte]
    rw[if_pos (of_decide_eq_true hc)];rfl
   ·rw[C10];rfl
  ·refine G10 ⟨?_,?_,rfl,rfl,rfl⟩
   ·simp +decide only[ZS,↓reduceIte]
    rw[if_neg (of_decide_eq_false hc)]
   ·rw[C10];rfl
 rintro ⟨tm3,H1,ds⟩ ⟨f4,f1,f3,gH,gds⟩
 obtain rfl:H=H1:=gH.symm
 obtain rfl:ds=[]:=gds
 rw[C10] at f1
 have hfir:(if e.k=17 then 1 else e.names.length)<=e.names.length:=by
  split
  ·exact hu ‹_›
  ·exact Nat.le_refl _
 have hnames:namesErr e=if pdistF (fun s=>cls s 1) [] (e.names.take (if e.k=17 then 1 else e.names.length))=0 then pdistF (fun s=>cls s 2) [] (e.names.drop (if e.k=17 then 1 else e.names.length)) else pdistF (fun s=>cls s 1) [] (e.names.take (if e.k=17 then 1 else e.names.length)):=by
  rw[pdist_var,pdist_upper,namesErr]
  by_cases h17:e.k=17
  ·simp only[if_pos h17];rfl
  ·simp only[if_neg h17,List.take_length,List.drop_length]
   split
   ·rename_i h;exact h
   ·rfl
 rw[hnames] at hk
 generalize hfd:(if e.k=17 then 1 else e.names.length)=fd at *
 have hfi:(fd:Int)<=(e.names.length:Int):=by omega
 have hxt:∀ y∈e.names.take fd,y.size<=bnd:=fun y hy=>hx y (List.mem_of_mem_take hy)
 have hxd:∀ y∈e.names.drop fd,y.size<=bnd:=fun y hy=>hx y (List.mem_of_mem_drop hy)
 refine B10 4 _ f4 (B10 1 _ f1 (B10 3 _ f3 ?_))
 refine I10 (A10 [] fun N E hN hE=>?_)
 simp +decide only[ZS,↓reduceIte,nat0,Int.toNat_natCast,strs_szc,O10,hfi,strs_take]
 refine D10 (pDistinct_c hG.toTabs (e.names.take fd) 1 (by rw[List.length_take];omega) hxt) ?_
 simp +decide only[ZS,↓reduceIte]
 refine hN _ ?_
 clear hN hE N E
 refine A10 [] fun N E hN hE=>?_
 simp +decide only[ZS,↓reduceIte]
 refine hN _ ?_
 clear hN hE N E
 refine T10 rfl (fun hc=>?_) (fun hc=>?_)
 ·have hne:pdistF (fun s=>cls s 1) [] (e.names.take fd)≠0:=by simpa using hc
  refine A10 [] fun N E hN hE=>?_
  simp +decide only[ZS,↓reduceIte]
  refine hN _ ?_
  clear hN hE N E
  refine L10 (K10 2 rfl ?_)
  simp +decide only[ZS,↓reduceIte]
  rw[if_neg hne,if_neg hne] at hk;exact hk
 have hne:pdistF (fun s=>cls s 1) [] (e.names.take fd)=0:=by simpa using hc
 rw[if_pos hne] at hk
 refine G10 ?_
 refine I10 (A10 [] fun N E hN hE=>?_)
 simp +decide only[ZS,↓reduceIte,nat0,Int.toNat_natCast,strs_szc,O10,hfi,strs_drop]
 refine D10 (pDistinct_c hG.toTabs (e.names.drop fd) 2 (by rw[List.length_drop];omega) hxd) ?_
 simp +decide only[ZS,↓reduceIte]
 refine hN _ ?_
 clear hN hE N E
 refine A10 [] fun N E hN hE=>?_
 simp +decide only[ZS,↓reduceIte]
 refine hN _ ?_
 clear hN hE N E
 refine T10 rfl (fun hc=>?_) (fun hc=>?_)
 ·have hne:pdistF (fun s=>cls s 2) [] (e.names.drop fd)≠0:=by simpa using hc
  refine A10 [] fun N E hN hE=>?_
  simp +decide only[ZS,↓reduceIte]
  refine hN _ ?_
  clear hN hE N E
  refine L10 (K10 2 rfl ?_)
  simp +decide only[ZS,↓reduceIte]
  rw[if_neg hne] at hk;exact hk
 have hne:pdistF (fun s=>cls s 2) [] (e.names.drop fd)=0:=by simpa using hc
 rw[if_pos hne] at hk
 refine G10 ?_
 have hks:armsF (!decide (e.k=11)) [] e.arms=0->K (.ret (.int (if !decide (e.k=11)&&x.Arms&&decide ((e.arms.length:Int)=0) then 7 else 0))) H:=fun hz=>by
  cases hxa:x.Arms with
  |true=>rw[hxa,if_pos rfl,armsErr,if_pos hz] at hk;rw[Bool.and_true];exact hk
  |false=>rw[hxa,if_neg (by decide)] at hk;rw[Bool.and_false,Bool.false_and,if_neg (by decide)];exact hk
 have hks2:armsF (!decide (e.k=11)) [] e.arms≠0->K (.ret (.int (armsF (!decide (e.k=11)) [] e.arms))) H:=fun hz=>by
  cases hxa:x.Arms with
  |true=>rw[hxa,if_pos rfl,armsErr,if_neg hz] at hk;exact hk
  |false=>
   rw[hxa] at harms
   have:e.arms=[]:=by
    have h0:¬ (0:Int)<e.arms.length:=by
     intro hh
     rw[decide_eq_true hh] at harms;cases harms
    exact List.eq_nil_of_length_eq_zero (by omega)
   rw[this] at hz
   exact absurd rfl hz
 clear hk
 refine I10 (A10 [] fun N E hN hE=>?_)
 simp +decide only[ZS,↓reduceIte,U11]
 refine hN _ ?_
 clear hN hE N E
 refine J10 ?_
 refine C11 (fun k s'=>k<=e.arms.length/\armsF (!decide (e.k=11)) [] e.arms=armsF (!decide (e.k=11)) (e.arms.take k) (e.arms.drop k)/\s'.tmps 1=.ref e.av.cells/\s'.tmps 3=.ref [.int x.S,.int x.T,.int x.Names,.int mo,.int x.L,.int pl,.bool x.Arms,.int x.Low,.int x.High]/\s'.tmps 108=.int e.arms.length/\s'.tmps 109=.int k/\s'.H=H/\s'.defs=[]) (fun k=>e.arms.length-k) 0 ⟨Nat.zero_le _,rfl,by rw[C10];rfl,rfl,rfl,rfl,rfl,rfl⟩ ?_
 rintro k ⟨tm,H',ds⟩ ⟨hk1,hk2,h1,h3,h108,h109,hH,hds⟩
 obtain rfl:H'=H:=hH
 obtain rfl:ds=[]:=hds
 rw[C10] at h1
 refine B10 1 _ h1 (B10 3 _ h3 (B10 108 _ h108 (B10 109 _ h109 ?_)))
 refine A10 [] fun N E hN hE=>?_
 simp +decide only[ZS,↓reduceIte]
 refine hN _ ?_
 clear hN hE N E
 refine I10 (T10 rfl (fun hc=>?_) (fun hc=>?_))
 ·have hlt:k<e.arms.length:=by have:=of_decide_eq_true hc;omega
  rw[drop_at hlt,armsF_one] at hk2
  refine G10 ?_
  refine I10 (J10 ?_)
  refine A10 [] fun N E hN hE=>?_
  simp +decide only[ZS,↓reduceIte]
  refine hN _ ?_
  clear hN hE N E
  refine A10 [] fun N E hN hE=>?_
  simp +decide only[ZS,↓reduceIte]
  refine D10 (pArm_c hG.toTabs e hf' k hlt) ?_
  simp +decide only[ZS,↓reduceIte]
  refine hN _ ?_
  clear hN hE N E
  refine A10 [] fun N E hN hE=>?_
  simp +decide only[ZS,↓reduceIte]
  refine hN _ ?_
  clear hN hE N E
  refine T10 rfl (fun hc=>?_) (fun hc=>?_)
  ·have hne:armOne (!decide (e.k=11)) (e.arms.take k) e.arms[k]≠0:=by simpa using hc
   refine A10 [] fun N E hN hE=>?_
   simp +decide only[ZS,↓reduceIte]
   refine hN _ ?_
   clear hN hE N E
   refine L10 (K10 2 rfl ?_)
   simp +decide only[ZS,↓reduceIte]
   rw[if_neg hne] at hk2
   rw[<-hk2]
   exact hks2 (by rw[hk2];exact hne)
  ·have hne:armOne (!decide (e.k=11)) (e.arms.take k) e.arms[k]=0:=by simpa using hc
   rw[if_pos hne] at hk2
   refine G10 ?_
   refine R10 [] fun N E hN hE=>?_
   simp +decide only[ZS,↓reduceIte,wrapN (show k<9223372036854775807 by omega)]
   refine hN _ ?_
   clear hN hE N E
   refine ⟨k+1,⟨hlt,by rw[take_at hlt];exact hk2,by rw[C10];rfl,rfl,rfl,rfl,rfl,rfl⟩,by omega⟩
 ·refine L11 ?_
  have hk3:k=e.arms.length:=by have:=of_decide_eq_false hc;omega
  subst hk3
  rw[List.drop_length] at hk2
  have hz:armsF (!decide (e.k=11)) [] e.arms=0:=hk2
  have hks:=hks hz
  clear hks2
  refine I10 (O11 [] (fun s'=>s'.tmps 131=.bool (!decide (e.k=11)&&x.Arms&&decide ((e.arms.length:Int)=0))/\s'.H=H'/\s'.defs=[]) (fun N E hN hE=>?_) ?_)
  ·clear hE
   try clear hk
   simp +decide only[ZS,↓reduceIte,U11]
   repeat' (refine V10 (fun hb=>?_) (fun hb=>?_)<;>simp +decide only[ZS,↓reduceIte,U11, *])
   all_goals refine hN _ ?_
   all_goals clear hN
   all_goals refine ⟨?_,?_,?_⟩
   all_goals first|rfl|assumption|(simp only[C10];rfl)|(simp +decide only[ZS,↓reduceIte]<;>simp_all;done)|(simp +decide only[ZS,↓reduceIte]<;>simp_all<;>omega)
  rintro ⟨tb2,Hb2,dsb⟩ ⟨fb131,gHb,gdsb⟩
  obtain rfl:H'=Hb2:=gHb.symm
  obtain rfl:dsb=[]:=gdsb
  try simp only[C10] at fb131
  refine B10 131 _ fb131 ?_
  refine T10 rfl (fun hc=>?_) (fun hc=>?_)
  ·refine A10 [] fun N E hN hE=>?_
   simp +decide only[ZS,↓reduceIte]
   refine hN _ ?_
   clear hN hE N E
   refine L10 (K10 2 rfl ?_)
   simp +decide only[ZS,↓reduceIte]
   rw[if_pos hc] at hks;exact hks
  ·refine G10 ?_
   refine A10 [] fun N E hN hE=>?_
   simp +decide only[ZS,↓reduceIte]
   refine hN _ ?_
   clear hN hE N E
   refine L10 (K10 2 rfl ?_)
   simp +decide only[ZS,↓reduceIte]
   rw[if_neg (by rw[hc];decide)] at hks;exact hks
end
theorem parts_l {e:Ex} {i:Nat} (h:i<e.l.length) (h':i<e.parts.length):e.parts[i]=e.l[i]:=by simp[Ex.parts,h]
theorem parts_arm {e:Ex} {j:Nat} (h:j<e.arms.length) (h':e.l.length+j<e.parts.length):e.parts[e.l.length+j]=e.arms[j].body:=by
 simp only[Ex.parts]
 rw[List.getElem_append_right (by omega)];simp
section
variable {G:GT} {H:HM}
theorem each_c (e:Ex) (hf:fit1 e) (fv:AV) (I:Nat->HM->Prop) (S:HM->Prop) {K:ARes->HM->Prop} (h0:I 0 H)
  (hstep:∀ i (hi:i<e.parts.length) H',I i H'->CallV prog G fv [e.parts[i].av] H' fun r H''=>(r=.ret (.bool true)/\I (i+1) H'')\/(r=.ret (.bool false)/\S H''))
  (hT:∀ H',I e.parts.length H'->K (.ret (.bool true)) H') (hS:∀ H',S H'->K (.ret (.bool false)) H'):CallF prog G 157 [e.av,fv] H K:=by
 obtain ⟨_,_,_,hll,hla,_⟩:=hf
 have hbb:=bnd_lt
 have hpl:=Z11 e
 refine A11 (fn:=f157) func157 rfl (by kernel_rfl) (Nat.le_of_ble_eq_true (by kernel_rfl)) ?_
 refine A10 [] fun N E hN hE=>?_
 simp +decide only[ZS,↓reduceIte]
 refine hN _ ?_
 clear hN hE N E
 refine I10 (A10 [] fun N E hN hE=>?_)
 simp +decide only[ZS,↓reduceIte,Z10]
 refine hN _ ?_
 clear hN hE N E
 refine J10 ?_
 refine C11 (fun k s'=>k<=e.l.length/\I k s'.H/\s'.tmps 1=fv/\s'.tmps 2=.ref e.av.cells/\s'.tmps 10=.list (exs e.l)/\s'.tmps 11=.int e.l.length/\s'.tmps 12=.int k/\s'.defs=[]) (fun k=>e.l.length-k) 0 ⟨Nat.zero_le _,h0,rfl,by rw[C10];rfl,rfl,rfl,rfl,rfl⟩ ?_
 rintro k ⟨tm,H',ds⟩ ⟨hk1,hI,h1,h2,h10,h11,h12,hds⟩
 obtain rfl:ds=[]:=hds
 simp only at hI
 rw[C10] at h2
 refine B10 1 _ h1 (B10 2 _ h2 (B10 10 _ h10 (B10 11 _ h11 (B10 12 _ h12 ?_))))
 refine A10 [] fun N E hN hE=>?_
 simp +decide only[ZS,↓reduceIte]
 refine hN _ ?_
 clear hN hE N E
 refine I10 (T10 rfl (fun hc=>?_) (fun hc=>?_))
 ·have hlt:k<e.l.length:=by have:=of_decide_eq_true hc;omega
  have hst:=hstep k (by omega) H' hI
  rw[parts_l hlt] at hst
  have hat:=exs_at hlt
  refine G10 ?_
  refine I10 (J10 ?_)
  refine A10 [] fun N E hN hE=>?_
  simp +decide only[ZS,↓reduceIte,hat,nat0,Int.toNat_natCast]
  refine F10 fun b hbn=>?_
  simp +decide only[ZS,↓reduceIte,hat]
  refine hN _ ?_
  clear hN hE N E
  refine V11 (i:=6) hbn rfl ?_
  clear hbn
  refine A10 [] fun N E hN hE=>?_
  simp +decide only[ZS,↓reduceIte]
  refine wcall_K hst ?_
  rintro r H'' (⟨rfl,hi⟩|⟨rfl,hs⟩)
  ·rw[M10]
   simp +decide only[ZS,↓reduceIte,Bool.not_true]
   refine hN _ ?_
   clear hN hE N E
   refine T10 rfl (fun hc=>?_) (fun hc=>?_)
   ·cases hc
   refine G10 ?_
   refine R10 [] fun N E hN hE=>?_
   simp +decide only[ZS,↓reduceIte,wrapN (show k<9223372036854775807 by omega)]
   refine hN _ ?_
   clear hN hE N E
   exact ⟨k+1,⟨hlt,hi,rfl,by rw[C10];rfl,rfl,rfl,rfl,rfl⟩,by omega⟩
  ·rw[M10]
   simp +decide only[ZS,↓reduceIte,Bool.not_false]
   refine hN _ ?_
   clear hN hE N E
   refine T10 rfl (fun hc=>?_) (fun hc=>?_)
   ·refine A10 [] fun N E hN hE=>?_
    simp +decide only[ZS,↓reduceIte]
    refine hN _ ?_
    clear hN hE N E
    refine L10 (K10 4 rfl ?_)
    simp +decide only[ZS,↓reduceIte]
    exact hS _ hs
   ·cases hc
 refine L11 ?_
 have hk3:k=e.l.length:=by have:=of_decide_eq_false hc;omega
 subst hk3
 refine I10 (A10 [] fun N E hN hE=>?_)
 simp +decide only[ZS,↓reduceIte,U11]
 refine hN _ ?_
 clear hN hE N E
 refine J10 ?_
 refine C11 (fun k s'=>k<=e.arms.length/\I (e.l.length+k) s'.H/\s'.tmps 1=fv/\s'.tmps 2=.ref e.av.cells/\s'.tmps 22=.list (ars e.arms)/\s'.tmps 23=.int e.arms.length/\s'.tmps 24=.int k/\s'.defs=[]) (fun k=>e.arms.length-k) 0 ⟨Nat.zero_le _,hI,rfl,by rw[C10];rfl,rfl,rfl,rfl,rfl⟩ ?_
 rintro k ⟨tm2,H2,ds⟩ ⟨hk1,hI,h1,h2,h22,h23,h24,hds⟩
 obtain rfl:ds=[]:=hds
 simp only at hI
 rw[C10] at h2
 refine B10 1 _ h1 (B10 2 _ h2 (B10 22 _ h22 (B10 23 _ h23 (B10 24 _ h24 ?_))))
 refine A10 [] fun N E hN hE=>?_
 simp +decide only[ZS,↓reduceIte]
 refine hN _ ?_
 clear hN hE N E
 refine I10 (T10 rfl (fun hc=>?_) (fun hc=>?_))
 ·have hlt:k<e.arms.length:=by have:=of_decide_eq_true hc;omega
  have hst:=hstep (e.l.length+k) (by omega) H2 hI
  rw[parts_arm hlt] at hst
  have hat:=ars_at hlt
  generalize e.arms[k]=a at *
  refine G10 ?_
  refine I10 (J10 ?_)
  refine A10 [] fun N E hN hE=>?_
  simp +decide only[ZS,↓reduceIte,hat,nat0,Int.toNat_natCast]
  refine F10 fun b hbn=>?_
  simp +decide only[ZS,↓reduceIte,hat]
  refine hN _ ?_
  clear hN hE N E
  refine V11 (i:=8) hbn rfl ?_
  clear hbn
  refine A10 [] fun N E hN hE=>?_
  simp +decide only[ZS,↓reduceIte]
  refine wcall_K hst ?_
  rintro r H'' (⟨rfl,hi⟩|⟨rfl,hs⟩)
  ·rw[M10]
   simp +decide only[ZS,↓reduceIte,Bool.not_true]
   refine hN _ ?_
   clear hN hE N E
   refine T10 rfl (fun hc=>?_) (fun hc=>?_)
   ·cases hc
   refine G10 ?_
   refine R10 [] fun N E hN hE=>?_
   simp +decide only[ZS,↓reduceIte,wrapN (show k<9223372036854775807 by omega)]
   refine hN _ ?_
   clear hN hE N E
   exact ⟨k+1,⟨hlt,hi,rfl,by rw[C10];rfl,rfl,rfl,rfl,rfl⟩,by omega⟩
  ·rw[M10]
   simp +decide only[ZS,↓reduceIte,Bool.not_false]
   refine hN _ ?_
   clear hN hE N E
   refine T10 rfl (fun hc=>?_) (fun hc=>?_)
   ·refine A10 [] fun N E hN hE=>?_
    simp +decide only[ZS,↓reduceIte]
    refine hN _ ?_
    clear hN hE N E
    refine L10 (K10 4 rfl ?_)
    simp +decide only[ZS,↓reduceIte]
    exact hS _ hs
   ·cases hc
 refine L11 ?_
 have hk3:k=e.arms.length:=by have:=of_decide_eq_false hc;omega
 subst hk3
 refine A10 [] fun N E hN hE=>?_
 simp +decide only[ZS,↓reduceIte]
 refine hN _ ?_
 clear hN hE N E
 refine L10 (K10 4 rfl ?_)
 simp +decide only[ZS,↓reduceIte]
 rw[<-hpl] at hI
 exact hT _ hI
def takeL:List (Int->Int->Int->Bool×Int×Int)->Int->Int->Int->Bool×Int×Int
 |[],l,d,_=>(true,l,d)
 |r::rs,l,d,n=>if (r l d n).1 then takeL rs (r l d n).2.1 (r l d n).2.2 n else (false,(r l d n).2)
def take:Ex->Int->Int->Int->Bool×Int×Int:=Ex.para fun _ rs l d n=>if l-1<0\/200<n then (false,l-1,max d n) else takeL rs (l-1) (max d n) (n+1)
theorem take_eq (e:Ex) (l d n:Int):take e l d n=if l-1<0\/200<n then (false,l-1,max d n) else takeL (e.parts.map take) (l-1) (max d n) (n+1):=by
 unfold take;rw[Ex.para_eq]
theorem takeL_left:∀ (ps:List Ex),(∀ x∈ps,∀ l d n:Int,0<=l->1<=n->n<=201->(take x l d n).1=decide (0<=left x l (201-n))/\(0<=left x l (201-n)->(take x l d n).2.1=left x l (201-n))) ->
  ∀ l d n:Int,0<=l->1<=n->n<=201->(takeL (ps.map take) l d n).1=decide (0<=leftL (ps.map left) l (201-n))/\(0<=leftL (ps.map left) l (201-n)->(takeL (ps.map take) l d n).2.1=leftL (ps.map left) l (201-n))
 |[],_,l,d,n,hl,_,_=>by simp[takeL,leftL,hl]
 |x::ps,h,l,d,n,hl,h1,h2=>by
  obtain ⟨q1,q2⟩:=h x (by simp) l d n hl h1 h2
  simp only[List.map_cons,takeL,leftL,if_pos hl]
  by_cases hx:0<=left x l (201-n)
  ·rw[q1,decide_eq_true hx,if_pos rfl,q2 hx]
   exact takeL_left ps (fun y hy=>h y (by simp[hy])) _ _ n hx h1 h2
  ·rw[q1,decide_eq_false hx,if_neg (by decide)]
   have hs:=leftL_stop (ps.map left) (left x l (201-n)) (201-n) (by omega)
   rw[hs]
   exact ⟨(decide_eq_false hx).symm,fun hh=>absurd hh hx⟩
theorem take_left (e:Ex):∀ l d n:Int,0<=l->1<=n->n<=201->(take e l d n).1=decide (0<=left e l (201-n))/\(0<=left e l (201-n)->(take e l d n).2.1=left e l (201-n)):=by
 induction e using Ex.ind with
 |step e ih=>
  intro l d n hl h1 h2
  rw[take_eq,left_eq]
  by_cases hn:201-n<1
  ·rw[if_pos hn,if_pos (by omega)]
   exact ⟨rfl,fun h=>absurd h (by decide)⟩
  ·rw[if_neg hn]
   by_cases hl1:l-1<0
   ·rw[if_pos (.inl hl1),leftL_stop _ _ _ hl1]
    exact ⟨(decide_eq_false (by omega)).symm,fun h=>absurd h (by omega)⟩
   ·rw[if_neg (by omega)]
    have:=takeL_left e.parts ih (l-1) (max d n) (n+1) (by omega) (by omega) (by omega)
    rw[show 201-(n+1)=201-n-1 by omega] at this
    exact this
theorem takeL_deep:∀ (ps:List Ex),(∀ x∈ps,∀ l d n:Int,-1<=l->l<=3000->0<=d->d<=201->1<=n->n<=201 -> -2<=(take x l d n).2.1/\(take x l d n).2.1<=l/\((take x l d n).1=true->0<=(take x l d n).2.1)/\0<=(take x l d n).2.2/\(take x l d n).2.2<=201) ->
  ∀ l d n:Int,0<=l->l<=3000->0<=d->d<=201->1<=n->n<=201 -> -2<=(takeL (ps.map take) l d n).2.1/\(takeL (ps.map take) l d n).2.1<=l/\((takeL (ps.map take) l d n).1=true->0<=(takeL (ps.map take) l d n).2.1)/\0<=(takeL (ps.map take) l d n).2.2/\(takeL (ps.map take) l d n).2.2<=201
 |[],_,l,d,n,h0,h1,h2,h3,_,_=>by simp only[List.map_nil,takeL];exact ⟨by omega,by omega,fun _=>h0,h2,h3⟩
 |x::ps,h,l,d,n,h0,h1,h2,h3,h4,h5=>by
  obtain ⟨q1,q2,q3,q4,q5⟩:=h x (by simp) l d n (by omega) h1 h2 h3 h4 h5
  simp only[List.map_cons,takeL]
  by_cases hx:(take x l d n).1=true
  ·rw[if_pos hx]
   have:=takeL_deep ps (fun y hy=>h y (by simp[hy])) _ _ n (q3 hx) (by omega) q4 q5 h4 h5
   exact ⟨this.1,by omega,this.2.2⟩
  ·rw[if_neg hx]
   exact ⟨q1,q2,(fun hh=>by cases hh),q4,q5⟩
theorem take_deep (e:Ex):∀ l d n:Int,-1<=l->l<=3000->0<=d->d<=201->1<=n->n<=201 -> -2<=(take e l d n).2.1/\(take e l d n).2.1<=l/\((take e l d n).1=true->0<=(take e l d n).2.1)/\0<=(take e l d n).2.2/\(take e l d n).2.2<=201:=by
 induction e using Ex.ind with
 |step e ih=>
  intro l d n h0 h1 h2 h3 h4 h5
  have hm:0<=max d n/\max d n<=201:=by omega
  rw[take_eq]
  split
  ·exact ⟨by show -2<=l-1;omega,by show l-1<=l;omega,(fun h=>by cases h),hm.1,hm.2⟩
  ·have:=takeL_deep e.parts ih (l-1) (max d n) (n+1) (by omega) (by omega) hm.1 hm.2 (by omega) (by omega)
   exact ⟨this.1,by omega,this.2.2⟩
end
theorem i64_small {n:Int} (h1 : -9223372036854775808<=n) (h2:n<=9223372036854775807):IntKind.i64.wrap n=n:=by
 simp only[IntKind.wrap,IntKind.signed,IntKind.bits,IntKind.min,IntKind.max]
 simp
 omega
theorem W11 {α:Type} {l:List α} {i:Nat} (h:i<l.length):l.drop i=l[i]::l.drop (i+1):=List.drop_eq_getElem_cons h
section
variable {G:GT} {H:HM}
theorem take_c (e:Ex):∀ (hf:Fit e) {H:HM} {m:Nat} {l d n:Int} {K:ARes->HM->Prop},H m=some (.cells 103 [.int l,.int d]) -> -1<=l->l<=3000->0<=d->d<=201->1<=n->n<=201 ->
  K (.ret (.bool (take e l d n).1)) (H.upd m (.cells 103 [.int (take e l d n).2.1,.int (take e l d n).2.2]))->CallF prog G 130 [.addr m 0,e.av,.int n] H K:=by
 induction e using Ex.ind with
 |step e ih=>
  intro hf H m l d n K hm hl1 hl2 hd1 hd2 hn1 hn2 hk
  have hw1:IntKind.i64.wrap (l-1)=l-1:=i64_small (by omega) (by omega)
  have hmax:(if d<n then n else d)=max d n:=by omega
  rw[take_eq] at hk
  refine A11 (fn:=f130) func130 rfl (by kernel_rfl) (Nat.le_of_ble_eq_true (by kernel_rfl)) ?_
  refine A10 [] fun N E hN hE=>?_
  simp +decide only[ZS,↓reduceIte,Nat.reduceAdd]
  refine hN _ ?_
  clear hN hE N E
  refine A10 [] fun N E hN hE=>?_
  simp +decide only[ZS,↓reduceIte,Nat.reduceAdd,hm,hw1]
  refine hN _ ?_
  clear hN hE N E
  have hm1:(H.upd m (.cells 103 [.int (l-1),.int d])) m=some (.cells 103 [.int (l-1),.int d]):=HM.upd_same _ _ _
  refine V13 [] 9 (by kernel_rfl) (by kernel_rfl) (by kernel_rfl) fun N E hN hE=>?_
  simp only[List.take,List.drop]
  simp +decide only[ZS,QS,↓reduceIte,Nat.reduceAdd,hm1,hmax]
  refine hN _ ?_
  clear hN hE N E
  try simp only[HM.upd_upd]
  have hm2:(H.upd m (.cells 103 [.int (l-1),.int (max d n)])) m=some (.cells 103 [.int (l-1),.int (max d n)]):=HM.upd_same _ _ _
  refine I10 (O11 [] (fun s'=>s'.tmps 31=.bool (decide (l-1<0)||decide (200<n))/\s'.tmps 3=.ref [.addr m 0]/\s'.tmps 4=.ref e.av.cells/\s'.tmps 5=.ref [.int n]/\s'.H=H.upd m (.cells 103 [.int (l-1),.int (max d n)])/\s'.defs=[]) (fun N E hN hE=>?_) ?_)
  ·clear hE hk
   simp +decide only[ZS,↓reduceIte,Nat.reduceAdd,hm2]
   refine V10 (fun hb=>?_) (fun hb=>?_)
   ·simp +decide only[ZS,↓reduceIte,Nat.reduceAdd,hm2,hb]
    refine hN _ ?_
    clear hN
    refine ⟨?_,?_,?_,?_,?_,?_⟩
    all_goals first|rfl|assumption|(simp +decide only[ZS,↓reduceIte,Nat.reduceAdd]<;>simp_all)
    all_goals try (intro _;omega)
   ·simp +decide only[ZS,↓reduceIte,Nat.reduceAdd,hm2,hb]
    refine hN _ ?_
    clear hN
    refine ⟨?_,?_,?_,?_,?_,?_⟩
    all_goals first|rfl|assumption|(simp +decide only[ZS,↓reduceIte,Nat.reduceAdd]<;>simp_all)
    all_goals try (intro _;omega)
  rintro ⟨tm,H',ds⟩ ⟨f31,f3,f4,f5,gH,gds⟩
  obtain rfl:H'=H.upd m (.cells 103 [.int (l-1),.int (max d n)]):=gH
  obtain rfl:ds=[]:=gds
  refine B10 31 _ f31 (B10 3 _ f3 (B10 4 _ f4 (B10 5 _ f5 ?_)))
  refine T10 rfl (fun hc=>?_) (fun hc=>?_)
  ·refine A10 [] fun N E hN hE=>?_
   simp +decide only[ZS,↓reduceIte,Nat.reduceAdd]
   refine hN _ ?_
   clear hN hE N E
   refine L10 (K10 6 rfl ?_)
   simp +decide only[ZS,↓reduceIte,Nat.reduceAdd]
   rw[if_pos (by simpa using hc)] at hk
   exact hk
  refine G10 ?_
  have hc':¬ (l-1<0\/200<n):=by simpa using hc
  rw[if_neg hc'] at hk
  have hw2:IntKind.i64.wrap (n+1)=n+1:=i64_small (by omega) (by omega)
  refine A10 [] fun N E hN hE=>?_
  simp +decide only[ZS,↓reduceIte,Nat.reduceAdd]
  have hlen:(e.parts.map take).length=e.parts.length:=List.length_map _
  refine W10 (by kernel_rfl) (each_c e hf.one _ (fun i H'=>∃ l' d',H'=H.upd m (.cells 103 [.int l',.int d'])/\takeL (e.parts.map take) (l-1) (max d n) (n+1)=takeL ((e.parts.map take).drop i) l' d' (n+1)/\0<=l'/\l'<=3000/\0<=d'/\d'<=201)
   (fun H'=>∃ l' d',H'=H.upd m (.cells 103 [.int l',.int d'])/\takeL (e.parts.map take) (l-1) (max d n) (n+1)=(false,l',d')) ⟨_,_,rfl,rfl,by omega,by omega,by omega,by omega⟩ ?_ ?_ ?_)
  ·rintro i hi H' ⟨l',d',rfl,ht,q1,q2,q3,q4⟩
   have hx:=List.getElem_mem hi
   generalize hxe:e.parts[i]=x at *
   have hdrop:(e.parts.map take).drop i=take x::(e.parts.map take).drop (i+1):=by
    rw[W11 (by rw[hlen];exact hi)]
    simp only[List.getElem_map,hxe]
   have hdeep:=take_deep x l' d' (n+1) (by omega) q2 q3 q4 (by omega) (by omega)
   have hm3:(H.upd m (.cells 103 [.int l',.int d'])) m=some (.cells 103 [.int l',.int d']):=HM.upd_same _ _ _
   refine CallF.callV (by kernel_rfl) ?_
   show CallF prog G _ [x.av,.ref [.addr m 0],.ref [.int n]] _ _
   refine A11 (fn:=f158) func158 rfl (by kernel_rfl) (Nat.le_of_ble_eq_true (by kernel_rfl)) ?_
   refine A10 [] fun N E hN hE=>?_
   simp +decide only[ZS,↓reduceIte,Nat.reduceAdd]
   refine hN _ ?_
   clear hN hE N E
   refine A10 [] fun N E hN hE=>?_
   simp +decide only[ZS,↓reduceIte,Nat.reduceAdd,hw2]
   refine W10 (by kernel_rfl) (ih x hx (hf.part hx) hm3 (by omega) q2 q3 q4 (by omega) (by omega) ?_)
   rw[M10,HM.upd_upd]
   simp +decide only[ZS,↓reduceIte,Nat.reduceAdd]
   refine hN _ ?_
   clear hN hE N E
   refine L10 (K10 4 rfl ?_)
   simp +decide only[ZS,↓reduceIte,Nat.reduceAdd]
   by_cases hb:(take x l' d' (n+1)).1=true
   ·refine .inl ⟨by rw[hb],_,_,rfl,?_,hdeep.2.2.1 hb,by omega,hdeep.2.2.2.1,hdeep.2.2.2.2⟩
    rw[ht,hdrop]
    simp only[takeL,hb,if_true]
   ·refine .inr ⟨by rw[Bool.eq_false_iff.2 hb],_,_,rfl,?_⟩
    rw[ht,hdrop]
    simp only[takeL,hb,if_false,Bool.false_eq_true]
  ·rintro H' ⟨l',d',rfl,ht,_⟩
   rw[List.drop_of_length_le (by rw[hlen];exact Nat.le_refl _)] at ht
   rw[M10]
   simp +decide only[ZS,↓reduceIte,Nat.reduceAdd]
   refine hN _ ?_
   clear hN hE N E
   refine L10 (K10 6 rfl ?_)
   simp +decide only[ZS,↓reduceIte,Nat.reduceAdd]
   rw[ht] at hk
   exact hk
  ·rintro H' ⟨l',d',rfl,ht⟩
   rw[M10]
   simp +decide only[ZS,↓reduceIte,Nat.reduceAdd]
   refine hN _ ?_
   clear hN hE N E
   refine L10 (K10 6 rfl ?_)
   simp +decide only[ZS,↓reduceIte,Nat.reduceAdd]
   rw[ht] at hk
   exact hk
theorem nodes_c (hG:Tabs2 G) (e:Ex):∀ (hf:Fit e) {H:HM},PureF prog G 131 [e.av] H (.int (checked e)):=by
 induction e using Ex.ind with
 |step e ih=>
  intro hf H
  refine P10 (fn:=f131) func131 rfl (by kernel_rfl) (by kernel_rfl) (Nat.le_of_ble_eq_true (by kernel_rfl)) fun K hk=>?_
  rw[checked_eq] at hk
  refine A10 [] fun N E hN hE=>?_
  simp +decide only[ZS,↓reduceIte,Nat.reduceAdd]
  refine hN _ ?_
  clear hN hE N E
  refine A10 [] fun N E hN hE=>?_
  simp +decide only[ZS,↓reduceIte,Nat.reduceAdd]
  refine D10 (pNode_c hG e hf.one) ?_
  simp +decide only[ZS,↓reduceIte,Nat.reduceAdd]
  refine F10 fun b hb=>?_
  have hb0:(H.upd b (.cells 28 [.int 0])) b=some (.cells 28 [.int 0]):=HM.upd_same _ _ _
  simp +decide only[ZS,↓reduceIte,Nat.reduceAdd,hb0]
  refine hN _ ?_
  clear hN hE N E
  try simp only[HM.upd_upd,splice_def,List.take,List.drop,List.nil_append,List.append_nil,List.length_cons,List.length_nil,Nat.zero_add]
  have hbs:∀ x:Int,(H.upd b (.cells 28 [.int x])) b=some (.cells 28 [.int x]):=fun x=>HM.upd_same _ _ _
  refine I10 (A10 [] fun N E hN hE=>?_)
  simp +decide only[ZS,↓reduceIte,Nat.reduceAdd,hbs]
  refine hN _ ?_
  clear hN hE N E
  refine T10 rfl (fun hc=>?_) (fun hc=>?_)
  ·have h0:nodeErr e=0:=by simpa using hc
   rw[if_pos h0] at hk
   rw[h0]
   refine R10 [] fun N E hN hE=>?_
   simp +decide only[ZS,↓reduceIte,Nat.reduceAdd,hbs]
   have hlen:(e.parts.map checked).length=e.parts.length:=List.length_map _
   have fin:∀ (x:Int) (tm:Nat->AV),firstErr (e.parts.map checked)=x->tm 3=.addr b 0->VW prog G 12 none (.seq (.region 4 #[⟨some 11,.load 28 (.tmp 3),28, "check.go:179",#[],none⟩,⟨some 2,.assign (.tmp 11),28, "check.go:179",#[⟨0,.data⟩,⟨0,.phase⟩],none⟩] false) .ret) (Fin prog G f131 K) ⟨tm,H.upd b (.cells 28 [.int x]),[]⟩:=by
    intro x tm hx h3
    refine A10 [] fun N E hN hE=>?_
    simp +decide only[ZS,↓reduceIte,Nat.reduceAdd,hbs,h3]
    refine hN _ ?_
    clear hN hE N E
    refine L10 (Fin_retD 2 rfl (Drop.upd hb) ?_)
    simp +decide only[ZS,↓reduceIte,Nat.reduceAdd]
    rw[hx] at hk;exact hk
   refine W10 (by kernel_rfl) (each_c e hf.one _ (fun i H'=>H'=H.upd b (.cells 28 [.int 0])/\firstErr (e.parts.map checked)=firstErr ((e.parts.map checked).drop i))
    (fun H'=>H'=H.upd b (.cells 28 [.int (firstErr (e.parts.map checked))])) ⟨rfl,rfl⟩ ?_ ?_ ?_)
   ·rintro i hi H' ⟨rfl,ht⟩
    have hx:=List.getElem_mem hi
    generalize hxe:e.parts[i]=x at *
    have hdrop:(e.parts.map checked).drop i=checked x::(e.parts.map checked).drop (i+1):=by
     rw[W11 (by rw[hlen];exact hi)]
     simp only[List.getElem_map,hxe]
    rw[hdrop] at ht
    refine CallF.callV (by kernel_rfl) ?_
    show CallF prog G _ [x.av,.addr b 0] _ _
    refine A11 (fn:=f160) func160 rfl (by kernel_rfl) (Nat.le_of_ble_eq_true (by kernel_rfl)) ?_
    refine A10 [] fun N E hN hE=>?_
    simp +decide only[ZS,↓reduceIte,Nat.reduceAdd]
    refine hN _ ?_
    clear hN hE N E
    refine A10 [] fun N E hN hE=>?_
    simp +decide only[ZS,↓reduceIte,Nat.reduceAdd]
    refine D10 (ih x hx (hf.part hx)) ?_
    simp +decide only[ZS,↓reduceIte,Nat.reduceAdd,hbs]
    refine hN _ ?_
    clear hN hE N E
    try simp only[HM.upd_upd,splice_def,List.take,List.drop,List.nil_append,List.append_nil,List.length_cons,List.length_nil,Nat.zero_add]
    refine A10 [] fun N E hN hE=>?_
    simp +decide only[ZS,↓reduceIte,Nat.reduceAdd,hbs]
    refine hN _ ?_
    clear hN hE N E
    refine L10 (K10 3 rfl ?_)
    simp +decide only[ZS,↓reduceIte,Nat.reduceAdd]
    by_cases h1:checked x=0
    ·refine .inl ⟨by rw[h1];rfl,by rw[h1],?_⟩
     rw[ht];simp only[firstErr,h1,if_true]
    ·refine .inr ⟨by rw[decide_eq_false h1],?_⟩
     rw[ht];simp only[firstErr,h1,if_false]
   ·rintro H' ⟨rfl,ht⟩
    rw[List.drop_of_length_le (by rw[hlen];exact Nat.le_refl _)] at ht
    rw[M10]
    simp +decide only[ZS,↓reduceIte,Nat.reduceAdd]
    refine hN _ ?_
    clear hN hE N E
    exact fin 0 _ ht rfl
   ·rintro H' rfl
    rw[M10]
    simp +decide only[ZS,↓reduceIte,Nat.reduceAdd]
    refine hN _ ?_
    clear hN hE N E
    exact fin _ _ rfl rfl
  ·have h0:nodeErr e≠0:=by simpa using hc
   rw[if_neg h0] at hk
   refine G10 ?_
   refine A10 [] fun N E hN hE=>?_
   simp +decide only[ZS,↓reduceIte,Nat.reduceAdd,hbs]
   refine hN _ ?_
   clear hN hE N E
   refine L10 (Fin_retD 2 rfl (Drop.upd hb) ?_)
   simp +decide only[ZS,↓reduceIte,Nat.reduceAdd]
   exact hk
theorem vresults_cell {P:Program} {fn:Func} {tm:Nat->AV} {H:HM} {a t u b:Nat} {et:Nat} {cs:List AV} {ti:TI} (h:fn.results = #[.cell a t,.tmp u]) (ht:tiOf P t=some ti) (hag:ti.agg=true) (hl:ti.size=cs.length) (ha:tm a=.addr b 0) (hb:H b=some (.cells et cs)) :
  vresults P fn H tm=some (.tup [.agg cs,tm u]):=by
 simp[vresults,vresL,vres,h,ht,ha,cellsAt,hb,ldv,hag,hl]
theorem measured_c (hG:Tabs2 G) (e:Ex) (hf:Fit e):PureF prog G 94 [e.av] H (.tup [.agg [.int (take e 3000 0 1).2.1,.int (take e 3000 0 1).2.2],.int (check e)]):=by
 have hck:check e=if (take e 3000 0 1).1=true then checked e else 3:=by
  unfold check
  have:=(take_left e 3000 0 1 (by decide) (by decide) (by decide)).1
  rw[this,show (201:Int)-1=200 by decide]
  by_cases h:left e 3000 200<0
  ·rw[if_pos h,if_neg (by simp;omega)]
  ·rw[if_neg h,if_pos (by simp;omega)]
 refine P10 (fn:=f94) func94 rfl (by kernel_rfl) (by kernel_rfl) (Nat.le_of_ble_eq_true (by kernel_rfl)) fun K hk=>?_
 rw[hck] at hk
 generalize ht:take e 3000 0 1=t at *
 obtain ⟨tb,tl,td⟩:=t
 simp only at hk
 refine A10 [] fun N E hN hE=>?_
 simp +decide only[ZS,↓reduceIte,Nat.reduceAdd]
 refine F10 fun b hb=>?_
 simp +decide only[ZS,↓reduceIte,Nat.reduceAdd]
 refine hN _ ?_
 clear hN hE N E
 refine A10 [] fun N E hN hE=>?_
 simp +decide only[ZS,↓reduceIte,Nat.reduceAdd]
 refine F10 fun c hc=>?_
 obtain ⟨hcb,hc0⟩:=G11 hc
 have hcs:((H.upd b (.cells 103 [.int 0,.int 0])).upd c (.cells 103 [.int 0,.int 0])) c=some (.cells 103 [.int 0,.int 0]):=HM.upd_same _ _ _
 simp +decide only[ZS,↓reduceIte,Nat.reduceAdd,hcs]
 refine hN _ ?_
 clear hN hE N E
 try simp only[HM.upd_upd,splice_def,List.take,List.drop,List.nil_append,List.append_nil,List.length_cons,List.length_nil,Nat.zero_add,Nat.reduceAdd]
 refine I10 (A10 [] fun N E hN hE=>?_)
 simp +decide only[ZS,↓reduceIte,Nat.reduceAdd]
 refine W10 (by kernel_rfl) (take_c e hf (HM.upd_same _ _ _) (by decide) (by decide) (by decide) (by decide) (by decide) (by decide) ?_)
 rw[M10,ht,HM.upd_upd]
 simp +decide only[ZS,↓reduceIte,Nat.reduceAdd]
 refine hN _ ?_
 clear hN hE N E
 have hb1:((H.upd b (.cells 103 [.int 0,.int 0])).upd c (.cells 103 [.int tl,.int td])) b=some (.cells 103 [.int 0,.int 0]):=by rw[HM.upd_ne _ _ (Ne.symm hcb),HM.upd_same]
 have hc1:((H.upd b (.cells 103 [.int 0,.int 0])).upd c (.cells 103 [.int tl,.int td])) c=some (.cells 103 [.int tl,.int td]):=HM.upd_same _ _ _
 have hdr:∀ o:AObj,Drop (((H.upd b (.cells 103 [.int 0,.int 0])).upd c (.cells 103 [.int tl,.int td])).upd b o) H:=fun o k=>by
  by_cases h1:k=b
  ·subst h1;exact .inl hb
  ·rw[HM.upd_ne _ _ h1]
   by_cases h2:k=c
   ·subst h2;exact .inl hc0
   ·rw[HM.upd_ne _ _ h2,HM.upd_ne _ _ h1];exact .inr rfl
 refine T10 rfl (fun hc=>?_) (fun hc=>?_)
 ·have h0:tb=false:=by simpa using hc
  subst h0
  refine A10 [] fun N E hN hE=>?_
  simp +decide only[ZS,↓reduceIte,Nat.reduceAdd,hb1,hc1]
  refine hN _ ?_
  clear hN hE N E
  try simp only[splice_def,List.take,List.drop,List.nil_append,List.append_nil,List.length_cons,List.length_nil,Nat.zero_add,Nat.reduceAdd]
  refine L10 ⟨fun d hd=>(by cases hd),_,_,H,vresults_cell (a:=2) (t:=103) (u:=3) rfl ti103 rfl rfl rfl (HM.upd_same _ _ _),hdr _,View.of_drop (hdr _) _,hk⟩
 ·have h0:tb=true:=by simpa using hc
  subst h0
  refine G10 ?_
  refine V13 [] 3 (by kernel_rfl) (by kernel_rfl) (by kernel_rfl) fun N E hN hE=>?_
  simp only[List.take,List.drop]
  simp +decide only[ZS,QS,↓reduceIte,Nat.reduceAdd,hc1]
  refine F11 (nodes_c hG e hf) ?_
  simp +decide only[ZS,QS,↓reduceIte,Nat.reduceAdd,hc1]
  simp +decide only[ZS,↓reduceIte,Nat.reduceAdd,hb1,hc1]
  refine hN _ ?_
  clear hN hE N E
  try simp only[splice_def,List.take,List.drop,List.nil_append,List.append_nil,List.length_cons,List.length_nil,Nat.zero_add,Nat.reduceAdd]
  refine L10 ⟨fun d hd=>(by cases hd),_,_,H,vresults_cell (a:=2) (t:=103) (u:=3) rfl ti103 rfl rfl rfl (HM.upd_same _ _ _),hdr _,View.of_drop (hdr _) _,hk⟩
theorem pCheck_c (hG:Tabs2 G) (e:Ex) (hf:Fit e):PureF prog G 55 [e.av] H (.int (check e)):=by
 refine P10 (fn:=f55) func55 rfl (by kernel_rfl) (by kernel_rfl) (Nat.le_of_ble_eq_true (by kernel_rfl)) fun K hk=>?_
 refine A10 [] fun N E hN hE=>?_
 simp +decide only[ZS,↓reduceIte,Nat.reduceAdd]
 refine hN _ ?_
 clear hN hE N E
 refine A10 [] fun N E hN hE=>?_
 simp +decide only[ZS,↓reduceIte,Nat.reduceAdd]
 refine D10 (measured_c hG e hf) ?_
 simp +decide only[ZS,↓reduceIte,Nat.reduceAdd]
 refine F10 fun b hb=>?_
 have hbs:(H.upd b (.cells 103 [.int 0,.int 0])) b=some (.cells 103 [.int 0,.int 0]):=HM.upd_same _ _ _
 simp +decide only[ZS,↓reduceIte,Nat.reduceAdd,hbs]
 refine hN _ ?_
 clear hN hE N E
 refine A10 [] fun N E hN hE=>?_
 simp +decide only[ZS,↓reduceIte,Nat.reduceAdd]
 refine hN _ ?_
 clear hN hE N E
 refine L10 (Fin_retD (H1:=H) 2 rfl (Drop.upd hb) ?_)
 simp +decide only[ZS,↓reduceIte,Nat.reduceAdd]
 exact hk
end
end Go.V
