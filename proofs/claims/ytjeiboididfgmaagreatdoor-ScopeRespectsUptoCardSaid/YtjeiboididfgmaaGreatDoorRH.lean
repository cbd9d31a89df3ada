/- The program's scope: names, chains, parts. No condition. The program's scope: parts, walks, free names. No condition. The program's scope: walks, free names. No condition. What the program's scope and the reference call free is the same: plain. No condition. Free, Handlers, Closed; the law ScopeFrees over abstract states. No condition. -/
import Derived.Test.YtjeiboididfgmaaGreatDoorRG
import Derived.Test.YtjeiboididfgmaaGreatDoorRE
import Derived.Test.YtjeiboididfgmaaGreatDoorRF
import Derived.Test.YtjeiboididfgmaaGreatDoorRFy
set_option linter.unusedVariables false
set_option linter.unusedSimpArgs false
set_option linter.defProp false
set_option maxRecDepth 100000
namespace Go.V
open Go Go.Proofs.Tryz
theorem I13 {P:Program} {fn:Func} {tm:Nat->AV} {H:HM} {a t b:Nat} {et:Nat} {cs:List AV} {ti:TI} (h:fn.results = #[.cell a t]) (ht:tiOf P t=some ti) (hag:ti.agg=true) (hl:ti.size=cs.length) (ha:tm a=.addr b 0) (hb:H b=some (.cells et cs)) :
  vresults P fn H tm=some (.agg cs):=by
 simp[vresults,vresL,vres,h,ht,ha,cellsAt,hb,ldv,hag,hl]
theorem vresults_three {P:Program} {fn:Func} {tm:Nat->AV} {H:HM} (t u v:Nat) (h:fn.results = #[.tmp t,.tmp u,.tmp v]):vresults P fn H tm=some (.tup [tm t,tm u,tm v]):=by
 simp[vresults,vresL,vres,h]
def own1 (e:Ex) (i:Nat):Bool:=decide (e.k=4)||(decide (e.k=6)&&decide ((i:Int)=1))||(decide (e.k=17)&&decide ((i:Int)=2))
def ownV (e:Ex) (i:Nat):List ByteArray:=if own1 e i then e.names.take 1 else if e.k=7 then e.names.take (2-i) else []
def ownH (e:Ex) (i:Nat):List ByteArray:=if e.k=15 then e.names else []
theorem one_name {e:Ex} (h:nodeErr e=0) (hk:e.k=4\/e.k=6\/e.k=17):1<=e.names.length:=by
 obtain ⟨x,hx,_,_,hm,_,_⟩:=node_shape h
 rcases hk with h7|h7|h7
 ·rw[h7] at hx
  have:shapes[(4:Int).toNat]?=some ⟨0,0,1,1,false,0,0⟩:=rfl
  rw[this] at hx;cases hx
  simp[nodeMany,h7] at hm
  omega
 ·rw[h7] at hx
  have:shapes[(6:Int).toNat]?=some ⟨0,0,1,2,false,0,0⟩:=rfl
  rw[this] at hx;cases hx
  simp[nodeMany,h7] at hm
  omega
 ·rw[h7] at hx
  have:shapes[(17:Int).toNat]?=some ⟨0,0,1,3,false,0,0⟩:=rfl
  rw[this] at hx;cases hx
  simp[nodeMany,h7] at hm
  omega
section
variable {G:GT} {H:HM}
def OwnI (H:HM) (b:Nat) (e:Ex) (i:Nat) (c:Bool) (s':AS):Prop:=s'.tmps 5=.bool c/\s'.tmps 1=.int i/\s'.tmps 2=.ref e.av.cells/\s'.tmps 4=.addr b 0/\s'.H=H.upd b (.cells 120 [.nil0,.nil0])/\s'.defs=[]
theorem OwnI.know {b:Nat} {e:Ex} {i:Nat} {c:Bool} {P:Program} {n:Nat} {r:Option Nat} {Q:AX->AS->Prop} {y:Code} {s':AS} (h:OwnI H b e i c s')
  (hw:∀ tm,VW P G n r y Q ⟨upd (upd (upd (upd tm 4 (.addr b 0)) 2 (.ref e.av.cells)) 1 (.int i)) 5 (.bool c),H.upd b (.cells 120 [.nil0,.nil0]),[]⟩):VW P G n r y Q s':=by
 obtain ⟨tm,H',ds⟩:=s'
 obtain ⟨f5,f1,f2,f4,gH,gds⟩:=h
 obtain rfl:H'=H.upd b (.cells 120 [.nil0,.nil0]):=gH
 obtain rfl:ds=[]:=gds
 exact B10 4 _ f4 (B10 2 _ f2 (B10 1 _ f1 (B10 5 _ f5 (hw _)) ) )
theorem own_c (e:Ex) (i:Nat) (hn:nodeErr e=0) (hi:i<e.l.length):PureF prog G 126 [e.av,.int i] H (.agg [.list (strs (ownV e i)),.list (strs (ownH e i))]):=by
 refine P10 (fn:=f126) func126 rfl (by kernel_rfl) (by kernel_rfl) (Nat.le_of_ble_eq_true (by kernel_rfl)) fun K hk=>?_
 refine A10 [] fun N E hN hE=>?_
 simp +decide only[ZS,↓reduceIte]
 refine F10 fun b hb=>?_
 simp +decide only[ZS,↓reduceIte]
 refine hN _ ?_
 clear hN hE N E
 have hbs:∀ cs:List AV,(H.upd b (.cells 120 cs)) b=some (.cells 120 cs):=fun cs=>HM.upd_same _ _ _
 have fin:∀ (tm:Nat->AV) (va ha:AV),tm 4=.addr b 0->ViewL G (H.upd b (.cells 120 [va,ha])) H [va,ha] [.list (strs (ownV e i)),.list (strs (ownH e i))]->Fin prog G f126 K .ret ⟨tm,H.upd b (.cells 120 [va,ha]),[]⟩:=fun tm va ha h4 hv=>
  ⟨fun d hd=>(by cases hd),_,_,H,I13 (a:=4) (t:=120) rfl ti120 rfl rfl h4 (hbs _),Drop.upd hb,View.agg hv,hk⟩
 have v0:∀ {cs:List AV} (x:AV),View G (H.upd b (.cells 120 cs)) H x x:=fun x=>View.of_drop (Drop.upd hb) x
 have n0:∀ {cs:List AV},View G (H.upd b (.cells 120 cs)) H .nil0 (.list []):=View.nil0 (Drop.upd hb)
 refine I10 (J10 ?_)
 refine VW_seqC (OwnI H b e i (own1 e i)) ?_ ?_
 ·refine A10 [] fun N E hN hE=>?_
  simp +decide only[ZS,↓reduceIte]
  refine hN _ ?_
  clear hN hE N E
  refine T10 rfl (fun hc=>?_) (fun hc=>?_)
  ·refine G10 ⟨?_,rfl,by rw[C10];rfl,rfl,rfl,rfl⟩
   simp +decide only[ZS,↓reduceIte]
   rw[own1,hc];rfl
  have h4:decide (e.k=4)=false:=hc
  refine O11 [] (OwnI H b e i (decide (e.k=6)&&decide ((i:Int)=1))) (fun N E hN hE=>?_) ?_
  ·clear hE hk
   simp +decide only[ZS,↓reduceIte]
   refine V10 (fun hb6=>?_) (fun hb6=>?_)
   ·simp +decide only[ZS,↓reduceIte,hb6]
    refine hN _ ⟨?_,rfl,by rw[C10];rfl,rfl,rfl,rfl⟩
    simp +decide only[ZS,↓reduceIte]
    rw[hb6];rfl
   ·simp +decide only[ZS,↓reduceIte,hb6]
    refine hN _ ⟨?_,rfl,by rw[C10];rfl,rfl,rfl,rfl⟩
    simp +decide only[ZS,↓reduceIte]
    rw[hb6];rfl
  intro s' hs'
  refine hs'.know fun tm=>?_
  rw[C10]
  refine T10 rfl (fun hc=>?_) (fun hc=>?_)
  ·refine G10 ⟨?_,rfl,by rw[C10];rfl,rfl,rfl,rfl⟩
   simp +decide only[ZS,↓reduceIte]
   rw[own1,hc,h4];rfl
  have h6:(decide (e.k=6)&&decide ((i:Int)=1))=false:=hc
  refine VW_regEC [] (OwnI H b e i (decide (e.k=17)&&decide ((i:Int)=2))) (fun N E hN hE=>?_) ?_
  ·clear hE hk
   simp +decide only[ZS,↓reduceIte]
   refine V10 (fun hb6=>?_) (fun hb6=>?_)
   ·simp +decide only[ZS,↓reduceIte,hb6]
    refine hN _ ⟨?_,rfl,by rw[C10];rfl,rfl,rfl,rfl⟩
    simp +decide only[ZS,↓reduceIte]
    rw[hb6];rfl
   ·simp +decide only[ZS,↓reduceIte,hb6]
    refine hN _ ⟨?_,rfl,by rw[C10];rfl,rfl,rfl,rfl⟩
    simp +decide only[ZS,↓reduceIte]
    rw[hb6];rfl
  intro s' hs'
  obtain ⟨f5,fr⟩:=hs'
  refine ⟨?_,fr⟩
  rw[f5,own1,h4,h6];rfl
 intro s' hs'
 refine hs'.know fun tm=>?_
 rw[C10]
 refine T10 rfl (fun hc=>?_) (fun hc=>?_)
 ·have hnm:1<=e.names.length:=by
   refine one_name hn ?_
   simp only[own1,Bool.or_eq_true,Bool.and_eq_true,decide_eq_true_eq] at hc
   rcases hc with (h|h)|h
   ·exact .inl h
   ·exact .inr (.inl h.1)
   ·exact .inr (.inr h.1)
  have hk15:e.k≠15:=by
   simp only[own1,Bool.or_eq_true,Bool.and_eq_true,decide_eq_true_eq] at hc
   omega
  have hle:((1:Int)<=(e.names.length:Int))=True:=eq_true (by omega)
  have ht1:Int.toNat 1=1:=rfl
  refine A10 [] fun N E hN hE=>?_
  simp +decide only[ZS,↓reduceIte,hbs,O10,strs_szc,hle,ht1,strs_take]
  refine hN _ ?_
  clear hN hE N E
  refine L10 (fin _ _ _ rfl ?_)
  rw[ownV,if_pos hc,ownH,if_neg hk15]
  exact .cons (v0 _) (.cons n0 .nil)
 have h1:own1 e i=false:=by simpa using hc
 refine A10 [] fun N E hN hE=>?_
 simp +decide only[ZS,↓reduceIte]
 refine hN _ ?_
 clear hN hE N E
 refine T10 rfl (fun hc=>?_) (fun hc=>?_)
 ·have h7:e.k=7:=by simpa using hc
  obtain ⟨q1,q2⟩:=rec_shape hn h7
  have hw:IntKind.i64.wrap ((2:Int)-i)=2-i:=i64_small (by omega) (by omega)
  have hle:((0:Int)<=2-(i:Int)/\(2:Int)-(i:Int)<=(e.names.length:Int))=True:=eq_true (by omega)
  have ht1:Int.toNat (2-(i:Int))=2-i:=by omega
  refine A10 [] fun N E hN hE=>?_
  simp +decide only[ZS,↓reduceIte,hbs,O10,strs_szc,hw,hle,ht1,strs_take]
  refine hN _ ?_
  clear hN hE N E
  refine L10 (fin _ _ _ rfl ?_)
  rw[ownV,if_neg (by rw[h1];decide),if_pos h7,ownH,if_neg (by omega)]
  exact .cons (v0 _) (.cons n0 .nil)
 have h7:e.k≠7:=by simpa using hc
 refine A10 [] fun N E hN hE=>?_
 simp +decide only[ZS,↓reduceIte]
 refine hN _ ?_
 clear hN hE N E
 refine T10 rfl (fun hc=>?_) (fun hc=>?_)
 ·have h15:e.k=15:=by simpa using hc
  refine A10 [] fun N E hN hE=>?_
  simp +decide only[ZS,↓reduceIte,hbs]
  refine hN _ ?_
  clear hN hE N E
  refine L10 (fin _ _ _ rfl ?_)
  rw[ownV,if_neg (by rw[h1];decide),if_neg h7,ownH,if_pos h15]
  exact .cons n0 (.cons (v0 _) .nil)
 have h15:e.k≠15:=by simpa using hc
 refine G10 ?_
 refine A10 [] fun N E hN hE=>?_
 simp +decide only[ZS,↓reduceIte,hbs]
 refine hN _ ?_
 clear hN hE N E
 refine L10 (fin _ _ _ rfl ?_)
 rw[ownV,if_neg (by rw[h1];decide),if_neg h7,ownH,if_neg h15]
 exact .cons n0 (.cons n0 .nil)
theorem of_c (v h:List ByteArray) (b:Bool):PureF prog G 135 [.agg [.list (strs v),.list (strs h)],.bool b] H (.list (strs (if b then h else v))):=by
 refine P10 (fn:=f135) func135 rfl (by kernel_rfl) (by kernel_rfl) (Nat.le_of_ble_eq_true (by kernel_rfl)) fun K hk=>?_
 refine A10 [] fun N E hN hE=>?_
 simp +decide only[ZS,↓reduceIte]
 refine hN _ ?_
 clear hN hE N E
 refine I10 (A10 [] fun N E hN hE=>?_)
 simp +decide only[ZS,↓reduceIte]
 refine hN _ ?_
 clear hN hE N E
 refine T10 rfl (fun hc=>?_) (fun hc=>?_)
 ·refine A10 [] fun N E hN hE=>?_
  simp +decide only[ZS,↓reduceIte]
  refine hN _ ?_
  clear hN hE N E
  refine L10 (K10 4 rfl ?_)
  simp +decide only[ZS,↓reduceIte]
  rw[hc] at hk;exact hk
 ·refine G10 ?_
  refine A10 [] fun N E hN hE=>?_
  simp +decide only[ZS,↓reduceIte]
  refine hN _ ?_
  clear hN hE N E
  refine L10 (K10 4 rfl ?_)
  simp +decide only[ZS,↓reduceIte]
  rw[hc] at hk;exact hk
abbrev Ch:=List (List ByteArray×List ByteArray)
def chV:Ch->AV
 |[]=>.val (.pointer none)
 |c::ch=>.ref [.list (strs c.1),.list (strs c.2),chV ch]
def hasN:Ch->ByteArray->Bool->Bool
 |[],_,_=>false
 |c::ch,s,h=>if has (if h then c.2 else c.1) s then true else hasN ch s h
def ChOk (ch:Ch):Prop:=∀ c∈ch,c.1.length<=lim/\c.2.length<=lim
theorem hasN_c (ch:Ch) (s:ByteArray) (h:Bool) (hok:ChOk ch):PureF prog G 100 [chV ch,.str s,.bool h] H (.bool (hasN ch s h)):=by
 refine P10 (fn:=f100) func100 rfl (by kernel_rfl) (by kernel_rfl) (Nat.le_of_ble_eq_true (by kernel_rfl)) fun K hk=>?_
 refine A10 [] fun N E hN hE=>?_
 simp +decide only[ZS,↓reduceIte]
 refine hN _ ?_
 clear hN hE N E
 refine I10 (J10 ?_)
 refine C11 (fun (ch':Ch) s'=>ChOk ch'/\hasN ch s h=hasN ch' s h/\s'.tmps 0=chV ch'/\s'.tmps 1=.str s/\s'.tmps 2=.bool h/\s'.H=H/\s'.defs=[]) List.length ch ?_ ?_
 ·exact ⟨hok,rfl,rfl,rfl,rfl,rfl,rfl⟩
 rintro ch' ⟨tm,H',ds⟩ ⟨hok',hh,h0,h1,h2,hH,hds⟩
 obtain rfl:H'=H:=hH
 obtain rfl:ds=[]:=hds
 rw[hh] at hk
 refine B10 1 _ h1 (B10 2 _ h2 ?_)
 cases ch' with
 |nil=>
  refine B10 0 (.val (.pointer none)) h0 ?_
  refine I10 (A10 [] fun N E hN hE=>?_)
  simp +decide only[ZS,↓reduceIte]
  refine hN _ ?_
  clear hN hE N E
  refine T10 rfl (fun hc=>?_) (fun hc=>?_)
  ·cases hc
  refine L11 ?_
  refine A10 [] fun N E hN hE=>?_
  simp +decide only[ZS,↓reduceIte]
  refine hN _ ?_
  clear hN hE N E
  refine L10 (K10 6 rfl ?_)
  simp +decide only[ZS,↓reduceIte]
  exact hk
 |cons c ch'=>
  obtain ⟨cv,cw⟩:=c
  refine B10 0 (.ref [.list (strs cv),.list (strs cw),chV ch']) h0 ?_
  have hc1:=hok' _ (List.mem_cons_self)
  simp only at hc1
  refine I10 (A10 [] fun N E hN hE=>?_)
  simp +decide only[ZS,↓reduceIte]
  refine hN _ ?_
  clear hN hE N E
  refine T10 rfl (fun hc=>?_) (fun hc=>?_)
  ·refine G10 ?_
   refine I10 (J10 ?_)
   refine A10 [] fun N E hN hE=>?_
   simp +decide only[ZS,↓reduceIte]
   refine D10 (of_c cv cw h) ?_
   simp +decide only[ZS,↓reduceIte]
   refine D10 (X12 _ s (by split<;>simp[hc1])) ?_
   simp +decide only[ZS,↓reduceIte]
   refine hN _ ?_
   clear hN hE N E
   refine T10 rfl (fun hc=>?_) (fun hc=>?_)
   ·refine A10 [] fun N E hN hE=>?_
    simp +decide only[ZS,↓reduceIte]
    refine hN _ ?_
    clear hN hE N E
    refine L10 (K10 6 rfl ?_)
    simp +decide only[ZS,↓reduceIte]
    rw[hasN,if_pos hc] at hk;exact hk
   ·refine G10 ?_
    rw[hasN,if_neg (by rw[hc];decide)] at hk
    refine R10 [] fun N E hN hE=>?_
    simp +decide only[ZS,↓reduceIte]
    refine hN _ ?_
    clear hN hE N E
    refine ⟨ch',⟨fun c hc=>hok' c (by simp[hc]),?_,rfl,rfl,rfl,rfl,rfl⟩,by simp⟩
    rw[hh,hasN,if_neg (by rw[hc];decide)]
  ·cases hc
def occ (e:Ex):ByteArray×Bool×Bool:=if e.k=0\/e.k=18\/e.k=19 then (e.s,false,true) else if e.k=13 then (e.s,true,true) else (emp,false,false)
theorem occ_c (e:Ex):PureF prog G 99 [e.av] H (.tup [.str (occ e).1,.bool (occ e).2.1,.bool (occ e).2.2]):=by
 refine P10 (fn:=f99) func99 rfl (by kernel_rfl) (by kernel_rfl) (Nat.le_of_ble_eq_true (by kernel_rfl)) fun K hk=>?_
 refine A10 [] fun N E hN hE=>?_
 simp +decide only[ZS,↓reduceIte]
 refine hN _ ?_
 clear hN hE N E
 refine I10 (A10 [] fun N E hN hE=>?_)
 simp +decide only[ZS,↓reduceIte]
 refine hN _ ?_
 clear hN hE N E
 refine J10 ?_
 refine VW_seqC (fun s'=>s'.tmps 7=.bool (decide (e.k=0)||decide (e.k=18)||decide (e.k=19))/\s'.tmps 1=.ref e.av.cells/\s'.tmps 6=.int e.k/\s'.H=H/\s'.defs=[]) ?_ ?_
 ·refine A10 [] fun N E hN hE=>?_
  simp +decide only[ZS,↓reduceIte]
  refine hN _ ?_
  clear hN hE N E
  refine T10 rfl (fun hc=>?_) (fun hc=>?_)
  ·refine G10 ⟨?_,by rw[C10];rfl,rfl,rfl,rfl⟩
   simp +decide only[ZS,↓reduceIte]
   rw[hc];rfl
  have h0:decide (e.k=0)=false:=hc
  refine A10 [] fun N E hN hE=>?_
  simp +decide only[ZS,↓reduceIte]
  refine hN _ ?_
  clear hN hE N E
  refine T10 rfl (fun hc=>?_) (fun hc=>?_)
  ·refine G10 ⟨?_,by rw[C10];rfl,rfl,rfl,rfl⟩
   simp +decide only[ZS,↓reduceIte]
   rw[hc,h0];rfl
  have h1:decide (e.k=18)=false:=hc
  refine R10 [] fun N E hN hE=>?_
  simp +decide only[ZS,↓reduceIte]
  refine hN _ ?_
  clear hN hE N E
  refine ⟨?_,by rw[C10];rfl,rfl,rfl,rfl⟩
  simp +decide only[ZS,↓reduceIte]
  rw[h0,h1];rfl
 rintro ⟨tm,H',ds⟩ ⟨f7,f1,f6,gH,gds⟩
 obtain rfl:H'=H:=gH
 obtain rfl:ds=[]:=gds
 rw[C10] at f1
 refine B10 7 _ f7 (B10 1 _ f1 (B10 6 _ f6 ?_))
 have fin:∀ (tm:Nat->AV),Fin prog G f99 K .ret ⟨tm,H',[]⟩=Fin prog G f99 K .ret ⟨tm,H',[]⟩:=fun _=>rfl
 refine T10 rfl (fun hc=>?_) (fun hc=>?_)
 ·refine A10 [] fun N E hN hE=>?_
  simp +decide only[ZS,↓reduceIte]
  refine hN _ ?_
  clear hN hE N E
  refine L10 (Fin_ret (vresults_three 2 3 4 rfl) ?_)
  simp +decide only[ZS,↓reduceIte]
  have:e.k=0\/e.k=18\/e.k=19:=by simpa[or_assoc] using hc
  rw[occ,if_pos this] at hk;exact hk
 have hn0:¬ (e.k=0\/e.k=18\/e.k=19):=by
  simp at hc;omega
 refine A10 [] fun N E hN hE=>?_
 simp +decide only[ZS,↓reduceIte]
 refine hN _ ?_
 clear hN hE N E
 refine T10 rfl (fun hc=>?_) (fun hc=>?_)
 ·refine A10 [] fun N E hN hE=>?_
  simp +decide only[ZS,↓reduceIte]
  refine hN _ ?_
  clear hN hE N E
  refine L10 (Fin_ret (vresults_three 2 3 4 rfl) ?_)
  simp +decide only[ZS,↓reduceIte]
  have h13:e.k=13:=by simpa using hc
  rw[occ,if_neg hn0,if_pos h13] at hk;exact hk
 refine G10 ?_
 refine A10 [] fun N E hN hE=>?_
 simp +decide only[ZS,↓reduceIte]
 refine hN _ ?_
 clear hN hE N E
 refine L10 (Fin_ret (vresults_three 2 3 4 rfl) ?_)
 simp +decide only[ZS,↓reduceIte]
 have h13:¬ e.k=13:=by simpa using hc
 rw[occ,if_neg hn0,if_neg h13] at hk;exact hk
end
def kv (l:List ByteArray):List (AV×AV):=l.map fun s=>(.str s,.bool true)
def addK (l:List ByteArray) (s:ByteArray):List ByteArray:=if has l s then l else l++[s]
theorem has_cons (x:ByteArray) (l:List ByteArray) (s:ByteArray):has (x::l) s=(decide (x=s)||has l s):=rfl
theorem assocSet_kv (s:ByteArray):∀ l:List ByteArray,assocSet (.string s) (.bool true) (kv l)=kv (addK l s)
 |[]=>rfl
 |x::l=>by
  have ih:=assocSet_kv s l
  show (if sameKeyV (.string s) (.string x) then (AV.str s,AV.bool true)::kv l else (AV.str x,AV.bool true)::assocSet (.string s) (.bool true) (kv l))=_
  by_cases h:x=s
  ·subst h
   have h1:sameKeyV (.string x) (.string x)=true:=(ba_beq x x).2 rfl
   rw[if_pos h1]
   unfold addK
   rw[has_cons,decide_eq_true rfl,Bool.true_or,if_pos rfl];rfl
  ·have h1:¬ sameKeyV (.string s) (.string x)=true:=fun hq=>h ((ba_beq s x).1 hq).symm
   rw[if_neg h1,ih]
   unfold addK
   rw[has_cons,decide_eq_false h,Bool.false_or]
   split<;>rfl
theorem kv_keysOk (l:List ByteArray):keysOk .str (kv l)=true:=by
 simp only[keysOk,kv,List.all_map,List.all_eq_true]
 intro x _;rfl
section
variable {G:GT} {H:HM}
theorem put_c (l:List ByteArray) (hl:l.length<=lim) {b:Nat} {acc:List ByteArray} {K:ARes->HM->Prop} (hb:H b=some (.map (kv acc))) (hk:K (.ret .unit) (H.upd b (.map (kv (l.foldl addK acc))))) :
  CallF prog G 63 [.map b,.list (strs l)] H K:=by
 have hlim:lim<9223372036854775807:=by decide
 refine A11 (fn:=f63) func63 rfl (by kernel_rfl) (Nat.le_of_ble_eq_true (by kernel_rfl)) ?_
 refine A10 [] fun N E hN hE=>?_
 simp +decide only[ZS,↓reduceIte,O10]
 refine hN _ ?_
 clear hN hE N E
 refine J10 ?_
 refine C11 (fun k s'=>k<=l.length/\s'.tmps 0=.map b/\s'.tmps 6=.list (strs l)/\s'.tmps 7=.int l.length/\s'.tmps 8=.int k/\s'.H=H.upd b (.map (kv ((l.take k).foldl addK acc)))/\s'.defs=[]) (fun k=>l.length-k) 0 ?_ ?_
 ·refine ⟨Nat.zero_le _,rfl,rfl,rfl,rfl,?_,rfl⟩
  funext k
  by_cases hkb:k=b
  ·subst hkb;rw[HM.upd_same];exact hb
  ·rw[HM.upd_ne _ _ hkb]
 rintro k ⟨tm,H',ds⟩ ⟨hk1,h0,h6,h7,h8,hH,hds⟩
 obtain rfl:H'=H.upd b (.map (kv ((l.take k).foldl addK acc))):=hH
 obtain rfl:ds=[]:=hds
 have hbs:(H.upd b (.map (kv ((l.take k).foldl addK acc)))) b=some (.map (kv ((l.take k).foldl addK acc))):=HM.upd_same _ _ _
 refine B10 0 _ h0 (B10 6 _ h6 (B10 7 _ h7 (B10 8 _ h8 ?_)))
 refine A10 [] fun N E hN hE=>?_
 simp +decide only[ZS,↓reduceIte]
 refine hN _ ?_
 clear hN hE N E
 refine I10 (T10 rfl (fun hc=>?_) (fun hc=>?_))
 ·have hlt:k<l.length:=by have:=of_decide_eq_true hc;omega
  refine G10 ?_
  refine I10 (J10 ?_)
  refine A10 [] fun N E hN hE=>?_
  simp +decide only[ZS,↓reduceIte,strs_at hlt,nat0,Int.toNat_natCast]
  refine hN _ ?_
  clear hN hE N E
  refine R10 [] fun N E hN hE=>?_
  simp +decide only[ZS,↓reduceIte,hbs]
  refine ⟨rfl,kv_keysOk _,?_⟩
  refine hN _ ?_
  clear hN hE N E
  refine R10 [] fun N E hN hE=>?_
  simp +decide only[ZS,↓reduceIte,wrapN (show k<9223372036854775807 by omega)]
  refine hN _ ?_
  clear hN hE N E
  refine ⟨k+1,⟨hlt,rfl,rfl,rfl,rfl,?_,rfl⟩,by omega⟩
  show H.upd b (.map (assocSet (.string l[k]) (.bool true) _))=_
  rw[assocSet_kv,List.take_succ_eq_append_getElem hlt,List.foldl_append];rfl
 ·have hk3:k=l.length:=by have:=of_decide_eq_false hc;omega
  subst hk3
  rw[List.take_length]
  refine L11 ?_
  simp only[AX.then,AX.inBlock,↓reduceIte]
  exact Fin_end (J11 rfl) hk
theorem CallV.view {P:Program} {H1:HM} {fv:AV} {us bs:List AV} {K:ARes->HM->Prop} (hd:Drop H H1) (hv:ViewL G H H1 us bs) (h:CallV P G fv bs H1 K):CallV P G fv us H K:=by
 intro w f vs hf hx hst
 have he:Evo H w H1 w:=(Evo.refl H w).drop hd
 refine (h w f vs (hf.keep hd.imm fun _ _=>rfl) (hv.rep hst hx) (hst.drop hd)).mono (fun v w' o=>?_) (fun v w' o=>?_)
 ·obtain ⟨a,H',k,r,s,e⟩:=o;exact ⟨a,H',k,r,s,he.trans e⟩
 ·obtain ⟨a,H',k,r,s,e⟩:=o;exact ⟨a,H',k,r,s,he.trans e⟩
def vOf (e:Ex) (i:Nat):List ByteArray:=if i<e.l.length then ownV e i else match e.arms[i-e.l.length]? with
 |some a=>a.names
 |none=>[]
def hOf (e:Ex) (i:Nat):List ByteArray:=if i<e.l.length then ownH e i else []
def partAV (e:Ex) (i:Nat) (x:Ex):AV:=.agg [.list (strs (vOf e i)),.list (strs (hOf e i)),.int x.k,.int x.n,.str x.s,.str x.t,.list (strs x.names),.list (exs x.l),.list (ars x.arms)]
def items (e:Ex):List (List AV):=e.parts.zipIdx.map fun p=>[.int p.2,partAV e p.2 p.1]
theorem P13 {e:Ex} {i:Nat} (h:i<e.parts.length):(items e)[i]?=some [.int i,partAV e i e.parts[i]]:=by
 simp[items,List.getElem?_eq_getElem h]
theorem T11 (e:Ex):(items e).length=e.parts.length:=by simp[items]
theorem parts_it (e:Ex) (hf:fit1 e) (hn:nodeErr e=0):Iter prog G 136 [] [.ref e.av.cells] (items e):=by
 have hfit:=hf
 obtain ⟨_,_,_,hll,hla,_⟩:=hf
 have hbb:=bnd_lt
 have hpl:=Z11 e
 refine ⟨by kernel_rfl,fun l I S H hI hy=>?_⟩
 rw[T11]
 show CallF prog G _ [.func (.yield l) [] [],.ref e.av.cells] H _
 rw[C10]
 refine A11 (fn:=f136) func136 rfl (by kernel_rfl) (Nat.le_of_ble_eq_true (by kernel_rfl)) ?_
 refine I10 (A10 [] fun N E hN hE=>?_)
 simp +decide only[ZS,↓reduceIte,Z10]
 refine hN _ ?_
 clear hN hE N E
 refine J10 ?_
 refine C11 (fun k s'=>k<=e.l.length/\I k s'.H/\s'.tmps 0=.func (.yield l) [] []/\s'.tmps 1=.ref e.av.cells/\s'.tmps 8=.list (exs e.l)/\s'.tmps 9=.int e.l.length/\s'.tmps 10=.int k/\s'.defs=[]) (fun k=>e.l.length-k) 0 ?_ ?_
 ·exact ⟨Nat.zero_le _,hI,rfl,by rw[C10];rfl,rfl,rfl,rfl,rfl⟩
 rintro k ⟨tm,H',ds⟩ ⟨hk1,hIk,h0,h1,h8,h9,h10,hds⟩
 obtain rfl:ds=[]:=hds
 simp only at hIk
 rw[C10] at h1
 refine B10 0 _ h0 (B10 1 _ h1 (B10 8 _ h8 (B10 9 _ h9 (B10 10 _ h10 ?_))))
 refine A10 [] fun N E hN hE=>?_
 simp +decide only[ZS,↓reduceIte]
 refine hN _ ?_
 clear hN hE N E
 refine I10 (T10 rfl (fun hc=>?_) (fun hc=>?_))
 ·have hlt:k<e.l.length:=by have:=of_decide_eq_true hc;omega
  have hst:=hy k _ H' (P13 (show k<e.parts.length by omega)) hIk
  rw[parts_l hlt] at hst
  have hat:=exs_at hlt
  have hpv:partAV e k e.l[k]=.agg [.list (strs (ownV e k)),.list (strs (ownH e k)),.int e.l[k].k,.int e.l[k].n,.str e.l[k].s,.str e.l[k].t,.list (strs e.l[k].names),.list (exs e.l[k].l),.list (ars e.l[k].arms)]:=by
   unfold partAV vOf hOf;rw[if_pos hlt,if_pos hlt]
  rw[hpv] at hst
  have hown:=own_c (G:=G) (H:=H') e k hn hlt
  refine G10 ?_
  refine I10 (J10 ?_)
  refine A10 [] fun N E hN hE=>?_
  simp +decide only[ZS,↓reduceIte,hat,nat0,Int.toNat_natCast]
  refine F10 fun b hbn=>?_
  simp +decide only[ZS,↓reduceIte,hat]
  refine hN _ ?_
  clear hN hE N E
  refine V11 (i:=4) hbn rfl ?_
  clear hbn
  refine V13 [] 7 (by kernel_rfl) (by kernel_rfl) (by kernel_rfl) fun N E hN hE=>?_
  simp only[List.take,List.drop]
  simp +decide only[ZS,QS,↓reduceIte]
  refine F11 hown ?_
  simp +decide only[ZS,QS,↓reduceIte]
  refine CallV.mono hst ?_
  rintro r H'' (⟨rfl,hi⟩|⟨rfl,hs⟩)
  ·rw[M10]
   simp +decide only[ZS,↓reduceIte,Bool.not_true]
   refine hN _ ?_
   clear hN hE N E
   refine T10 rfl (fun hc=>?_) (fun hc=>?_)
   ·cases hc
   refine G10 ?_
   refine R10 [] fun N E hN hE=>?_
   simp +decide only[ZS,↓reduceIte,wrapN (show k<9223372036854775807 by omega)]
   refine hN _ ?_
   clear hN hE N E
   exact ⟨k+1,⟨hlt,hi,rfl,by rw[C10];rfl,rfl,rfl,rfl,rfl⟩,by omega⟩
  ·rw[M10]
   simp +decide only[ZS,↓reduceIte,Bool.not_false]
   refine hN _ ?_
   clear hN hE N E
   refine T10 rfl (fun hc=>?_) (fun hc=>?_)
   ·refine L10 ?_
    simp only[AX.then,AX.inBlock]
    exact Fin_ret0 rfl ⟨rfl,.inr hs⟩
   ·cases hc
 refine L11 ?_
 have hk3:k=e.l.length:=by have:=of_decide_eq_false hc;omega
 subst hk3
 refine A10 [] fun N E hN hE=>?_
 simp +decide only[ZS,↓reduceIte,U11]
 refine hN _ ?_
 clear hN hE N E
 refine J10 ?_
 refine C11 (fun k s'=>k<=e.arms.length/\I (e.l.length+k) s'.H/\s'.tmps 0=.func (.yield l) [] []/\s'.tmps 1=.ref e.av.cells/\s'.tmps 26=.list (ars e.arms)/\s'.tmps 27=.int e.arms.length/\s'.tmps 28=.int k/\s'.defs=[]) (fun k=>e.arms.length-k) 0 ?_ ?_
 ·exact ⟨Nat.zero_le _,hIk,rfl,by rw[C10];rfl,rfl,rfl,rfl,rfl⟩
 rintro k ⟨tm2,H2,ds⟩ ⟨hk1,hIk,h0,h1,h26,h27,h28,hds⟩
 obtain rfl:ds=[]:=hds
 simp only at hIk
 rw[C10] at h1
 refine B10 0 _ h0 (B10 1 _ h1 (B10 26 _ h26 (B10 27 _ h27 (B10 28 _ h28 ?_))))
 refine A10 [] fun N E hN hE=>?_
 simp +decide only[ZS,↓reduceIte]
 refine hN _ ?_
 clear hN hE N E
 refine I10 (T10 rfl (fun hc=>?_) (fun hc=>?_))
 ·have hlt:k<e.arms.length:=by have:=of_decide_eq_true hc;omega
  have hst:=hy (e.l.length+k) _ H2 (P13 (show e.l.length+k<e.parts.length by omega)) hIk
  rw[parts_arm hlt] at hst
  have hat:=ars_at hlt
  have hpv:partAV e (e.l.length+k) e.arms[k].body=.agg [.list (strs e.arms[k].names),.list [],.int e.arms[k].body.k,.int e.arms[k].body.n,.str e.arms[k].body.s,.str e.arms[k].body.t,.list (strs e.arms[k].body.names),.list (exs e.arms[k].body.l),.list (ars e.arms[k].body.arms)]:=by
   unfold partAV vOf hOf
   rw[if_neg (by omega),if_neg (by omega),show e.l.length+k-e.l.length=k by omega,List.getElem?_eq_getElem hlt];rfl
  rw[hpv] at hst
  generalize e.arms[k]=a at *
  have hw1:IntKind.i64.wrap ((e.l.length:Int)+k)=((e.l.length+k:Nat):Int):=by
   rw[i64_small (by omega) (by omega)];omega
  refine G10 ?_
  refine I10 (J10 ?_)
  refine A10 [] fun N E hN hE=>?_
  simp +decide only[ZS,↓reduceIte,hat,nat0,Int.toNat_natCast]
  refine F10 fun b hbn=>?_
  simp +decide only[ZS,↓reduceIte,hat]
  refine hN _ ?_
  clear hN hE N E
  refine V11 (i:=6) hbn rfl ?_
  clear hbn
  refine A10 [] fun N E hN hE=>?_
  simp +decide only[ZS,↓reduceIte,Z10,hw1]
  refine CallV.mono (CallV.view (Drop.refl _) (.cons (View.refl _) (.cons (View.agg (.cons (View.refl _) (.cons View.nilr (ViewL.of_drop (Drop.refl _) _)))) .nil)) hst) ?_
  rintro r H'' (⟨rfl,hi⟩|⟨rfl,hs⟩)
  ·rw[M10]
   simp +decide only[ZS,↓reduceIte,Bool.not_true]
   refine hN _ ?_
   clear hN hE N E
   refine T10 rfl (fun hc=>?_) (fun hc=>?_)
   ·cases hc
   refine G10 ?_
   refine R10 [] fun N E hN hE=>?_
   simp +decide only[ZS,↓reduceIte,wrapN (show k<9223372036854775807 by omega)]
   refine hN _ ?_
   clear hN hE N E
   exact ⟨k+1,⟨hlt,hi,rfl,by rw[C10];rfl,rfl,rfl,rfl,rfl⟩,by omega⟩
  ·rw[M10]
   simp +decide only[ZS,↓reduceIte,Bool.not_false]
   refine hN _ ?_
   clear hN hE N E
   refine T10 rfl (fun hc=>?_) (fun hc=>?_)
   ·refine L10 ?_
    simp only[AX.then,AX.inBlock]
    exact Fin_ret0 rfl ⟨rfl,.inr hs⟩
   ·cases hc
 have hk3:k=e.arms.length:=by have:=of_decide_eq_false hc;omega
 subst hk3
 refine L11 ?_
 simp only[AX.then,AX.inBlock,↓reduceIte]
 rw[<-hpl] at hIk
 exact Fin_end (J11 rfl) ⟨rfl,.inl hIk⟩
end
section
variable {α:Type}
def goW (e:Ex) (ch:Ch):Nat->List (Ch->α->α)->α->α
 |_,[],a=>a
 |i,r::rs,a=>goW e ch (i+1) rs (r ((vOf e i,hOf e i)::ch) a)
def walkF (vis:Ch->Ex->α->α):Ex->Ch->α->α:=Ex.para fun e rs ch a=>goW e ch 0 rs (vis ch e a)
theorem walkF_eq (vis:Ch->Ex->α->α) (e:Ex) (ch:Ch) (a:α):walkF vis e ch a=goW e ch 0 (e.parts.map (walkF vis)) (vis ch e a):=by
 unfold walkF;rw[Ex.para_eq]
end
theorem chV_cells (ch:Ch):(chV ch).cells=[chV ch]:=by cases ch<;>rfl
theorem chV_one (ch:Ch):(chV ch).one=true:=by cases ch<;>rfl
theorem vOf_len {e:Ex} (hf:fit1 e) (i:Nat):(vOf e i).length<=lim:=by
 obtain ⟨_,_,hn,_,_,_,hx⟩:=hf
 have hbb:bnd<=lim:=by decide
 unfold vOf ownV
 split
 ·split
  ·rw[List.length_take];omega
  ·split
   ·rw[List.length_take];omega
   ·exact Nat.zero_le _
 ·split
  ·rename_i a ha
   exact Nat.le_trans (hx a (List.mem_of_getElem? ha)).2.1 hbb
  ·exact Nat.zero_le _
theorem hOf_len {e:Ex} (hf:fit1 e) (i:Nat):(hOf e i).length<=lim:=by
 obtain ⟨_,_,hn,_⟩:=hf
 have hbb:bnd<=lim:=by decide
 unfold hOf ownH
 split
 ·split
  ·omega
  ·exact Nat.zero_le _
 ·exact Nat.zero_le _
section
variable {G:GT} {H:HM}
theorem sParts_c (e:Ex):PureF prog G 102 [e.av] H (.func (.func 136) [] [.ref e.av.cells]):=by
 refine P10 (fn:=f102) func102 rfl (by kernel_rfl) (by kernel_rfl) (Nat.le_of_ble_eq_true (by kernel_rfl)) fun K hk=>?_
 refine A10 [] fun N E hN hE=>?_
 simp +decide only[ZS,↓reduceIte]
 refine hN _ ?_
 clear hN hE N E
 refine A10 [] fun N E hN hE=>?_
 simp +decide only[ZS,↓reduceIte]
 refine hN _ ?_
 clear hN hE N E
 refine L10 (K10 2 rfl ?_)
 simp +decide only[ZS,↓reduceIte]
 rw[C10] at hk
 exact hk
theorem walk_c {α:Type} (I:α->HM->Prop) (vis:Ch->Ex->α->α) (g:FuncId) (cap:List AV)
  (hv:∀ (e:Ex) (ch:Ch) (a:α) (H:HM),Okk e->ChOk ch->I a H->CallV prog G (.func (.func g) [] cap) [e.av,chV ch] H fun r H'=>r=.ret .unit/\I (vis ch e a) H') (e:Ex) :
  ∀ (ho:Okk e) (ch:Ch) (hch:ChOk ch) (a:α) (H:HM),I a H->CallF prog G 97 [e.av,chV ch,.func (.func g) [] cap] H fun r H'=>r=.ret .unit/\I (walkF vis e ch a) H':=by
 induction e using Ex.ind with
 |step e ih=>
  intro ho ch hch a H hI
  have hf:=ho.1.one
  have hn:=ho.node
  rw[walkF_eq]
  refine A11 (fn:=f97) func97 rfl (by kernel_rfl) (Nat.le_of_ble_eq_true (by kernel_rfl)) ?_
  refine A10 [] fun N E hN hE=>?_
  simp +decide only[ZS,↓reduceIte,chV_cells,chV_one]
  refine hN _ ?_
  clear hN hE N E
  refine A10 [] fun N E hN hE=>?_
  simp +decide only[ZS,↓reduceIte]
  refine CallV.mono (hv e ch a H ho hch hI) ?_
  rintro r H1 ⟨rfl,hI1⟩
  rw[M10]
  simp +decide only[ZS,↓reduceIte]
  refine hN _ ?_
  clear hN hE N E
  refine A10 [] fun N E hN hE=>?_
  simp +decide only[ZS,↓reduceIte]
  refine D10 (sParts_c e) ?_
  simp +decide only[ZS,↓reduceIte]
  refine hN _ ?_
  clear hN hE N E
  refine J10 ?_
  refine V12 fun tm htm=>?_
  have t13:tm 13=.func (.func 136) [] [.ref e.av.cells]:=by rw[htm,C10];rfl
  have t4:tm 4=.ref [chV ch]:=by rw[htm];rfl
  have t5:tm 5=.ref [.func (.func g) [] cap]:=by rw[htm];rfl
  clear htm
  have hlen:(e.parts.map (walkF vis)).length=e.parts.length:=List.length_map _
  refine C12 (xs:=items e) (gf:=136) (first:=[]) (cap:=[.ref e.av.cells]) t13 (parts_it e hf hn) ?_
   (fun i H'=>∃ a',I a' H'/\goW e ch 0 (e.parts.map (walkF vis)) (vis ch e a)=goW e ch i ((e.parts.map (walkF vis)).drop i) a') (fun _ _=>False) ⟨_,hI1,rfl⟩ ?_ ?_ ?_
  ·intro x hx
   obtain ⟨p,_,rfl⟩:=List.mem_map.1 hx
   rfl
  ·rintro l i x H' hx ⟨a',hIa,ht⟩
   have hi:i<e.parts.length:=by
    have:=(List.getElem?_eq_some_iff.1 hx).1
    rwa [T11] at this
   rw[P13 hi] at hx
   cases hx
   have hxm:=List.getElem_mem hi
   generalize hxe:e.parts[i]=x at *
   have hdrop:(e.parts.map (walkF vis)).drop i=walkF vis x::(e.parts.map (walkF vis)).drop (i+1):=by
    rw[W11 (by rw[hlen];exact hi)]
    simp only[List.getElem_map,hxe]
   rw[hdrop] at ht
   simp only[setPs,List.zip,List.zipWith,List.foldl,partAV]
   refine R10 [] fun N E hN hE=>?_
   simp +decide only[ZS,↓reduceIte]
   refine F10 fun b hb=>?_
   simp +decide only[ZS,↓reduceIte]
   refine hN _ ?_
   clear hN hE N E
   refine ⟨rfl,?_⟩
   refine V11 (i:=7) hb rfl ?_
   clear hb
   refine J10 ?_
   refine R10 [] fun N E hN hE=>?_
   simp +decide only[ZS,↓reduceIte,t4,t5,chV_cells,chV_one]
   refine W10 (by kernel_rfl) (CallF.mono (ih x hxm (ho.part hxm) ((vOf e i,hOf e i)::ch) ?_ a' H' hIa) ?_)
   ·intro c hc
    rcases List.mem_cons.1 hc with rfl|hc
    ·exact ⟨vOf_len hf i,hOf_len hf i⟩
    ·exact hch c hc
   ·rintro r H'' ⟨rfl,hI'⟩
    rw[M10]
    simp +decide only[ZS,↓reduceIte]
    refine hN _ ?_
    clear hN hE N E
    exact ⟨rfl,H'',Drop.refl _,_,hI',ht⟩
  ·rintro D H' ⟨a',hIa,ht⟩ _ _
   rw[T11] at ht
   rw[List.drop_of_length_le (by rw[hlen];exact Nat.le_refl _)] at ht
   simp only[AX.then,AX.inBlock]
   refine ⟨fun d hd=>?_,.unit,.unit,H',J11 rfl,Drop.refl _,View.refl _,rfl,?_⟩
   ·simp at hd;exact ⟨_,hd⟩
   ·rw[ht];exact hIa
  ·rintro _ _ _ _ hJ
   exact hJ.elim
def freeVis (h:Bool) (ch:Ch) (e:Ex) (acc:List ByteArray):List ByteArray:=if (occ e).2.2&&(occ e).2.1==h&&!hasN ch (occ e).1 (occ e).2.1 then addK acc (occ e).1 else acc
def freeK (e:Ex) (h:Bool):List ByteArray:=walkF (freeVis h) e [] []
theorem freeVis_c (h:Bool) (e:Ex) (ch:Ch) (acc:List ByteArray) (hch:ChOk ch) {b:Nat} (hb:H b=some (.map (kv acc))) :
  CallF prog G 98 [e.av,chV ch,.ref [.bool h],.ref [.map b]] H fun r H'=>r=.ret .unit/\H'=H.upd b (.map (kv (freeVis h ch e acc))):=by
 refine A11 (fn:=f98) func98 rfl (by kernel_rfl) (Nat.le_of_ble_eq_true (by kernel_rfl)) ?_
 refine A10 [] fun N E hN hE=>?_
 simp +decide only[ZS,↓reduceIte]
 refine hN _ ?_
 clear hN hE N E
 refine A10 [] fun N E hN hE=>?_
 simp +decide only[ZS,↓reduceIte]
 refine D10 (occ_c e) ?_
 simp +decide only[ZS,↓reduceIte]
 refine hN _ ?_
 clear hN hE N E
 generalize ho:occ e=o
 obtain ⟨s,h2,is⟩:=o
 have hvis:freeVis h ch e acc=if is&&h2==h&&!hasN ch s h2 then addK acc s else acc:=by unfold freeVis;rw[ho]
 refine O11 [] (fun s'=>s'.tmps 27=.bool (is&&h2==h&&!hasN ch s h2)/\s'.tmps 6=.str s/\s'.tmps 3=.ref [.map b]/\s'.H=H/\s'.defs=[]) (fun N E hN hE=>?_) ?_
 ·clear hE
  simp +decide only[ZS,↓reduceIte]
  refine V10 (fun hb1=>?_) (fun hb1=>?_)
  ·simp +decide only[ZS,↓reduceIte,hb1]
   refine V10 (fun hb2=>?_) (fun hb2=>?_)
   ·simp +decide only[ZS,↓reduceIte,hb1,hb2]
    refine D10 (hasN_c ch s h2 hch) ?_
    simp +decide only[ZS,↓reduceIte,hb1,hb2]
    refine hN _ ⟨?_,rfl,rfl,rfl,rfl⟩
    simp +decide only[ZS,↓reduceIte]
    rw[hb1,hb2];rfl
   ·simp +decide only[ZS,↓reduceIte,hb1,hb2]
    refine hN _ ⟨?_,rfl,rfl,rfl,rfl⟩
    simp +decide only[ZS,↓reduceIte]
    rw[hb1,hb2];rfl
  ·simp +decide only[ZS,↓reduceIte,hb1]
   refine hN _ ⟨?_,rfl,rfl,rfl,rfl⟩
   simp +decide only[ZS,↓reduceIte]
   rw[hb1];rfl
 rintro ⟨tm,H',ds⟩ ⟨f27,f6,f3,gH,gds⟩
 obtain rfl:H=H':=gH.symm
 obtain rfl:ds=[]:=gds
 refine B10 27 _ f27 (B10 6 _ f6 (B10 3 _ f3 ?_))
 refine T10 rfl (fun hc=>?_) (fun hc=>?_)
 ·rw[if_pos hc] at hvis
  refine R10 [] fun N E hN hE=>?_
  simp +decide only[ZS,↓reduceIte]
  refine ⟨bs_ok (by kernel_rfl) (U13 ⟨rfl,rfl⟩),?_⟩
  refine W10 (by kernel_rfl) (put_c [s] (by show 1<=lim;decide) hb ?_)
  rw[M10]
  simp +decide only[ZS,↓reduceIte]
  refine hN _ ?_
  clear hN hE N E
  exact Fin_end (J11 rfl) ⟨rfl,by rw[hvis];rfl⟩
 ·rw[if_neg (by rw[hc];decide)] at hvis
  refine G10 ?_
  refine Fin_end (J11 rfl) ⟨rfl,?_⟩
  rw[hvis]
  funext k
  by_cases hkb:k=b
  ·subst hkb;rw[HM.upd_same];exact hb
  ·rw[HM.upd_ne _ _ hkb]
theorem free_c (e:Ex) (ho:Okk e) (h:Bool):PureF prog G 57 [e.av,.bool h] H (.imap (kv (freeK e h))):=by
 refine P10 (fn:=f57) func57 rfl (by kernel_rfl) (by kernel_rfl) (Nat.le_of_ble_eq_true (by kernel_rfl)) fun K hk=>?_
 refine A10 [] fun N E hN hE=>?_
 simp +decide only[ZS,↓reduceIte]
 refine hN _ ?_
 clear hN hE N E
 refine A10 [] fun N E hN hE=>?_
 simp +decide only[ZS,↓reduceIte]
 refine F10 fun b hb=>?_
 simp +decide only[ZS,↓reduceIte]
 refine F10 fun c hc=>?_
 obtain ⟨hcb,hc0⟩:=G11 hc
 have hcs:∀ x:List AV,((H.upd b (.map [])).upd c (.cells 67 x)) c=some (.cells 67 x):=fun x=>HM.upd_same _ _ _
 simp +decide only[ZS,↓reduceIte,hcs]
 refine hN _ ?_
 clear hN hE N E
 try simp only[HM.upd_upd]
 refine V11 (i:=5) hc rfl ?_
 refine A10 [] fun N E hN hE=>?_
 simp +decide only[ZS,↓reduceIte]
 refine W10 (by kernel_rfl) (CallF.mono (walk_c (fun acc H'=>H'=H.upd b (.map (kv acc))) (freeVis h) 98 [.ref [.bool h],.ref [.map b]] ?_ e ho [] (fun _ h=>by cases h) [] _ rfl) ?_)
 ·rintro e' ch acc H' ho' hch rfl
  refine CallF.callV (by kernel_rfl) ?_
  show CallF prog G _ [e'.av,chV ch,.ref [.bool h],.ref [.map b]] _ _
  refine CallF.mono (freeVis_c h e' ch acc hch (HM.upd_same _ _ _)) ?_
  rintro r H' ⟨rfl,rfl⟩
  exact ⟨rfl,by rw[HM.upd_upd]⟩
 rintro r H' ⟨rfl,rfl⟩
 rw[M10]
 simp +decide only[ZS,↓reduceIte]
 refine hN _ ?_
 clear hN hE N E
 refine A10 [] fun N E hN hE=>?_
 simp +decide only[ZS,↓reduceIte]
 refine hN _ ?_
 clear hN hE N E
 refine L10 ?_
 exact Fin_drop (B12 4 rfl) (Drop.upd hb) (View.map (Drop.upd hb) (HM.upd_same _ _ _) hb) hk
end
theorem P11 (l:List ByteArray) (x:ByteArray):has l x=true↔x∈l:=by
 unfold has
 simp only[List.any_eq_true,decide_eq_true_eq]
 exact ⟨fun ⟨y,h1,h2⟩=>h2▸h1,fun h=>⟨x,h,rfl⟩⟩
theorem addK_mem (l:List ByteArray) (s x:ByteArray):x∈addK l s↔x∈l\/x=s:=by
 unfold addK
 by_cases h:has l s=true
 ·rw[if_pos h]
  exact ⟨.inl,fun q=>q.elim id fun e=>e▸(P11 l s).1 h⟩
 ·rw[if_neg h];simp
theorem addK_nodup {l:List ByteArray} (s:ByteArray) (h:l.Nodup):(addK l s).Nodup:=by
 unfold addK
 by_cases hs:has l s=true
 ·rw[if_pos hs];exact h
 ·rw[if_neg hs,List.nodup_append]
  refine ⟨h,by simp,fun a ha b hb e=>hs ((P11 l s).2 ?_)⟩
  simp at hb;rw[<-hb,<-e];exact ha
theorem addK_len (l:List ByteArray) (s:ByteArray):(addK l s).length<=l.length+1:=by
 unfold addK;split<;>simp
theorem ins_mem (x y:ByteArray):∀ (l:List ByteArray),y∈ins x l↔y=x\/y∈l
 |[]=>by simp[ins]
 |z::l=>by
  unfold ins
  split
  ·simp
  ·simp only[List.mem_cons,ins_mem x y l]
   constructor
   ·rintro (h|h|h)
    ·exact .inr (.inl h)
    ·exact .inl h
    ·exact .inr (.inr h)
   ·rintro (h|h|h)
    ·exact .inr (.inl h)
    ·exact .inl h
    ·exact .inr (.inr h)
theorem addS_mem (y:ByteArray):∀ (more l:List ByteArray),y∈addS l more↔y∈l\/y∈more
 |[],l=>by simp[addS]
 |x::more,l=>by
  have ih:=addS_mem y more
  unfold addS at ih ⊢
  rw[List.foldl_cons,ih]
  by_cases h:has l x=true
  ·rw[if_pos h]
   constructor
   ·rintro (q|q)
    ·exact .inl q
    ·exact .inr (by simp[q])
   ·rintro (q|q)
    ·exact .inl q
    ·rcases List.mem_cons.1 q with rfl|q
     ·exact .inl ((P11 l y).1 h)
     ·exact .inr q
  ·rw[if_neg h,ins_mem]
   simp only[List.mem_cons]
   constructor
   ·rintro ((q|q)|q)
    ·exact .inr (.inl q)
    ·exact .inl q
    ·exact .inr (.inr q)
   ·rintro (q|q|q)
    ·exact .inl (.inr q)
    ·exact .inl (.inl q)
    ·exact .inr q
theorem without_mem (l:List ByteArray) (s x:ByteArray):x∈without l s↔x∈l/\x≠s:=by
 unfold without;simp[List.mem_filter]
theorem minus_mem (x:ByteArray):∀ (less l:List ByteArray),x∈minus l less↔x∈l/\x∉less
 |[],l=>by simp[minus]
 |s::less,l=>by
  have ih:=minus_mem x less
  unfold minus at ih ⊢
  rw[List.foldl_cons,ih,without_mem]
  simp only[List.mem_cons,not_or]
  exact ⟨fun ⟨⟨a,b⟩,c⟩=>⟨a,b,c⟩,fun ⟨a,b,c⟩=>⟨⟨a,b⟩,c⟩⟩
def sel (h:Bool) (p:List ByteArray×List ByteArray):List ByteArray:=if h then p.2 else p.1
def FI (h:Bool) (x:ByteArray):Ex->Prop:=Ex.para fun e rs=>occ e=(x,h,true)\/∃ i r,rs[i]?=some r/\r/\x∉sel h (vOf e i,hOf e i)
theorem FI_eq (h:Bool) (x:ByteArray) (e:Ex):FI h x e↔(occ e=(x,h,true)\/∃ i p,e.parts[i]?=some p/\FI h x p/\x∉sel h (vOf e i,hOf e i)):=by
 unfold FI
 rw[Ex.para_eq]
 constructor
 ·rintro (q|⟨i,r,h1,h2,h3⟩)
  ·exact .inl q
  ·rw[List.getElem?_map] at h1
   obtain ⟨p,hp,rfl⟩:=Option.map_eq_some_iff.1 h1
   exact .inr ⟨i,p,hp,h2,h3⟩
 ·rintro (q|⟨i,p,h1,h2,h3⟩)
  ·exact .inl q
  ·exact .inr ⟨i,_,by rw[List.getElem?_map,h1];rfl,h2,h3⟩
theorem hasN_cons (c:List ByteArray×List ByteArray) (ch:Ch) (x:ByteArray) (h:Bool):hasN (c::ch) x h=false↔x∉sel h c/\hasN ch x h=false:=by
 show (if has (if h then c.2 else c.1) x then true else hasN ch x h)=false↔_
 unfold sel
 by_cases q:has (if h then c.2 else c.1) x=true
 ·rw[if_pos q]
  exact ⟨fun e=>(by cases e),fun e=>absurd ((P11 _ _).1 q) e.1⟩
 ·rw[if_neg q]
  exact ⟨fun e=>⟨fun m=>q ((P11 _ _).2 m),e⟩,fun e=>e.2⟩
theorem freeVis_mem (h:Bool) (ch:Ch) (e:Ex) (acc:List ByteArray) (x:ByteArray):x∈freeVis h ch e acc↔x∈acc\/(occ e=(x,h,true)/\hasN ch x h=false):=by
 unfold freeVis
 generalize occ e=o
 obtain ⟨s,h2,is⟩:=o
 simp only
 by_cases hc:(is&&h2==h&&!hasN ch s h2)=true
 ·rw[if_pos hc,addK_mem]
  simp only[Bool.and_eq_true,beq_iff_eq,Bool.not_eq_true'] at hc
  obtain ⟨⟨h1,h3⟩,h4⟩:=hc
  subst h1 h3
  simp only[Prod.mk.injEq,and_true]
  constructor
  ·rintro (q|rfl)
   ·exact .inl q
   ·exact .inr ⟨rfl,h4⟩
  ·rintro (q|⟨rfl,_⟩)
   ·exact .inl q
   ·exact .inr rfl
 ·rw[if_neg hc]
  refine ⟨.inl,fun q=>q.elim id fun ⟨q1,q2⟩=>absurd ?_ hc⟩
  simp only[Prod.mk.injEq] at q1
  obtain ⟨rfl,rfl,rfl⟩:=q1
  rw[q2];simp
theorem goW_mem {h:Bool} (e:Ex) (ch:Ch) (x:ByteArray):∀ (ps:List Ex) (i:Nat) (acc:List ByteArray),(∀ p∈ps,∀ ch acc,x∈walkF (freeVis h) p ch acc↔x∈acc\/(FI h x p/\hasN ch x h=false)) ->
  (x∈goW e ch i (ps.map (walkF (freeVis h))) acc↔x∈acc\/((∃ j p,ps[j]?=some p/\FI h x p/\x∉sel h (vOf e (i+j),hOf e (i+j)))/\hasN ch x h=false))
 |[],i,acc,_=>by simp[goW]
 |p::ps,i,acc,hp=>by
  rw[List.map_cons,goW,goW_mem e ch x ps (i+1) _ (fun q hq=>hp q (by simp[hq])),hp p (by simp),hasN_cons]
  constructor
  ·rintro ((q|⟨q1,q2,q3⟩)|⟨⟨j,q,h1,h2,h3⟩,q4⟩)
   ·exact .inl q
   ·exact .inr ⟨⟨0,p,rfl,q1,q2⟩,q3⟩
   ·exact .inr ⟨⟨j+1,q,by simpa using h1,h2,by rwa [show i+(j+1)=i+1+j by omega]⟩,q4⟩
  ·rintro (q|⟨⟨j,q,h1,h2,h3⟩,q4⟩)
   ·exact .inl (.inl q)
   ·cases j with
    |zero=>
     simp only[List.getElem?_cons_zero,Option.some.injEq] at h1
     subst h1
     exact .inl (.inr ⟨h2,h3,q4⟩)
    |succ j=>exact .inr ⟨⟨j,q,by simpa using h1,h2,by rwa [show i+(j+1)=i+1+j by omega] at h3⟩,q4⟩
theorem walk_mem (h:Bool) (x:ByteArray) (e:Ex):∀ (ch:Ch) (acc:List ByteArray),x∈walkF (freeVis h) e ch acc↔x∈acc\/(FI h x e/\hasN ch x h=false):=by
 induction e using Ex.ind with
 |step e ih=>
  intro ch acc
  rw[walkF_eq,goW_mem e ch x e.parts 0 _ (fun p hp=>ih p hp),freeVis_mem,FI_eq]
  simp only[Nat.zero_add]
  constructor
  ·rintro ((q|⟨q1,q2⟩)|⟨q1,q2⟩)
   ·exact .inl q
   ·exact .inr ⟨.inl q1,q2⟩
   ·exact .inr ⟨.inr q1,q2⟩
  ·rintro (q|⟨q1|q1,q2⟩)
   ·exact .inl (.inl q)
   ·exact .inl (.inr ⟨q1,q2⟩)
   ·exact .inr ⟨q1,q2⟩
theorem freeK_mem (e:Ex) (h:Bool) (x:ByteArray):x∈freeK e h↔FI h x e:=by
 unfold freeK
 rw[walk_mem]
 simp[hasN]
theorem goW_nodup {h:Bool} (e:Ex) (ch:Ch):∀ (ps:List Ex) (i:Nat) (acc:List ByteArray),(∀ p∈ps,∀ ch (acc:List ByteArray),acc.Nodup->(walkF (freeVis h) p ch acc).Nodup)->acc.Nodup->(goW e ch i (ps.map (walkF (freeVis h))) acc).Nodup
 |[],_,_,_,ha=>ha
 |p::ps,i,acc,hp,ha=>goW_nodup e ch ps (i+1) _ (fun q hq=>hp q (by simp[hq])) (hp p (by simp) _ _ ha)
theorem walk_nodup (h:Bool) (e:Ex):∀ (ch:Ch) (acc:List ByteArray),acc.Nodup->(walkF (freeVis h) e ch acc).Nodup:=by
 induction e using Ex.ind with
 |step e ih=>
  intro ch acc ha
  rw[walkF_eq]
  refine goW_nodup e ch e.parts 0 _ (fun p hp=>ih p hp) ?_
  unfold freeVis
  split
  ·exact addK_nodup _ ha
  ·exact ha
theorem goF_mem (f:Nat->List ByteArray) (x:ByteArray):∀ (rs:List (List ByteArray)) (i:Nat) (acc:List ByteArray),x∈goF f i rs acc↔x∈acc\/∃ j r,rs[j]?=some r/\x∈r/\x∉f (i+j)
 |[],i,acc=>by simp[goF]
 |r::rs,i,acc=>by
  rw[goF,goF_mem f x rs,addS_mem,minus_mem]
  constructor
  ·rintro ((q|⟨q1,q2⟩)|⟨j,r',h1,h2,h3⟩)
   ·exact .inl q
   ·exact .inr ⟨0,r,rfl,q1,q2⟩
   ·exact .inr ⟨j+1,r',by simpa using h1,h2,by rwa [show i+(j+1)=i+1+j by omega]⟩
  ·rintro (q|⟨j,r',h1,h2,h3⟩)
   ·exact .inl (.inl q)
   ·cases j with
    |zero=>
     simp only[List.getElem?_cons_zero,Option.some.injEq] at h1
     subst h1
     exact .inl (.inr ⟨h2,h3⟩)
    |succ j=>exact .inr ⟨j,r',by simpa using h1,h2,by rwa [show i+(j+1)=i+1+j by omega] at h3⟩
theorem one_mem (s x:ByteArray):x∈one s↔s≠emp/\x=s:=by
 unfold one
 split
 ·rename_i h;simp[h]
 ·rename_i h;simp[h]
theorem name_one {e:Ex} (h:nodeErr e=0) (hk:e.k=4\/e.k=6):e.names.length=1:=by
 obtain ⟨x,hx,_,_,hm,_,_⟩:=node_shape h
 rcases hk with h7|h7
 ·rw[h7] at hx
  have:shapes[(4:Int).toNat]?=some ⟨0,0,1,1,false,0,0⟩:=rfl
  rw[this] at hx;cases hx
  simp[nodeMany,h7] at hm
  omega
 ·rw[h7] at hx
  have:shapes[(6:Int).toNat]?=some ⟨0,0,1,2,false,0,0⟩:=rfl
  rw[this] at hx;cases hx
  simp[nodeMany,h7] at hm
  omega
theorem bound_vOf {e:Ex} (h:nodeErr e=0) {i:Nat} (hi:i<e.parts.length):bound e i=vOf e i:=by
 unfold bound vOf
 by_cases hl:e.l.length<=i
 ·have hl':¬ i<e.l.length:=by omega
  rw[if_pos hl,if_neg hl'];rfl
 ·have hl':i<e.l.length:=by omega
  rw[if_neg hl,if_pos hl']
  unfold ownV own1
  by_cases h4:e.k=4
  ·have:=name_one h (.inl h4)
   rw[if_pos h4,if_pos (by simp[h4]),List.take_of_length_le (by omega)]
  rw[if_neg h4]
  by_cases h6:e.k=6
  ·have:=name_one h (.inr h6)
   rw[if_pos h6]
   by_cases h1:i=1
   ·rw[if_pos h1,if_pos (by simp[h6,h1]),List.take_of_length_le (by omega)]
   ·rw[if_neg h1,if_neg (by simp[h6];omega),if_neg (by omega)]
  rw[if_neg h6]
  by_cases h7:e.k=7
  ·rw[if_pos h7,if_neg (by simp[h7]),if_pos h7]
  rw[if_neg h7]
  by_cases h17:e.k=17
  ·have:=one_name h (.inr (.inr h17))
   rw[if_pos h17]
   by_cases h2:i=2
   ·rw[if_pos ⟨h2,by omega⟩,if_pos (by simp[h17,h2])]
   ·rw[if_neg (fun q=>h2 q.1),if_neg (by simp[h17];omega),if_neg h7]
  ·rw[if_neg h17,if_neg (by simp[h4,h6,h17]),if_neg h7]
theorem boundH_hOf {e:Ex} (h:nodeErr e=0) {i:Nat} (hi:i<e.parts.length):boundH e i=hOf e i:=by
 unfold boundH hOf ownH
 by_cases h15:e.k=15
 ·obtain ⟨x,hx,_,_,_,hp,_⟩:=node_shape h
  rw[h15] at hx
  have:shapes[(15:Int).toNat]?=some ⟨2,0,1,1,true,0,0⟩:=rfl
  rw[this] at hx;cases hx
  simp[nodeParts,h15] at hp
  by_cases h0:i=0
  ·rw[if_pos (by simp[h15,h0]),if_pos (by omega),if_pos h15]
  ·rw[if_neg (by simp[h15];omega),if_neg (by omega)]
 ·rw[if_neg (by simp[h15])]
  split<;>rfl
theorem occ_ne {e:Ex} (h:nodeErr e=0) (hk:(occ e).2.2=true):e.s≠emp:=by
 have hkk:e.k=0\/e.k=18\/e.k=19\/e.k=13:=by
  unfold occ at hk
  split at hk
  ·omega
  ·split at hk
   ·omega
   ·cases hk
 obtain ⟨x,hx,_,_,_,_,_,hcl,_⟩:=node_shape h
 have hS:x.S=1:=by
  rcases hkk with q|q|q|q<;>(rw[q] at hx;cases hx;rfl)
 rw[hS] at hcl
 intro he
 rw[he] at hcl
 exact absurd hcl (by decide)
theorem freeOf_mem (x:ByteArray) (e:Ex):checked e=0->(x∈freeOf e↔FI false x e):=by
 induction e using Ex.ind with
 |step e ih=>
  intro hc
  obtain ⟨hn,hp⟩:=(M11 e).1 hc
  rw[freeOf_eq,goF_mem,FI_eq,one_mem]
  simp only[Nat.zero_add,sel,Bool.false_eq_true,if_false]
  have ho:(occurs e≠emp/\x=occurs e)↔occ e=(x,false,true):=by
   unfold occurs occ
   by_cases h0:e.k=0\/e.k=18\/e.k=19
   ·have hb:(decide (e.k=0)||decide (e.k=18)||decide (e.k=19))=true:=by simp;omega
    have hne:e.s≠emp:=occ_ne hn (by unfold occ;rw[if_pos h0])
    rw[if_pos hb,if_pos h0]
    simp only[Prod.mk.injEq,and_true]
    exact ⟨fun q=>q.2.symm,fun q=>⟨hne,q.symm⟩⟩
   ·have hb:¬ (decide (e.k=0)||decide (e.k=18)||decide (e.k=19))=true:=by simp;omega
    rw[if_neg hb,if_neg h0]
    constructor
    ·exact fun q=>absurd rfl q.1
    ·intro q
     split at q<;>simp at q
  rw[ho]
  refine or_congr_right ?_
  constructor
  ·rintro ⟨j,r,h1,h2,h3⟩
   rw[List.getElem?_map] at h1
   obtain ⟨p,hp1,rfl⟩:=Option.map_eq_some_iff.1 h1
   have hm:=List.mem_of_getElem? hp1
   have hj:=(List.getElem?_eq_some_iff.1 hp1).1
   exact ⟨j,p,hp1,(ih p hm (hp p hm)).1 h2,by rwa [bound_vOf hn hj] at h3⟩
  ·rintro ⟨j,p,h1,h2,h3⟩
   have hm:=List.mem_of_getElem? h1
   have hj:=(List.getElem?_eq_some_iff.1 h1).1
   exact ⟨j,_,by rw[List.getElem?_map,h1];rfl,(ih p hm (hp p hm)).2 h2,by rwa [bound_vOf hn hj]⟩
theorem handlersOf_mem (x:ByteArray) (e:Ex):checked e=0->(x∈handlersOf e↔FI true x e):=by
 induction e using Ex.ind with
 |step e ih=>
  intro hc
  obtain ⟨hn,hp⟩:=(M11 e).1 hc
  rw[handlersOf_eq,goF_mem,FI_eq,one_mem]
  simp only[Nat.zero_add,sel,if_true]
  have ho:(occursH e≠emp/\x=occursH e)↔occ e=(x,true,true):=by
   unfold occursH occ
   by_cases h0:e.k=13
   ·have hne:e.s≠emp:=occ_ne hn (by unfold occ;rw[if_neg (by omega),if_pos h0])
    rw[if_pos (by simpa using h0),if_neg (by omega),if_pos h0]
    simp only[Prod.mk.injEq,and_true]
    exact ⟨fun q=>q.2.symm,fun q=>⟨hne,q.symm⟩⟩
   ·rw[if_neg (by simpa using h0),if_neg h0]
    constructor
    ·exact fun q=>absurd rfl q.1
    ·intro q
     split at q<;>simp at q
  rw[ho]
  refine or_congr_right ?_
  constructor
  ·rintro ⟨j,r,h1,h2,h3⟩
   rw[List.getElem?_map] at h1
   obtain ⟨p,hp1,rfl⟩:=Option.map_eq_some_iff.1 h1
   have hm:=List.mem_of_getElem? hp1
   have hj:=(List.getElem?_eq_some_iff.1 hp1).1
   exact ⟨j,p,hp1,(ih p hm (hp p hm)).1 h2,by rwa [boundH_hOf hn hj] at h3⟩
  ·rintro ⟨j,p,h1,h2,h3⟩
   have hm:=List.mem_of_getElem? h1
   have hj:=(List.getElem?_eq_some_iff.1 h1).1
   exact ⟨j,_,by rw[List.getElem?_map,h1];rfl,(ih p hm (hp p hm)).2 h2,by rwa [boundH_hOf hn hj]⟩
theorem shAll_eq:shAll=shCells:=by kernel_rfl
theorem tabs2_0:Tabs2 G0:={ tabs0 with
 shapes:=by
  unfold G0
  rw[if_pos (by decide),shAll_eq] }
section
variable {H:HM}
end
end Go.V
