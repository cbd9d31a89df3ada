/- Closed facts about the program's types. No condition. Lists that grow; expressions as data. No condition. The first reference's helpers. No condition. The library's contracts that are used, laid at this program: strings.Fields, strconv.Itoa, slices.Sort. No condition. The library's contracts as contracts over abstract states. No condition. The order of strings and the decimal digits, by small steps. No condition. The program's lexer: words. No condition. The program's lexer: names. No condition. -/
import Derived.Test.YtjeiboididfgmaaGreatDoorRB
import Derived.Test.YtjeiboididfgmaaGreatDoorProg
import Derived.Shelf.Strconv.Itoa3
import Derived.Shelf.Strings.Fields
import Derived.Shelf.Sort.AssemblysIn
set_option linter.unusedVariables false
set_option linter.unusedSimpArgs false
set_option linter.defProp false
namespace Go.V
open Go Go.Proofs.Tryz
theorem ti3:tiOf prog 3=some ⟨.int .i64,1,8,.val (.int .i64 0)⟩:=by kernel_rfl
theorem ti4:tiOf prog 4=some ⟨.bool,1,1,.val (.bool false)⟩:=by kernel_rfl
theorem td4:tdAt prog 4=some (.bool):=by kernel_rfl
theorem td5:tdAt prog 5=some (.int .u8):=by kernel_rfl
theorem ti9:tiOf prog 9=some ⟨.str,1,16,.val (.string ⟨#[]⟩)⟩:=by kernel_rfl
theorem td9:tdAt prog 9=some (.str):=by kernel_rfl
theorem td21:tdAt prog 21=some (.int .i32):=by kernel_rfl
theorem ti22:tiOf prog 22=some ⟨.int .i64,1,8,.val (.int .i64 0)⟩:=by kernel_rfl
theorem ti23:tiOf prog 23=some ⟨.slice 9 1,1,24,.nil0⟩:=by kernel_rfl
theorem td23:tdAt prog 23=some (.slice 9 1):=by kernel_rfl
theorem ti24:tiOf prog 24=some ⟨.slice 27 7,1,24,.nil0⟩:=by kernel_rfl
theorem td24:tdAt prog 24=some (.slice 27 7):=by kernel_rfl
theorem ti25:tiOf prog 25=some ⟨.slice 85 9,1,24,.nil0⟩:=by kernel_rfl
theorem td25:tdAt prog 25=some (.slice 85 9):=by kernel_rfl
theorem ti27:tiOf prog 27=some ⟨.struct [(0,1,false),(1,1,false),(2,1,false),(3,1,false),(4,1,false),(5,1,false),(6,1,false)],7,120,.agg [.val (.int .i64 0),.val (.int .i64 0),.val (.string ⟨#[]⟩),.val (.string ⟨#[]⟩),.nil0,.nil0,.nil0]⟩:=by kernel_rfl
theorem ti28:tiOf prog 28=some ⟨.int .i64,1,8,.val (.int .i64 0)⟩:=by kernel_rfl
theorem ti67:tiOf prog 67=some ⟨.map 9 4,1,8,.val (.map none)⟩:=by kernel_rfl
theorem td67:tdAt prog 67=some (.map 9 4):=by kernel_rfl
theorem ti79:tiOf prog 79=some ⟨.ptr,1,8,.val (.pointer none)⟩:=by kernel_rfl
theorem ti81:tiOf prog 81=some ⟨.struct [(0,1,false),(1,7,true),(8,1,false),(9,1,false),(10,1,false)],11,160,.agg [.val (.string ⟨#[]⟩),.val (.int .i64 0),.val (.int .i64 0),.val (.string ⟨#[]⟩),.val (.string ⟨#[]⟩),.nil0,.nil0,.nil0,.val (.map none),.val (.map none),.val (.map none)]⟩:=by kernel_rfl
theorem ti85:tiOf prog 85=some ⟨.struct [(0,1,false),(1,1,false),(2,7,true)],9,160,.agg [.val (.string ⟨#[]⟩),.nil0,.val (.int .i64 0),.val (.int .i64 0),.val (.string ⟨#[]⟩),.val (.string ⟨#[]⟩),.nil0,.nil0,.nil0]⟩:=by kernel_rfl
theorem ti87:tiOf prog 87=some ⟨.func,1,8,.val .nilFunc⟩:=by kernel_rfl
theorem ti89:tiOf prog 89=some ⟨.func,1,8,.val .nilFunc⟩:=by kernel_rfl
theorem ti91:tiOf prog 91=some ⟨.struct [(0,1,false)],1,8,.agg [.val .nilFunc]⟩:=by kernel_rfl
theorem ti93:tiOf prog 93=some ⟨.map 4 67,1,8,.val (.map none)⟩:=by kernel_rfl
theorem td93:tdAt prog 93=some (.map 4 67):=by kernel_rfl
theorem ti103:tiOf prog 103=some ⟨.struct [(0,1,false),(1,1,false)],2,16,.agg [.val (.int .i64 0),.val (.int .i64 0)]⟩:=by kernel_rfl
theorem ti111:tiOf prog 111=some ⟨.ptr,1,8,.val (.pointer none)⟩:=by kernel_rfl
theorem td111:tdAt prog 111=some (.ptr):=by kernel_rfl
theorem ti115:tiOf prog 115=some ⟨.func,1,8,.val .nilFunc⟩:=by kernel_rfl
theorem ti120:tiOf prog 120=some ⟨.struct [(0,1,false),(1,1,false)],2,48,.agg [.nil0,.nil0]⟩:=by kernel_rfl
theorem ti122:tiOf prog 122=some ⟨.struct [(0,2,true),(2,7,true)],9,168,.agg [.nil0,.nil0,.val (.int .i64 0),.val (.int .i64 0),.val (.string ⟨#[]⟩),.val (.string ⟨#[]⟩),.nil0,.nil0,.nil0]⟩:=by kernel_rfl
theorem ti127:tiOf prog 127=some ⟨.struct [(0,1,false)],1,8,.agg [.val (.int .i64 0)]⟩:=by kernel_rfl
theorem td127:tdAt prog 127=some (.struct [(0,1,false)]):=by kernel_rfl
theorem ti132:tiOf prog 132=some ⟨.struct [(0,1,false),(1,1,false),(2,1,false)],3,24,.agg [.val (.int .i64 0),.val (.int .i64 0),.val (.bool false)]⟩:=by kernel_rfl
theorem ti136:tiOf prog 136=some ⟨.ptr,1,8,.val (.pointer none)⟩:=by kernel_rfl
theorem td136:tdAt prog 136=some (.ptr):=by kernel_rfl
theorem ti138:tiOf prog 138=some ⟨.slice 122 9,1,24,.nil0⟩:=by kernel_rfl
theorem td138:tdAt prog 138=some (.slice 122 9):=by kernel_rfl
theorem ti140:tiOf prog 140=some ⟨.struct [(0,2,true),(2,2,true),(4,1,false)],5,104,.agg [.nil0,.nil0,.nil0,.nil0,.val (.pointer none)]⟩:=by kernel_rfl
theorem ti141:tiOf prog 141=some ⟨.ptr,1,8,.val (.pointer none)⟩:=by kernel_rfl
theorem td141:tdAt prog 141=some (.ptr):=by kernel_rfl
theorem ti147:tiOf prog 147=some ⟨.struct [(0,1,false),(1,1,false),(2,1,false),(3,1,false)],4,48,.agg [.val (.string ⟨#[]⟩),.val (.string ⟨#[]⟩),.val (.bool false),.val (.pointer none)]⟩:=by kernel_rfl
theorem ti156:tiOf prog 156=some ⟨.struct [(0,2,true),(2,1,false)],3,56,.agg [.nil0,.nil0,.val (.pointer none)]⟩:=by kernel_rfl
theorem ti160:tiOf prog 160=some ⟨.int .i64,1,8,.val (.int .i64 0)⟩:=by kernel_rfl
theorem td162:tdAt prog 162=some (.map 9 160):=by kernel_rfl
theorem ti181:tiOf prog 181=some ⟨.ptr,1,8,.val (.pointer none)⟩:=by kernel_rfl
theorem ti194:tiOf prog 194=some ⟨.struct [(0,1,false),(1,1,false),(2,1,false),(3,1,false),(4,1,false),(5,1,false),(6,1,false),(7,1,false),(8,1,false)],9,72,.agg [.val (.int .i64 0),.val (.int .i64 0),.val (.int .i64 0),.val (.int .i64 0),.val (.int .i64 0),.val (.int .i64 0),.val (.bool false),.val (.int .i64 0),.val (.int .i64 0)]⟩:=by kernel_rfl
def TS:=And.intro @ti3 <| And.intro @ti4 <| And.intro @td4 <| And.intro @td5 <| And.intro @ti9 <| And.intro @td9 <| And.intro @td21 <| And.intro @ti22 <| And.intro @ti23 <| And.intro @td23 <| And.intro @ti24 <| And.intro @td24 <| And.intro @ti25 <| And.intro @td25 <| And.intro @ti27 <| And.intro @ti28 <| And.intro @ti67 <| And.intro @td67 <| And.intro @ti79 <| And.intro @ti81 <| And.intro @ti85 <| And.intro @ti87 <| And.intro @ti89 <| And.intro @ti91 <| And.intro @ti93 <| And.intro @td93 <| And.intro @ti103 <| And.intro @ti111 <| And.intro @td111 <| And.intro @ti115 <| And.intro @ti120 <| And.intro @ti122 <| And.intro @ti127 <| And.intro @td127 <| And.intro @ti132 <| And.intro @ti136 <| And.intro @td136 <| And.intro @ti138 <| And.intro @td138 <| And.intro @ti140 <| And.intro @ti141 <| And.intro @td141 <| And.intro @ti147 <| And.intro @ti156 <| And.intro @ti160 <| And.intro @td162 <| And.intro @ti181 @ti194
section
variable {P:Program} {G:GT} {M:List Nat} {ops:Array Oper} {N:AS->Prop} {E:AV->AS->Prop} {n:Nat} {r:Option Nat} {Q:AX->AS->Prop} {s:AS} {H H0 H1:HM}
def OutG (H0 H:HM) (v:AV) (e sz:Nat) (xs:List AV):Prop:=
 (xs=[]/\v=.nil0/\Drop H H0)\/∃ b cap,H0 b=none/\v=.mlist b xs.length cap/\Drop H (H0.upd b (.row e sz cap xs))
theorem OutG.nil (h:Drop H H0) (e sz:Nat):OutG H0 H .nil0 e sz []:=.inl ⟨rfl,rfl,h⟩
theorem OutG.drop {v:AV} {e sz:Nat} {xs:List AV} (h:OutG H0 H v e sz xs):Drop H H0:=by
 rcases h with ⟨_,_,h⟩|⟨b,cap,h1,_,h⟩
 ·exact h
 ·exact h.trans (Drop.upd h1)
theorem OutG.view {v:AV} {e sz:Nat} {xs:List AV} (h:OutG H0 H v e sz xs) (hl:xs.length<=lim):View G H H0 v (.list xs):=by
 rcases h with ⟨rfl,rfl,h⟩|⟨b,cap,h1,rfl,h⟩
 ·exact View.nil0 h
 ·refine View.trans h (View.of_drop h _) (View.row (Drop.upd h1) (HM.upd_same _ _ _) h1 rfl hl)
theorem Drop.get {b:Nat} {o:AObj} (h:Drop H (H0.upd b o)):H b=some o:=by
 rcases h b with e|e
 ·rw[HM.upd_same] at e;cases e
 ·rw[HM.upd_same] at e;exact e.symm
theorem OutG.len {v:AV} {e sz:Nat} {xs:List AV} (h:OutG H0 H v e sz xs):vlenb H (some (.slice e sz)) v=some (.int xs.length):=by
 rcases h with ⟨rfl,rfl,h⟩|⟨b,cap,h1,rfl,h⟩<;>rfl
theorem OutG.one {v:AV} {e sz:Nat} {xs:List AV} (h:OutG H0 H v e sz xs):v.one=true:=by
 rcases h with ⟨rfl,rfl,h⟩|⟨b,cap,h1,rfl,h⟩<;>rfl
def srcTd:TD->Bool
 |.int _ | .other=>false
 |_=>true
def apOk (P:Program) (ts tx e sz:Nat):Bool:=match tdAt P ts,tdAt P tx,tiOf P e with
 |some (.slice e' sz'),some td,some ei=>Nat.beq e' e&&Nat.beq sz' sz&&srcTd td&&Nat.ble ei.bytes 1024
 |_,_,_=>false
theorem apOk_some {ts tx e sz:Nat} (h:apOk P ts tx e sz=true):∃ td ei,tdAt P ts=some (.slice e sz)/\tdAt P tx=some td/\tiOf P e=some ei/\srcTd td=true/\ei.bytes<=1024:=by
 unfold apOk at h
 split at h
 ·rename_i e' sz' td ei h1 h2 h3
  simp only[Bool.and_eq_true] at h
  have q1:=Nat.eq_of_beq_eq_true h.1.1.1
  have q2:=Nat.eq_of_beq_eq_true h.1.1.2
  subst q1 q2
  exact ⟨td,ei,h1,h2,h3,h.1.2,Nat.le_of_ble_eq_true h.2⟩
 ·cases h
theorem vappend_out {ts tx e sz:Nat} {v x:AV} {xs ys:List AV} {K:ARes->HM->Prop} (hc:apOk P ts tx e sz=true) (h:OutG H0 H v e sz xs) (hx:srcOf H x=some ys) (hne:∀ b n c,x≠.mlist b n c)
  (hy:∀ y∈ys,y.cells.length=sz) (hl:xs.length+ys.length<=lim) (hk:∀ v' H',OutG H0 H' v' e sz (xs++ys)->K (.ret v') H'):vappend P H ts tx v x K:=by
 obtain ⟨td,ei,hts,htx,hei,htd,hb⟩:=apOk_some hc
 have ht:(match tdAt P tx with|some (.int _)=>False|some .other=>False|some _=>True|none=>False):=by
  rw[htx];cases td<;>simp_all[srcTd]
 unfold vappend
 simp only[hts,hei,hx]
 refine ⟨ht,hb,hy,?_⟩
 rcases h with ⟨rfl,rfl,h⟩|⟨b,cap,h1,rfl,h⟩
 ·refine ⟨by simpa using hl,fun e0=>?_,fun b cap hbn hc=>?_⟩
  ·exact hk _ _ (.inl ⟨by simp[e0],rfl,h⟩)
  ·refine hk _ _ (.inr ⟨b,cap,by rcases h b with q|q<;>simp[q,hbn],by simp,fun k=>?_⟩)
   simp only[List.nil_append]
   by_cases hkb:k=b
   ·subst hkb;right;rw[HM.upd_same,HM.upd_same]
   ·rw[HM.upd_ne _ _ hkb,HM.upd_ne _ _ hkb];exact h k
 ·have hbk:=h.get
  simp only[hbk,true_and]
  refine ⟨hne _ _ _,hl,fun b' cap' hbn hc=>?_⟩
  have hb0:H0 b'=none:=by
   rcases hbn with q|⟨rfl,_⟩
   ·by_cases hbb:b'=b
    ·subst hbb;exact h1
    ·rcases h b' with q'|q'<;>rw[HM.upd_ne _ _ hbb] at q'<;>simp[q',q]
   ·exact h1
  refine hk _ _ (.inr ⟨b',cap',hb0,rfl,fun k=>?_⟩)
  by_cases hkb:k=b'
  ·subst hkb;right;rw[HM.upd_same,HM.upd_same]
  ·rw[HM.upd_ne _ _ hkb,HM.upd_ne _ _ hkb]
   by_cases hkb2:k=b
   ·subst hkb2;exact .inl h1
   ·have:=h k;rwa [HM.upd_ne _ _ hkb2] at this
theorem F10 {o:AObj} {m:Bool} {d:Option Nat} {rest:List Oper} {tm:Nat->AV} {ds:List ADef} (h:∀ b,H b=none->wops P G M ops N E rest (putT d (if m then .map b else .addr b 0) tm) (H.upd b o) ds):wnew P G M ops N E o m d rest tm H ds:=h
theorem splice_def (cs:List AV) (off:Nat) (ws:List AV):splice cs off ws=cs.take off++ws++cs.drop (off+ws.length):=rfl
theorem M10 (d:Option Nat) (rest:List Oper) (tm:Nat->AV) (ds:List ADef) (v:AV) (H':HM):kont P G M ops N E d rest tm ds (.ret v) H'=wops P G M ops N E rest (putT d v tm) H' ds:=rfl
theorem src_list (ys:List AV):srcOf H (.list ys)=some ys:=rfl
theorem View.nilr:View G H H .nil0 (.list []):=View.nil0 (Drop.refl H)
theorem V10 {b want:Bool} {o:Oper} {rest:List Oper} {tm:Nat->AV} {H:HM} {ds:List ADef} (h1:b=true->wgd P G M ops N E (some true) want o rest tm H ds) (h2:b=false->wgd P G M ops N E (some false) want o rest tm H ds) :
  wgd P G M ops N E (some b) want o rest tm H ds:=by
 cases b
 ·exact h2 rfl
 ·exact h1 rfl
theorem qgd_split {tl:List Oper} {b want:Bool} {o:Oper} {rest:List Oper} {tm:Nat->AV} {H:HM} {ds:List ADef} (h1:b=true->qgd P G M ops N E tl (some true) want o rest tm H ds) (h2:b=false->qgd P G M ops N E tl (some false) want o rest tm H ds) :
  qgd P G M ops N E tl (some b) want o rest tm H ds:=by
 cases b
 ·exact h2 rfl
 ·exact h1 rfl
theorem O11 (M:List Nat) (R:AS->Prop) {id:Nat} {y:Code} {tm:Nat->AV} {H:HM} {ds:List ADef}
  (h:∀ (N:AS->Prop) (E:AV->AS->Prop),(∀ s',R s'->N s')->(∀ v s',Q (.pan v) s'->E v s')->wops P G M ops N E ops.toList tm H ds) (hr:∀ s',R s'->VW P G n r y Q s') :
  VW P G n r (.seq (.region id ops false) y) Q ⟨tm,H,ds⟩:=
 A10 M fun N E hN hE=>h N E (fun s' hs'=>hN s' (hr s' hs')) hE
theorem VW_regqC (M:List Nat) (R:AS->Prop) {id:Nat} {y:Code} {tm:Nat->AV} {H:HM} {ds:List ADef} (k:Nat) (hm:P.follows .mixedOrders=true) (hk:headOk ops k=true) (ht:tailOk ops k=true)
  (h:∀ (N:AS->Prop) (E:AV->AS->Prop),(∀ s',R s'->N s')->(∀ v s',Q (.pan v) s'->E v s')->wqs P G M ops N E (ops.toList.drop k) (ops.toList.take k) tm H ds) (hr:∀ s',R s'->VW P G n r y Q s') :
  VW P G n r (.seq (.region id ops true) y) Q ⟨tm,H,ds⟩:=
 V13 M k hm hk ht fun N E hN hE=>h N E (fun s' hs'=>hN s' (hr s' hs')) hE
theorem VW_regEC (M:List Nat) (R:AS->Prop) {id:Nat} {tm:Nat->AV} {H:HM} {ds:List ADef}
  (h:∀ (N:AS->Prop) (E:AV->AS->Prop),(∀ s',R s'->N s')->(∀ v s',Q (.pan v) s'->E v s')->wops P G M ops N E ops.toList tm H ds) (hr:∀ s',R s'->Q .normal s') :
  VW P G n r (.region id ops false) Q ⟨tm,H,ds⟩:=
 R10 M fun N E hN hE=>h N E (fun s' hs'=>hN s' (hr s' hs')) hE
theorem VW_seqC (R:AS->Prop) {x y:Code} (h:VW P G n r x (AX.then R Q) s) (hr:∀ s',R s'->VW P G n r y Q s'):VW P G n r (.seq x y) Q s:=
 I10 (h.mono fun e s' he=>by cases e<;>first|exact hr _ he|exact he)
end
mutual
inductive Ex where
 |mk (k n:Int) (s t:ByteArray) (names:List ByteArray) (l:List Ex) (arms:List Ar)
inductive Ar where
 |mk (op:ByteArray) (names:List ByteArray) (body:Ex)
end
namespace Ex
def k:Ex->Int | .mk k _ _ _ _ _ _=>k
def n:Ex->Int | .mk _ n _ _ _ _ _=>n
def s:Ex->ByteArray | .mk _ _ s _ _ _ _=>s
def t:Ex->ByteArray | .mk _ _ _ t _ _ _=>t
def names:Ex->List ByteArray | .mk _ _ _ _ ns _ _=>ns
def l:Ex->List Ex | .mk _ _ _ _ _ l _=>l
def arms:Ex->List Ar | .mk _ _ _ _ _ _ rs=>rs
end Ex
namespace Ar
def op:Ar->ByteArray | .mk o _ _=>o
def names:Ar->List ByteArray | .mk _ ns _=>ns
def body:Ar->Ex | .mk _ _ b=>b
end Ar
def strs (l:List ByteArray):List AV:=l.map AV.str
mutual
def Ex.av:Ex->AV
 |.mk k n s t ns l rs=>.agg [.int k,.int n,.str s,.str t,.list (strs ns),.list (Ex.avL l),.list (Ar.avL rs)]
def Ex.avL:List Ex->List AV
 |[]=>[]
 |e::es=>e.av::Ex.avL es
def Ar.av:Ar->AV
 |.mk op ns b=>.agg (.str op::.list (strs ns)::(Ex.av b).cells)
def Ar.avL:List Ar->List AV
 |[]=>[]
 |a::rs=>a.av::Ar.avL rs
end
theorem Ex.avL_map:∀ l:List Ex,Ex.avL l=l.map Ex.av
 |[]=>rfl
 |e::es=>by simp[Ex.avL,Ex.avL_map es]
theorem Ar.avL_map:∀ l:List Ar,Ar.avL l=l.map Ar.av
 |[]=>rfl
 |e::es=>by simp[Ar.avL,Ar.avL_map es]
def exs (l:List Ex):List AV:=l.map Ex.av
def ars (l:List Ar):List AV:=l.map Ar.av
theorem C10 (e:Ex):e.av.cells=[.int e.k,.int e.n,.str e.s,.str e.t,.list (strs e.names),.list (exs e.l),.list (ars e.arms)]:=by
 cases e;simp[Ex.av,AV.cells,Ex.k,Ex.n,Ex.s,Ex.t,Ex.names,Ex.l,Ex.arms,exs,ars,Ex.avL_map,Ar.avL_map]
theorem J12 (a:Ar):a.av.cells=[.str a.op,.list (strs a.names),.int a.body.k,.int a.body.n,.str a.body.s,.str a.body.t,.list (strs a.body.names),.list (exs a.body.l),.list (ars a.body.arms)]:=by
 cases a with|mk op ns b=>exact congrArg (fun c=>AV.str op::AV.list (strs ns)::c) (C10 b)
theorem ex_fold (k n:Int) (s t:ByteArray) (ns:List ByteArray) (l:List Ex) (rs:List Ar) :
  AV.agg [.int k,.int n,.str s,.str t,.list (strs ns),.list (exs l),.list (ars rs)]=Ex.av (.mk k n s t ns l rs):=by
 simp[Ex.av,exs,ars,Ex.avL_map,Ar.avL_map]
theorem ex_eta (e:Ex):Ex.mk e.k e.n e.s e.t e.names e.l e.arms=e:=by cases e;rfl
theorem ar_fold (op:ByteArray) (ns:List ByteArray) (k n:Int) (s t:ByteArray) (ms:List ByteArray) (l:List Ex) (rs:List Ar) :
  AV.agg [.str op,.list (strs ns),.int k,.int n,.str s,.str t,.list (strs ms),.list (exs l),.list (ars rs)]=Ar.av (.mk op ns (.mk k n s t ms l rs)):=by
 simp[Ar.av,Ex.av,exs,ars,Ex.avL_map,Ar.avL_map,AV.cells]
theorem ar_eta (a:Ar):Ar.mk a.op a.names a.body=a:=by cases a;rfl
theorem ex_one (e:Ex):e.av.one=true:=by cases e;rfl
theorem ar_one (a:Ar):a.av.one=true:=by cases a;rfl
theorem ex_size (e:Ex):e.av.cells.length=7:=by rw[C10];rfl
theorem ar_size (a:Ar):a.av.cells.length=9:=by rw[J12];rfl
theorem ex_k (k n:Int) (s t:ByteArray) (ns:List ByteArray) (l:List Ex) (rs:List Ar):(Ex.mk k n s t ns l rs).k=k:=rfl
theorem ex_n (k n:Int) (s t:ByteArray) (ns:List ByteArray) (l:List Ex) (rs:List Ar):(Ex.mk k n s t ns l rs).n=n:=rfl
theorem ex_s (k n:Int) (s t:ByteArray) (ns:List ByteArray) (l:List Ex) (rs:List Ar):(Ex.mk k n s t ns l rs).s=s:=rfl
theorem ex_t (k n:Int) (s t:ByteArray) (ns:List ByteArray) (l:List Ex) (rs:List Ar):(Ex.mk k n s t ns l rs).t=t:=rfl
theorem ex_names (k n:Int) (s t:ByteArray) (ns:List ByteArray) (l:List Ex) (rs:List Ar):(Ex.mk k n s t ns l rs).names=ns:=rfl
theorem ar_op (o:ByteArray) (ns:List ByteArray) (b:Ex):(Ar.mk o ns b).op=o:=rfl
theorem ar_names (o:ByteArray) (ns:List ByteArray) (b:Ex):(Ar.mk o ns b).names=ns:=rfl
def ES:=And.intro @HM.upd_upd <| And.intro @splice_def <| And.intro @C10 <| And.intro @ex_fold <| And.intro @ex_eta <| And.intro @J12 <| And.intro @ar_fold <| And.intro @ar_eta <| And.intro @ex_one <| And.intro @ar_one <| And.intro @ex_k <| And.intro @ex_n <| And.intro @ex_s <| And.intro @ex_t <| And.intro @ex_names <| And.intro @ar_op @ar_names
def ZS:=And.intro VS <| And.intro WS <| And.intro TS ES
theorem strs_get (l:List ByteArray) (i:Nat):(strs l)[i]?=(l[i]?).map AV.str:=by simp[strs]
theorem O10 (l:List ByteArray):(strs l).length=l.length:=by simp[strs]
theorem Z10 (l:List Ex):(exs l).length=l.length:=by simp[exs]
theorem U11 (l:List Ar):(ars l).length=l.length:=by simp[ars]
theorem strs_at {l:List ByteArray} {i:Nat} (h:i<l.length):(strs l)[i]?=some (.str l[i]):=by simp[strs,h]
theorem exs_at {l:List Ex} {i:Nat} (h:i<l.length):(exs l)[i]?=some l[i].av:=by simp[exs,h]
theorem ars_at {l:List Ar} {i:Nat} (h:i<l.length):(ars l)[i]?=some l[i].av:=by simp[ars,h]
theorem strs_sz (l:List ByteArray):∀ x∈strs l,x.cells.length=1:=by
 intro x hx;obtain ⟨b,_,rfl⟩:=List.mem_map.1 hx;rfl
theorem exs_sz (l:List Ex):∀ x∈exs l,x.cells.length=7:=by
 intro x hx;obtain ⟨b,_,rfl⟩:=List.mem_map.1 hx;exact ex_size b
theorem ars_sz (l:List Ar):∀ x∈ars l,x.cells.length=9:=by
 intro x hx;obtain ⟨b,_,rfl⟩:=List.mem_map.1 hx;exact ar_size b
theorem U13 {x:AV} {p:AV->Prop} (h:p x):∀ y∈[x],p y:=by
 intro y hy;rw[List.mem_singleton.1 hy];exact h
theorem all_two {x x':AV} {p:AV->Prop} (h:p x) (h':p x'):∀ y∈[x,x'],p y:=by
 intro y hy
 rcases List.mem_cons.1 hy with e|hy
 ·rw[e];exact h
 ·rw[List.mem_singleton.1 hy];exact h'
theorem strs_take (l:List ByteArray) (n:Nat):(strs l).take n=strs (l.take n):=by simp[strs]
theorem strs_drop (l:List ByteArray) (n:Nat):(strs l).drop n=strs (l.drop n):=by simp[strs]
theorem ars_take (l:List Ar) (n:Nat):(ars l).take n=ars (l.take n):=by simp[ars]
theorem strs_szc (l:List ByteArray):(∀ x∈strs l,x.cells.length=1)=True:=eq_true (strs_sz l)
theorem nat0 (k:Nat):(0:Int)<=(k:Int):=Int.natCast_nonneg k
theorem wrapN {k:Nat} (h:k<9223372036854775807):IntKind.i64.wrap ((k:Int)+1)=((k+1:Nat):Int):=by
 rw[wrap64]<;>omega
def Ex.parts (e:Ex):List Ex:=e.l++e.arms.map Ar.body
mutual
def Ex.para {α:Type} (f:Ex->List α->α):Ex->α
 |.mk k n s t ns l rs=>f (.mk k n s t ns l rs) (Ex.paraL f l++Ar.paraL f rs)
def Ex.paraL {α:Type} (f:Ex->List α->α):List Ex->List α
 |[]=>[]
 |e::es=>Ex.para f e::Ex.paraL f es
def Ar.para {α:Type} (f:Ex->List α->α):Ar->α
 |.mk _ _ b=>Ex.para f b
def Ar.paraL {α:Type} (f:Ex->List α->α):List Ar->List α
 |[]=>[]
 |a::rs=>Ar.para f a::Ar.paraL f rs
end
theorem Ex.paraL_map {α:Type} (f:Ex->List α->α):∀ l:List Ex,Ex.paraL f l=l.map (Ex.para f)
 |[]=>rfl
 |e::es=>by simp[Ex.paraL,Ex.paraL_map f es]
theorem Ar.paraL_map {α:Type} (f:Ex->List α->α):∀ l:List Ar,Ar.paraL f l=l.map fun a=>Ex.para f a.body
 |[]=>rfl
 |.mk o ns b::es=>by simp[Ar.paraL,Ar.para,Ar.body,Ar.paraL_map f es]
theorem Ex.para_eq {α:Type} (f:Ex->List α->α) (e:Ex):Ex.para f e=f e (e.parts.map (Ex.para f)):=by
 cases e
 simp[Ex.para,Ex.paraL_map,Ar.paraL_map,Ex.parts,Ex.l,Ex.arms,Function.comp_def]
def Ex.nodes:Ex->Nat:=Ex.para fun _ rs=>1+rs.sum
theorem Ex.nodes_eq (e:Ex):e.nodes=1+(e.parts.map Ex.nodes).sum:=Ex.para_eq _ e
theorem le_sum {x:Nat}:∀ {l:List Nat},x∈l->x<=l.sum
 |a::l,h=>by
  rcases List.mem_cons.1 h with e|e
  ·subst e;simp
  ·have:=le_sum e;simp;omega
theorem Ex.part_lt {e x:Ex} (h:x∈e.parts):x.nodes<e.nodes:=by
 rw[Ex.nodes_eq e]
 have:=le_sum (List.mem_map_of_mem (f:=Ex.nodes) h)
 omega
theorem Ex.ind {motive:Ex->Prop} (step:∀ e,(∀ x∈e.parts,motive x)->motive e) (e:Ex):motive e:=by
 generalize hn:e.nodes=n
 induction n using Nat.strongRecOn generalizing e with
 |_ n ih=>exact step e fun x hx=>ih x.nodes (hn▸Ex.part_lt hx) x rfl
def bnd:Nat:=16777216
def fit1 (e:Ex):Prop:=e.s.size<=bnd/\e.t.size<=bnd/\e.names.length<=bnd/\e.l.length<=bnd/\e.arms.length<=bnd/\(∀ x∈e.names,x.size<=bnd)/\∀ a∈e.arms,a.op.size<=bnd/\a.names.length<=bnd/\∀ x∈a.names,x.size<=bnd
def Fit:Ex->Prop:=Ex.para fun e rs=>fit1 e/\∀ r∈rs,r
theorem Fit.eq (e:Ex):Fit e↔fit1 e/\∀ x∈e.parts,Fit x:=by
 unfold Fit
 rw[Ex.para_eq]
 refine and_congr_right fun _=>⟨fun h x hx=>h _ (List.mem_map_of_mem hx),fun h r hr=>?_⟩
 obtain ⟨x,hx,rfl⟩:=List.mem_map.1 hr
 exact h x hx
theorem Fit.one {e:Ex} (h:Fit e):fit1 e:=((Fit.eq e).1 h).1
theorem Fit.part {e x:Ex} (h:Fit e) (hx:x∈e.parts):Fit x:=((Fit.eq e).1 h).2 x hx
theorem mem_l {e:Ex} {i:Nat} (h:i<e.l.length):e.l[i]∈e.parts:=by simp[Ex.parts]
theorem mem_arm {e:Ex} {i:Nat} (h:i<e.arms.length):e.arms[i].body∈e.parts:=by
 simp only[Ex.parts,List.mem_append,List.mem_map]
 exact .inr ⟨_,List.getElem_mem h,rfl⟩
theorem Z11 (e:Ex):e.parts.length=e.l.length+e.arms.length:=by simp[Ex.parts]
theorem bnd_lt:bnd<1000000000:=by decide
theorem bnd_lim {n:Nat} (h:n<=bnd):n<=lim:=Nat.le_trans h (by decide)
set_option maxRecDepth 100000
open Go Go.Proofs.Tryz
section
variable {G:GT} {H:HM}
def index:List ByteArray->ByteArray->Int
 |[],_ => -1
 |x::l,s=>if x=s then 0 else let k:=index l s;if k<0 then -1 else k+1
theorem idx_some:∀ {l:List ByteArray} {s:ByteArray} {k:Nat} (hk:k<l.length),(∀ j,j<k->l[j]?≠some s)->l[k]=s->index l s=k
 |x::l,s,0,_,_,he=>by simp at he;simp[index,he]
 |x::l,s,k+1,hk,h,he=>by
  have hx:x≠s:=by have:=h 0 (by omega);simpa using this
  have ih:=idx_some (l:=l) (s:=s) (k:=k) (by simpa using hk) (fun j hj=>by simpa using h (j+1) (by omega)) (by simpa using he)
  simp only[index,if_neg hx,ih]
  rw[if_neg (by omega)];simp
theorem idx_none:∀ {l:List ByteArray} {s:ByteArray},(∀ j,j<l.length->l[j]?≠some s)->index l s = -1
 |[],s,_=>rfl
 |x::l,s,h=>by
  have hx:x≠s:=by have:=h 0 (by simp);simpa using this
  have ih:=idx_none (l:=l) (s:=s) (fun j hj=>by simpa using h (j+1) (by simpa using hj))
  simp only[index,if_neg hx,ih];rfl
def has (l:List ByteArray) (s:ByteArray):Bool:=l.any fun x=>decide (x=s)
theorem index_has:∀ (l:List ByteArray) (s:ByteArray),decide (0<=index l s)=has l s
 |[],s=>rfl
 |x::l,s=>by
  have ih:=index_has l s
  by_cases hx:x=s
  ·simp[index,has,hx]
  ·simp only[has,List.any_cons,hx,decide_false,Bool.false_or]
   rw[show (l.any fun x=>decide (x=s))=has l s from rfl,<-ih]
   simp only[index,if_neg hx]
   by_cases h:index l s<0
   ·rw[if_pos h,decide_eq_false (by omega),decide_eq_false (by omega)]
   ·rw[if_neg h,decide_eq_true (by omega),decide_eq_true (by omega)]
def without (l:List ByteArray) (s:ByteArray):List ByteArray:=l.filter fun x=>!decide (x=s)
def bytes (s:ByteArray):List UInt8:=s.data.toList
theorem A12 (s:ByteArray):(bytes s).length=s.size:=Array.length_toList
theorem bytes_get (s:ByteArray) (k:Nat):s[k]?=(bytes s)[k]?:=by
 unfold bytes
 rw[Array.getElem?_toList]
 by_cases h:k<s.size
 ·rw[getElem?_pos s k h,Array.getElem?_eq_getElem (show k<s.data.size from h)];rfl
 ·rw[getElem?_neg s k h,Array.getElem?_eq_none (show s.data.size<=k from Nat.le_of_not_lt h)]
def byteIs (lo hi:Int) (c:UInt8):Bool:=decide (lo<=(c.toNat:Int))&&decide ((c.toNat:Int)<=hi)
def wordByte (c:UInt8):Bool:=byteIs 97 122 c||byteIs 65 90 c||byteIs 48 57 c||decide ((c.toNat:Int)=95)
def wordHead (low high:Int) (under:Bool):List UInt8->Bool
 |[]=>false
 |c::cs=>decide (cs.length<12)&&(byteIs low high c||(under&&decide ((c.toNat:Int)=95)))
def word (s:ByteArray) (low high:Int) (under:Bool):Bool:=wordHead low high under (bytes s)&&(bytes s).all wordByte
def keywords:List ByteArray:=[⟨#[102,117,110]⟩,⟨#[108,101,116]⟩,⟨#[114,101,99]⟩,⟨#[105,110]⟩,⟨#[105,102]⟩,⟨#[116,104,101,110]⟩,⟨#[101,108,115,101]⟩,⟨#[109,97,116,99,104]⟩,⟨#[100,111]⟩,
 ⟨#[104,97,110,100,108,101]⟩,⟨#[115,104,97,108,108,111,119]⟩,⟨#[110,97,109,101,100]⟩,⟨#[109,97,115,107]⟩,⟨#[117,115,105,110,103]⟩,⟨#[99,108,111,115,101]⟩,⟨#[114,101,115,117,109,101]⟩,
 ⟨#[100,114,111,112]⟩,⟨#[114,101,116,117,114,110]⟩,⟨#[116,114,117,101]⟩,⟨#[102,97,108,115,101]⟩,⟨#[100,97,116,97]⟩,⟨#[101,102,102,101,99,116]⟩,⟨#[111,110,99,101]⟩,⟨#[100,101,102]⟩,⟨#[109,97,105,110]⟩]
def isVar (s:ByteArray):Bool:=word s 97 122 true&&!has keywords s
def isUpper (s:ByteArray):Bool:=word s 65 90 false
end
end Go.V
namespace Go.Proofs
open Go.Shelf
def Tryz.lays157_ren:Go.Shelf.Ren:=⟨fun|157=>164|229=>186|199=>187|261=>201|311=>208|312=>209|n=>n,fun|9=>9|31=>23|3=>3|5=>5|4=>4|119=>210|0=>0|40=>212|152=>226|21=>21|154=>228|51=>207|141=>230|196=>243|193=>240|198=>246|49=>244|194=>241|201=>249|226=>251|46=>186|227=>252|n=>n,fun|0=>1|6=>2|n=>n⟩
theorem Tryz.lays157:Go.Proofs.Lays.n157 Tryz.prog Tryz.lays157_ren:={
 mixed:=by kernel_rfl
 f157:=Tryz.func164.trans (congrArg some (by kernel_rfl))
 f199:=Tryz.func187.trans (congrArg some (by kernel_rfl))
 f229:=Tryz.func186.trans (congrArg some (by kernel_rfl))
 f261:=Tryz.func201.trans (congrArg some (by kernel_rfl))
 f311:=Tryz.func208.trans (congrArg some (by kernel_rfl))
 f312:=Tryz.func209.trans (congrArg some (by kernel_rfl))
 t0:=Tryz.underlying0
 a0:=Tryz.isAgg0
 z0:=Tryz.sizeOf0
 v0:=Tryz.zeroValue0
 t3:=Tryz.underlying3
 a3:=Tryz.isAgg3
 z3:=Tryz.sizeOf3
 v3:=Tryz.zeroValue3
 t4:=Tryz.underlying4
 a4:=Tryz.isAgg4
 z4:=Tryz.sizeOf4
 v4:=Tryz.zeroValue4
 t5:=Tryz.underlying5
 a5:=Tryz.isAgg5
 z5:=Tryz.sizeOf5
 v5:=Tryz.zeroValue5
 t9:=Tryz.underlying9
 a9:=Tryz.isAgg9
 z9:=Tryz.sizeOf9
 v9:=Tryz.zeroValue9
 t21:=Tryz.underlying21
 a21:=Tryz.isAgg21
 z21:=Tryz.sizeOf21
 v21:=Tryz.zeroValue21
 t31:=Tryz.underlying23
 a31:=Tryz.isAgg23
 z31:=Tryz.sizeOf23
 v31:=Tryz.zeroValue23
 t40:=Tryz.underlying212
 a40:=Tryz.isAgg212
 z40:=Tryz.sizeOf212
 v40:=Tryz.zeroValue212
 t46:=Tryz.underlying186
 a46:=Tryz.isAgg186
 z46:=Tryz.sizeOf186
 v46:=Tryz.zeroValue186
 t49:=Tryz.underlying244
 a49:=Tryz.isAgg244
 z49:=Tryz.sizeOf244
 v49:=Tryz.zeroValue244
 t51:=Tryz.underlying207
 a51:=Tryz.isAgg207
 z51:=Tryz.sizeOf207
 v51:=Tryz.zeroValue207
 t119:=Tryz.underlying210
 a119:=Tryz.isAgg210
 z119:=Tryz.sizeOf210
 t141:=Tryz.underlying230
 a141:=Tryz.isAgg230
 z141:=Tryz.sizeOf230
 v141:=Tryz.zeroValue230
 t152:=Tryz.underlying226
 a152:=Tryz.isAgg226
 z152:=Tryz.sizeOf226
 v152:=Tryz.zeroValue226
 t154:=Tryz.underlying228
 a154:=Tryz.isAgg228
 z154:=Tryz.sizeOf228
 v154:=Tryz.zeroValue228
 t193:=Tryz.underlying240
 a193:=Tryz.isAgg240
 z193:=Tryz.sizeOf240
 v193:=Tryz.zeroValue240
 t194:=Tryz.underlying241
 a194:=Tryz.isAgg241
 z194:=Tryz.sizeOf241
 v194:=Tryz.zeroValue241
 t196:=Tryz.underlying243
 a196:=Tryz.isAgg243
 z196:=Tryz.sizeOf243
 v196:=Tryz.zeroValue243
 t198:=Tryz.underlying246
 a198:=Tryz.isAgg246
 z198:=Tryz.sizeOf246
 v198:=Tryz.zeroValue246
 t201:=Tryz.underlying249
 a201:=Tryz.isAgg249
 z201:=Tryz.sizeOf249
 v201:=Tryz.zeroValue249
 t226:=Tryz.underlying251
 a226:=Tryz.isAgg251
 z226:=Tryz.sizeOf251
 v226:=Tryz.zeroValue251
 t227:=Tryz.underlying252
 a227:=Tryz.isAgg252
 z227:=Tryz.sizeOf252
 v227:=Tryz.zeroValue252
 g0:=by kernel_rfl
 g6:=by kernel_rfl }
def Tryz.laysM171_ren:Go.Shelf.Ren:=⟨fun|171=>107|243=>139|246=>165|283=>188|284=>189|285=>190|286=>191|129=>185|317=>202|318=>203|319=>204|320=>205|337=>210|338=>211|n=>n,fun|3=>3|9=>9|2=>2|4=>4|171=>213|0=>0|53=>209|37=>215|5=>5|173=>216|212=>233|51=>207|20=>20|213=>234|46=>186|232=>253|233=>254|n=>n,fun|17=>3|18=>4|19=>5|n=>n⟩
theorem Tryz.laysM171:Go.Proofs.LaysM.n171 Tryz.prog Tryz.laysM171_ren:={
 mixed:=by kernel_rfl
 f129:=Tryz.func185.trans (congrArg some (by kernel_rfl))
 f171:=Tryz.func107.trans (congrArg some (by kernel_rfl))
 f243:=Tryz.func139.trans (congrArg some (by kernel_rfl))
 f246:=Tryz.func165.trans (congrArg some (by kernel_rfl))
 f283:=Tryz.func188.trans (congrArg some (by kernel_rfl))
 f284:=Tryz.func189.trans (congrArg some (by kernel_rfl))
 f285:=Tryz.func190.trans (congrArg some (by kernel_rfl))
 f286:=Tryz.func191.trans (congrArg some (by kernel_rfl))
 f317:=Tryz.func202.trans (congrArg some (by kernel_rfl))
 f318:=Tryz.func203.trans (congrArg some (by kernel_rfl))
 f319:=Tryz.func204.trans (congrArg some (by kernel_rfl))
 f320:=Tryz.func205.trans (congrArg some (by kernel_rfl))
 f337:=Tryz.func210.trans (congrArg some (by kernel_rfl))
 f338:=Tryz.func211.trans (congrArg some (by kernel_rfl))
 t0:=Tryz.underlying0
 a0:=Tryz.isAgg0
 z0:=Tryz.sizeOf0
 v0:=Tryz.zeroValue0
 t2:=Tryz.underlying2
 a2:=Tryz.isAgg2
 z2:=Tryz.sizeOf2
 v2:=Tryz.zeroValue2
 t3:=Tryz.underlying3
 a3:=Tryz.isAgg3
 z3:=Tryz.sizeOf3
 v3:=Tryz.zeroValue3
 t4:=Tryz.underlying4
 a4:=Tryz.isAgg4
 z4:=Tryz.sizeOf4
 v4:=Tryz.zeroValue4
 t5:=Tryz.underlying5
 a5:=Tryz.isAgg5
 z5:=Tryz.sizeOf5
 v5:=Tryz.zeroValue5
 t9:=Tryz.underlying9
 a9:=Tryz.isAgg9
 z9:=Tryz.sizeOf9
 v9:=Tryz.zeroValue9
 t20:=Tryz.underlying20
 a20:=Tryz.isAgg20
 z20:=Tryz.sizeOf20
 v20:=Tryz.zeroValue20
 t37:=Tryz.underlying215
 a37:=Tryz.isAgg215
 z37:=Tryz.sizeOf215
 v37:=Tryz.zeroValue215
 t46:=Tryz.underlying186
 a46:=Tryz.isAgg186
 z46:=Tryz.sizeOf186
 v46:=Tryz.zeroValue186
 t51:=Tryz.underlying207
 a51:=Tryz.isAgg207
 z51:=Tryz.sizeOf207
 v51:=Tryz.zeroValue207
 t53:=Tryz.underlying209
 a53:=Tryz.isAgg209
 z53:=Tryz.sizeOf209
 v53:=Tryz.zeroValue209
 t171:=Tryz.underlying213
 a171:=Tryz.isAgg213
 z171:=Tryz.sizeOf213
 v171:=Tryz.zeroValue213
 t173:=Tryz.underlying216
 a173:=Tryz.isAgg216
 z173:=Tryz.sizeOf216
 v173:=Tryz.zeroValue216
 t212:=Tryz.underlying233
 a212:=Tryz.isAgg233
 z212:=Tryz.sizeOf233
 v212:=Tryz.zeroValue233
 t213:=Tryz.underlying234
 a213:=Tryz.isAgg234
 z213:=Tryz.sizeOf234
 t232:=Tryz.underlying253
 a232:=Tryz.isAgg253
 z232:=Tryz.sizeOf253
 v232:=Tryz.zeroValue253
 t233:=Tryz.underlying254
 a233:=Tryz.isAgg254
 z233:=Tryz.sizeOf254
 v233:=Tryz.zeroValue254
 g17:=by kernel_rfl
 g18:=by kernel_rfl
 g19:=by kernel_rfl
 i0:=by kernel_rfl
 i2:=by kernel_rfl
 i3:=by kernel_rfl
 i4:=by kernel_rfl
 i5:=by kernel_rfl
 i9:=by kernel_rfl
 i20:=by kernel_rfl
 i37:=by kernel_rfl
 i46:=by kernel_rfl
 i51:=by kernel_rfl
 i53:=by kernel_rfl
 i171:=by kernel_rfl
 i173:=by kernel_rfl
 i212:=by kernel_rfl
 i232:=by kernel_rfl
 i233:=by kernel_rfl
 m17:=by kernel_rfl
 m18:=by kernel_rfl
 m19:=by kernel_rfl }
def Tryz.lays190_ren:Go.Shelf.Ren:=⟨fun|190=>133|125=>163|258=>162|128=>184|129=>185|302=>175|303=>176|304=>177|305=>178|306=>179|307=>180|308=>181|309=>182|310=>183|333=>195|329=>196|330=>197|334=>198|335=>199|336=>200|344=>207|n=>n,fun|31=>23|9=>9|3=>3|46=>186|0=>0|51=>207|53=>209|4=>4|183=>200|182=>199|131=>70|5=>5|218=>220|222=>224|228=>237|229=>238|n=>n,fun|n=>n⟩
theorem Tryz.lays190:Go.Proofs.Lays.n190 Tryz.prog Tryz.lays190_ren:={
 mixed:=by kernel_rfl
 f125:=Tryz.func163.trans (congrArg some (by kernel_rfl))
 f128:=Tryz.func184.trans (congrArg some (by kernel_rfl))
 f129:=Tryz.func185.trans (congrArg some (by kernel_rfl))
 f190:=Tryz.func133.trans (congrArg some (by kernel_rfl))
 f258:=Tryz.func162.trans (congrArg some (by kernel_rfl))
 f302:=Tryz.func175.trans (congrArg some (by kernel_rfl))
 f303:=Tryz.func176.trans (congrArg some (by kernel_rfl))
 f304:=Tryz.func177.trans (congrArg some (by kernel_rfl))
 f305:=Tryz.func178.trans (congrArg some (by kernel_rfl))
 f306:=Tryz.func179.trans (congrArg some (by kernel_rfl))
 f307:=Tryz.func180.trans (congrArg some (by kernel_rfl))
 f308:=Tryz.func181.trans (congrArg some (by kernel_rfl))
 f309:=Tryz.func182.trans (congrArg some (by kernel_rfl))
 f310:=Tryz.func183.trans (congrArg some (by kernel_rfl))
 f329:=Tryz.func196.trans (congrArg some (by kernel_rfl))
 f330:=Tryz.func197.trans (congrArg some (by kernel_rfl))
 f333:=Tryz.func195.trans (congrArg some (by kernel_rfl))
 f334:=Tryz.func198.trans (congrArg some (by kernel_rfl))
 f335:=Tryz.func199.trans (congrArg some (by kernel_rfl))
 f336:=Tryz.func200.trans (congrArg some (by kernel_rfl))
 f344:=Tryz.func207.trans (congrArg some (by kernel_rfl))
 t0:=Tryz.underlying0
 a0:=Tryz.isAgg0
 z0:=Tryz.sizeOf0
 v0:=Tryz.zeroValue0
 t3:=Tryz.underlying3
 a3:=Tryz.isAgg3
 z3:=Tryz.sizeOf3
 v3:=Tryz.zeroValue3
 t4:=Tryz.underlying4
 a4:=Tryz.isAgg4
 z4:=Tryz.sizeOf4
 v4:=Tryz.zeroValue4
 t5:=Tryz.underlying5
 a5:=Tryz.isAgg5
 z5:=Tryz.sizeOf5
 v5:=Tryz.zeroValue5
 t9:=Tryz.underlying9
 a9:=Tryz.isAgg9
 z9:=Tryz.sizeOf9
 v9:=Tryz.zeroValue9
 t31:=Tryz.underlying23
 a31:=Tryz.isAgg23
 z31:=Tryz.sizeOf23
 v31:=Tryz.zeroValue23
 t46:=Tryz.underlying186
 a46:=Tryz.isAgg186
 z46:=Tryz.sizeOf186
 v46:=Tryz.zeroValue186
 t51:=Tryz.underlying207
 a51:=Tryz.isAgg207
 z51:=Tryz.sizeOf207
 v51:=Tryz.zeroValue207
 t53:=Tryz.underlying209
 a53:=Tryz.isAgg209
 z53:=Tryz.sizeOf209
 v53:=Tryz.zeroValue209
 t131:=Tryz.underlying70
 a131:=Tryz.isAgg70
 z131:=Tryz.sizeOf70
 v131:=Tryz.zeroValue70
 t182:=Tryz.underlying199
 a182:=Tryz.isAgg199
 z182:=Tryz.sizeOf199
 v182:=Tryz.zeroValue199
 t183:=Tryz.underlying200
 a183:=Tryz.isAgg200
 z183:=Tryz.sizeOf200
 v183:=Tryz.zeroValue200
 t218:=Tryz.underlying220
 a218:=Tryz.isAgg220
 z218:=Tryz.sizeOf220
 v218:=Tryz.zeroValue220
 t222:=Tryz.underlying224
 a222:=Tryz.isAgg224
 z222:=Tryz.sizeOf224
 v222:=Tryz.zeroValue224
 t228:=Tryz.underlying237
 a228:=Tryz.isAgg237
 z228:=Tryz.sizeOf237
 v228:=Tryz.zeroValue237
 t229:=Tryz.underlying238
 a229:=Tryz.isAgg238
 z229:=Tryz.sizeOf238
 v229:=Tryz.zeroValue238 }
end Go.Proofs
set_option linter.unusedVariables false
set_option linter.unusedSimpArgs false
set_option linter.defProp false
set_option maxRecDepth 100000
namespace Go.V
open Go Go.Proofs Go.Proofs.Tryz
def spaceTab:List Value:=(List.range 256).map fun c=>.int .u8 (if Lib.isSp (UInt8.ofNat c) then 1 else 0)
def powTab:List Value:=Lib.pow10Tab.map fun z=>.int .u64 z
structure Tabs (G:GT):Prop where
 space:G 1=some (spaceTab.map AV.val)
 pow:G 3=some (powTab.map AV.val)
section
variable {G:GT} {H:HM}
theorem repL_vals {I:Nat->Prop} {w:World}:∀ {l vs:List Value},RepL I w (l.map AV.val) vs->vs=l
 |[],_,.nil=>rfl
 |_::_,_,.cons h hs=>by rw[h.val_eq,repL_vals hs]
theorem glob_cells {w:World} {g:Nat} {l:List Value} (hst:St G H w) (h:G g=some (l.map AV.val)):∃ t fr,w.heap[g]?=some (.cells l.toArray t fr):=by
 obtain ⟨vs,t,fr,h1,_,h3,_⟩:=hst.glob g _ h
 rw[repL_vals h3] at h1
 exact ⟨t,fr,h1⟩
theorem repL_one {I:Nat->Prop} {w:World} {v:Value} {vs:List Value} (h:RepL I w [.val v] vs):vs=[v]:=by
 cases h with|cons h0 h1=>cases h1;rw[h0.val_eq]
theorem bytes_mk (s:ByteArray):(⟨(bytes s).toArray⟩:ByteArray)=s:=by cases s;rfl
theorem flat_strs (l:List ByteArray):flat (strs l)=l.map fun s=>AV.val (.string s):=by
 induction l with
 |nil=>rfl
 |cons x l ih=>rw[show strs (x::l)=AV.str x::strs l from rfl,flat_cons,ih];rfl
def kwText:ByteArray:=⟨#[102,117,110,32,108,101,116,32,114,101,99,32,105,110,32,105,102,32,116,104,101,110,32,101,108,115,101,32,109,97,116,99,104,32,100,111,32,104,97,110,100,108,101,32,115,104,97,108,108,111,119,32,110,97,109,101,100,32,109,97,115,107,32,117,115,105,110,103,32,99,108,111,115,101,32,114,101,115,117,109,101,32,100,114,111,112,32,114,101,116,117,114,110,32,116,114,117,101,32,102,97,108,115,101,32,100,97,116,97,32,101,102,102,101,99,116,32,111,110,99,101,32,100,101,102,32,109,97,105,110]⟩
theorem kw_fields0:Lib.fields kwText.data.toList=keywords.map bytes:=by decide
theorem kw_fields:(Lib.fields kwText.data.toList).map (fun l=>Value.string ⟨l.toArray⟩)=keywords.map Value.string:=by
 rw[kw_fields0,List.map_map]
 exact List.map_congr_left fun x _=>congrArg Value.string (bytes_mk x)
theorem kw_ascii:∀ (j:Nat) b,kwText.data.toList[j]?=some b->b.toNat<128:=by
 have h:∀ b∈kwText.data.toList,b.toNat<128:=by decide
 exact fun j b hj=>h b (List.mem_of_getElem? hj)
theorem fields_c (hG:Tabs G):PureF prog G 164 [.str kwText] H (.list (strs keywords)):=by
 refine ⟨by kernel_rfl,fun K hk w vs hr hst=>?_⟩
 rw[repL_one hr]
 obtain ⟨t,fr,hw⟩:=glob_cells hst hG.space
 have h:=Any.strings_Fields_core lays157 (by kernel_rfl) kwText w (by decide) kw_ascii (fun c hc=>by
  show w.cell? ⟨1,c,none⟩=_
  rw[World.cell?]
  simp only[hw]
  simp[spaceTab,hc])
 have hlen:(Lib.fields kwText.data.toList).length=keywords.length:=by
  have:=congrArg List.length kw_fields
  simpa using this
 rw[kw_fields,hlen] at h
 refine CallsIn.mono (callsIn_wide.2 h) ?_
 rintro e w' ⟨rfl,rfl⟩
 have hrep:RepL (Imm H w) w (flat (strs keywords)) (keywords.map Value.string):=by
  rw[flat_strs]
  refine RepL.map_ _ _ _ fun x hx=>.val _ ?_
  have:∀ y∈keywords,y.size<=68719476736:=by decide
  exact this x hx
 obtain ⟨a1,a2,a3⟩:=new_row_imm (e:=9) (sz:=1) hrep (by intro u hu;obtain ⟨x,_,rfl⟩:=List.mem_map.1 hu;rfl) (strs_sz _) (by rw[O10];decide) hst
 rw[O10] at a3
 exact ⟨_,H,hk,a3,a1,a2⟩
theorem evo_grow {w:World} (hst:St G H w) (k:Nat) (os:Array Obj):St G H (Go.Sort.grow (w.drewN k) os)/\Evo H w H (Go.Sort.grow (w.drewN k) os):=by
 have hh:∀ b,b<w.heap.size->(Go.Sort.grow (w.drewN k) os).heap[b]?=w.heap[b]?:=fun b hb=>by
  show (w.heap++os)[b]?=_
  rw[Array.getElem?_append_left hb]
 have he:Evo H w H (Go.Sort.grow (w.drewN k) os):=⟨rfl,rfl,rfl,by show w.heap.size<=(w.heap++os).size;simp,fun b hb=>⟨hb.2,hh b hb.1⟩⟩
 exact ⟨hst.evo he fun b o e=>hh b (hst.obj b o e).lt,he⟩
def itoa (n:Nat):ByteArray:=⟨(Lib.itoa n).toArray⟩
theorem itoa_c (hG:Tabs G) (n:Nat) (hn:n<=9223372036854775807) (hs:(itoa n).size<=lim):PureF prog G 107 [.int n] H (.str (itoa n)):=by
 refine ⟨by kernel_rfl,fun K hk w vs hr hst=>?_⟩
 rw[repL_one hr]
 obtain ⟨t,fr,hw⟩:=glob_cells hst hG.pow
 have h:=Any.strconv_Itoa laysM171 (n:Int) (by omega) (by omega) w (by
  show World.var? prog w "internal/strconv.uint64pow10" = _
  have hg:prog.globalNamed "internal/strconv.uint64pow10" = some 3:=by kernel_rfl
  simp only[World.var?,hg,Option.bind_some,hw]
  rfl)
 refine CallsIn.mono (callsIn_wide.2 h) ?_
 rintro e w' ⟨rfl,k,os,rfl⟩
 obtain ⟨a1,a2⟩:=evo_grow hst k os
 exact ⟨_,H,hk,.val _ hs,a1,a2⟩
def sortB (l:List ByteArray):List ByteArray:=((l.map bytes).mergeSort fun x y=>decide (x<=y)).map fun x=>⟨x.toArray⟩
theorem sortB_perm (l:List ByteArray):(sortB l).Perm l:=by
 have h:=(List.mergeSort_perm (l.map bytes) fun x y=>decide (x<=y)).map fun x:List UInt8=>(⟨x.toArray⟩:ByteArray)
 rw[List.map_map] at h
 have e:l.map ((fun x:List UInt8=>(⟨x.toArray⟩:ByteArray))∘bytes)=l:=by
  conv=>rhs;rw[<-List.map_id l]
  exact List.map_congr_left fun x _=>bytes_mk x
 rw[e] at h;exact h
theorem sortB_len (l:List ByteArray):(sortB l).length=l.length:=(sortB_perm l).length_eq
theorem putCells_row (ss:List (List UInt8)) (vs rest:List Value) (h:vs.length=ss.length):Go.Sort.putCells encStr 0 ss.toArray (vs++rest).toArray=(ss.map encStr++rest).toArray:=by
 apply Array.ext'
 simp only[Go.Sort.putCells,Array.toList_mapIdx]
 apply List.ext_getElem?
 intro i
 simp only[List.getElem?_mapIdx]
 by_cases hi:i<ss.length
 ·rw[List.getElem?_append_left (by omega),List.getElem?_append_left (by simpa using hi)]
  rw[List.getElem?_eq_getElem (show i<vs.length by omega),List.getElem?_map,List.getElem?_eq_getElem hi]
  simp[hi]
 ·rw[List.getElem?_append_right (by omega),List.getElem?_append_right (by simpa using hi)]
  simp only[List.length_map,h]
  cases rest[i-ss.length]? with
  |none=>rfl
  |some v=>simp[hi]
theorem sort_c (l:List ByteArray) (b n cap:Nat) (hl:l.length<=lim) (hn:n=l.length) (hx:∀ x∈l,x.size<=lim) (hb:H b=some (.row 9 1 cap (strs l))) {K:ARes->HM->Prop} (hk:K (.ret .unit) (H.upd b (.row 9 1 cap (strs (sortB l))))) :
  CallF prog G 133 [.mlist b n cap] H K:=by
 intro w vs hr hst
 subst hn
 obtain rfl:vs=[.slice (some ⟨b,0,none⟩) l.length cap]:=by
  cases hr with|cons h0 h1=>cases h1;cases h0;rfl
 obtain ⟨us,rest,q1,q2,q3,q4,q5,q6⟩:=hst.obj _ _ hb
 have hfl:flat (strs l)=(l.map Value.string).map AV.val:=by rw[flat_strs,List.map_map];rfl
 rw[hfl] at q2
 have hus:=repL_vals q2
 subst hus
 have hlt:=(Array.getElem?_eq_some_iff.1 q1).1
 have hH:Go.Sort.Holds encStr w b 0 (l.map bytes).toArray:=by
  intro j hj
  have hj':j<l.length:=by simpa using hj
  constructor
  ·rw[World.cell?]
   simp only[q1]
   simp[hj',encStr,bytes_mk]
   rw[List.getElem?_append_left (by simpa using hj')]
   simp[hj']
  ·exact frozen_block q1
 have h0:∀ (cs:List Frame),∃ e w' fr,(e=.returned (.tuple #[])/\∃ n os,w'=Go.Sort.grow (Go.Sort.putRow encStr (Go.Sort.ahead w n) b 0 ((l.map bytes).mergeSort fun x y=>decide (x<=y)).toArray) os) /\
   Comes prog (lone (Frame.enter prog 133 #[.slice (some ⟨b,0,none⟩) l.length cap] .normal) cs w) (lone fr cs w') e/\fr.fn=133/\fr.leaving prog w' e:=by
  intro cs
  obtain ⟨e,w',fr,r,s,x⟩:=(AnyS.slices_Sort_string_in lays190 (cs.length+67) b 0 cap (l.map bytes) w hH hlt (by unfold lim at hl;simp;omega)).2 cs (fun d hd=>by cases hd;omega)
  rw[List.length_map] at s
  exact ⟨e,w',fr,r,s.comes,x⟩
 have h1:Calls prog 133 #[.slice (some ⟨b,0,none⟩) l.length cap] w _:=fun cs=>h0 cs
 refine CallsIn.mono (callsIn_wide.2 h1) ?_
 rintro e w' ⟨rfl,m,os,rfl⟩
 generalize hss:((l.map bytes).mergeSort fun x y=>decide (x<=y))=ss
 have hsl:ss.length=l.length:=by rw[<-hss];simp
 have hsb:sortB l=ss.map fun x=>(⟨x.toArray⟩:ByteArray):=by rw[sortB,hss]
 obtain ⟨W,hW⟩:∃ W,W=Go.Sort.grow (Go.Sort.putRow encStr (Go.Sort.ahead w m) b 0 ss.toArray) os:=⟨_,rfl⟩
 rw[<-hW]
 have hsz:w.heap.size<=W.heap.size:=by rw[hW];show w.heap.size<=((w.heap.modify b _)++os).size;simp
 have hother:∀ k,k<w.heap.size->k≠b->W.heap[k]?=w.heap[k]?:=fun k hk hkb=>by
  rw[hW]
  show ((w.heap.modify b _)++os)[k]?=_
  rw[Array.getElem?_append_left (by simpa using hk),Array.getElem?_modify,if_neg (Ne.symm hkb)]
 have hself:W.heap[b]?=some (.cells (ss.map encStr++rest).toArray 9 (0,0)):=by
  rw[hW]
  show ((w.heap.modify b (Go.Sort.onCells (Go.Sort.putCells encStr 0 ss.toArray)))++os)[b]?=_
  rw[Array.getElem?_append_left (by simpa using hlt),Array.getElem?_modify,if_pos rfl,q1]
  simp only[Option.map_some,Go.Sort.onCells]
  rw[putCells_row ss _ rest (by rw[hsl];simp)]
 have hev:Evo H w (H.upd b (.row 9 1 cap (strs (sortB l)))) W:=by
  refine ⟨by rw[hW];rfl,by rw[hW];rfl,by rw[hW];rfl,hsz,fun k hi=>?_⟩
  have hkb:k≠b:=fun e=>by have:=hi.2;rw[e,hb] at this;cases this
  exact ⟨by rw[HM.upd_ne _ _ hkb];exact hi.2,hother k hi.1 hkb⟩
 have hss2:∀ x∈sortB l,x.size<=lim:=fun x hx'=>hx x ((sortB_perm l).mem_iff.1 hx')
 refine ⟨.unit,_,hk,Y12 _ _,?_,hev⟩
 refine ⟨fun k o e=>?_,fun g cs e=>(hst.glob g cs e).map (fun hi _=>hev.imm _ hi) (fun hi _=>hev.same _ hi) fun hr=>hev.repL hr⟩
 by_cases hkb:k=b
 ·subst hkb
  rw[HM.upd_same] at e;cases e
  refine ⟨ss.map encStr,rest,hself,?_,strs_sz _,?_,?_,?_⟩
  ·have e1:=flat_strs (sortB l)
   have e2:ss.map encStr=(sortB l).map Value.string:=by rw[hsb,List.map_map];rfl
   rw[e1,e2]
   exact RepL.map_ _ _ _ fun x hx'=>.val _ (hss2 x hx')
  ·intro u hu;obtain ⟨x,_,rfl⟩:=List.mem_map.1 hu;rfl
  ·rw[O10,sortB_len];simpa[O10] using q5
  ·rw[O10,sortB_len];simpa[O10] using q6
 ·rw[HM.upd_ne _ _ hkb] at e
  exact (hst.obj k o e).keep hev.imm hev.same (hother k (hst.obj k o e).lt hkb)
end
def leL:List UInt8->List UInt8->Bool
 |[],_=>true
 |_::_,[]=>false
 |a::l,b::m=>if Nat.blt a.toNat b.toNat then true else if Nat.blt b.toNat a.toNat then false else leL l m
theorem leL_eq:∀ (x y:List UInt8),leL x y=decide (x<=y)
 |[],y=>by simp[leL]
 |a::l,[]=>by simp[leL,<-List.not_lt]
 |a::l,b::m=>by
  have ih:=leL_eq l m
  have e:(a::l<=b::m)↔a<b\/a=b/\l<=m:=by
   rw[<-List.not_lt,List.cons_lt_cons_iff,<-List.not_lt]
   constructor
   ·intro h
    by_cases h1:a<b
    ·exact .inl h1
    ·by_cases h2:a=b
     ·exact .inr ⟨h2,fun h3=>h (.inr ⟨h2.symm,h3⟩)⟩
     ·exfalso
      refine h (.inl ?_)
      have h1':¬ a.toNat<b.toNat:=h1
      have h2':a.toNat≠b.toNat:=fun e=>h2 (UInt8.toNat_inj.1 e)
      show b.toNat<a.toNat
      omega
   ·rintro (h|⟨rfl,h⟩) (h'|⟨h1,h'⟩)
    ·have h1:a.toNat<b.toNat:=h
     have h2:b.toNat<a.toNat:=h'
     omega
    ·subst h1
     have h1:b.toNat<b.toNat:=h
     omega
    ·have h2:a.toNat<a.toNat:=h'
     omega
    ·exact h h'
  unfold leL
  have n1:Nat.blt a.toNat b.toNat=decide (a<b):=by
   rw[Bool.eq_iff_iff,decide_eq_true_iff];simp[Nat.blt,Nat.ble_eq];rfl
  have n2:Nat.blt b.toNat a.toNat=decide (b<a):=by
   rw[Bool.eq_iff_iff,decide_eq_true_iff];simp[Nat.blt,Nat.ble_eq];rfl
  rw[n1,n2,ih]
  by_cases h1:a<b
  ·rw[decide_eq_true h1,if_pos rfl]
   exact (decide_eq_true (e.2 (.inl h1))).symm
  ·by_cases h2:b<a
   ·rw[decide_eq_false h1,decide_eq_true h2]
    simp only[Bool.false_eq_true,if_false,if_true]
    refine (decide_eq_false fun h=>?_).symm
    rcases e.1 h with h|⟨rfl,_⟩
    ·exact h1 h
    ·exact h1 h2
   ·have h3:a=b:=by
     refine UInt8.toNat_inj.1 ?_
     have h1':¬ a.toNat<b.toNat:=h1
     have h2':¬ b.toNat<a.toNat:=h2
     omega
    rw[decide_eq_false h1,decide_eq_false h2]
    simp only[Bool.false_eq_true,if_false]
    refine decide_eq_decide.2 ?_
    rw[e]
    exact ⟨fun h=>.inr ⟨h3,h⟩,fun h=>h.elim (fun h=>absurd h h1) (·.2)⟩
theorem leL_trans {x y z:List UInt8} (h1:leL x y=true) (h2:leL y z=true):leL x z=true:=by
 rw[leL_eq,decide_eq_true_iff] at *
 exact List.le_trans h1 h2
theorem leL_total (x y:List UInt8):(leL x y||leL y x)=true:=by
 rw[leL_eq,leL_eq]
 rcases List.le_total x y with h|h<;>simp[h]
theorem leL_antisymm {x y:List UInt8} (h1:leL x y=true) (h2:leL y x=true):x=y:=by
 rw[leL_eq,decide_eq_true_iff] at *
 exact List.le_antisymm h1 h2
def insB (a:ByteArray):List ByteArray->List ByteArray
 |[]=>[a]
 |b::l=>if leL a.data.toList b.data.toList then a::b::l else b::insB a l
def isort:List ByteArray->List ByteArray
 |[]=>[]
 |a::l=>insB a (isort l)
theorem insB_perm (a:ByteArray):∀ l,(insB a l).Perm (a::l)
 |[]=>.refl _
 |b::l=>by
  unfold insB
  split
  ·exact .refl _
  ·exact ((insB_perm a l).cons b).trans (List.Perm.swap a b l)
theorem isort_perm:∀ l,(isort l).Perm l
 |[]=>.refl _
 |a::l=>(insB_perm a _).trans ((isort_perm l).cons a)
def SortedB (l:List ByteArray):Prop:=l.Pairwise fun x y=>leL (bytes x) (bytes y)=true
theorem insB_sorted (a:ByteArray):∀ l,SortedB l->SortedB (insB a l)
 |[],_=>by simp[insB,SortedB]
 |b::l,h=>by
  have h':=List.pairwise_cons.1 h
  unfold insB
  split
  ·rename_i hab
   refine List.pairwise_cons.2 ⟨fun x hx=>?_,h⟩
   rcases List.mem_cons.1 hx with rfl|hx
   ·exact hab
   ·exact leL_trans hab (h'.1 x hx)
  ·rename_i hab
   refine List.pairwise_cons.2 ⟨fun x hx=>?_,insB_sorted a l h'.2⟩
   rcases List.mem_cons.1 ((insB_perm a l).mem_iff.1 hx) with rfl|hx
   ·have:=leL_total (bytes x) (bytes b)
    simp only[bytes] at this ⊢
    simp only[Bool.or_eq_true] at this
    exact this.resolve_left hab
   ·exact h'.1 x hx
theorem isort_sorted:∀ l,SortedB (isort l)
 |[]=>by simp[isort,SortedB]
 |a::l=>insB_sorted a _ (isort_sorted l)
theorem sortB_sorted (l:List ByteArray):SortedB (sortB l):=by
 unfold SortedB sortB
 rw[List.pairwise_map]
 have:=List.pairwise_mergeSort (le:=fun x y:List UInt8=>decide (x<=y)) (fun a b c h1 h2=>by
   rw[<-leL_eq] at *;exact leL_trans h1 h2) (fun a b=>by rw[<-leL_eq,<-leL_eq];exact leL_total a b) (l.map bytes)
 refine this.imp fun {a b} h=>?_
 rw[leL_eq];exact h
theorem sorted_unique {l m:List ByteArray} (hp:l.Perm m) (h1:SortedB l) (h2:SortedB m):l=m:=by
 refine List.Perm.eq_of_pairwise (fun a b _ _ h3 h4=>?_) h1 h2 hp
 have e:=leL_antisymm h3 h4
 rw[<-bytes_mk a,<-bytes_mk b,e]
theorem sortB_isort {l m:List ByteArray} (h:l.Perm m):sortB l=isort m:=
 sorted_unique ((sortB_perm l).trans (h.trans (isort_perm m).symm)) (sortB_sorted l) (isort_sorted m)
def dig (d:Nat):UInt8:=UInt8.ofNat (48+d)
def digK:Nat->Nat->List UInt8->List UInt8
 |0,_,acc=>acc
 |f+1,u,acc=>if Nat.blt u 10 then dig u::acc else digK f (u / 10) (dig (u % 10)::acc)
theorem digK_eq:∀ (f u:Nat) (acc:List UInt8),u<10 ^ f->0<f->digK f u acc=Lib.decDigits u++acc
 |0,_,_,_,h=>absurd h (by omega)
 |f+1,u,acc,h,_=>by
  unfold digK
  rw[Lib.decDigits]
  by_cases hu:u<10
  ·rw[if_pos (by rw[Nat.blt,Nat.ble_eq];exact hu),dif_pos hu];rfl
  ·rw[if_neg (by rw[Nat.blt,Nat.ble_eq];exact hu),dif_neg hu]
   cases f with
   |zero=>simp at h;omega
   |succ f=>
    rw[digK_eq (f+1) (u / 10) _ (by rw[Nat.pow_succ] at h;omega) (by omega),List.append_assoc];rfl
def itoaK (n:Nat):ByteArray:=⟨(digK 20 n []).toArray⟩
theorem itoaK_eq {n:Nat} (h:n<=9223372036854775807):itoaK n=itoa n:=by
 unfold itoaK itoa
 rw [digK_eq 20 n [] (by have : 9223372036854775807 < 10 ^ 20 := by decide
                         omega) (by decide),List.append_nil]
 unfold Lib.itoa
 rw[if_neg (by omega)];rfl
theorem digK_len:∀ (f u:Nat) (acc:List UInt8),(digK f u acc).length<=f+acc.length
 |0,_,acc=>by simp[digK]
 |f+1,u,acc=>by
  unfold digK
  split
  ·simp;omega
  ·have:=digK_len f (u / 10) (dig (u % 10)::acc)
   simp at this;omega
theorem itoaK_size (n:Nat):(itoaK n).size<=20:=by
 have:=digK_len 20 n []
 simpa[itoaK,ByteArray.size] using this
section
variable {P:Program} {G:GT} {n:Nat} {r:Option Nat} {Q:AX->AS->Prop} {H:HM}
theorem V11 {i b t:Nat} {cs:List AV} {c:Code} {tm:Nat->AV} {ds:List ADef} (hb:H b=none) (ht:tm i=.addr b 0) (h:VW P G n r c Q ⟨upd tm i (.ref cs),H,ds⟩):VW P G n r c Q ⟨tm,H.upd b (.cells t cs),ds⟩:=by
 refine VW_see (s:=⟨tm,H.upd b (.cells t cs),ds⟩) (i:=i) (H1:=H) (v':=.ref cs) (Drop.upd hb) ?_ h
 show View G _ H (tm i) _
 rw[ht]
 exact View.cells (off:=0) (Drop.upd hb) (HM.upd_same _ _ _) hb
end
theorem get_at (s:ByteArray) (k:Nat) (h:k<s.size):s.get! k=s[k]:=by
 cases s with|mk d=>
 show d[k]! = d[k]
 exact getElem!_pos d k h
theorem decode_lo (s:ByteArray) (k:Nat) (h:k<s.size) (hb:s[k].toNat<128):Utf8.decode s k=(s[k].toNat,1):=by
 unfold Utf8.decode
 simp only[Nat.add_zero,get_at s k h,hb,if_true]
theorem decode_hi (s:ByteArray) (k:Nat) (h:k<s.size) (hb:¬ s[k].toNat<128):128<=(Utf8.decode s k).1:=by
 unfold Utf8.decode
 simp only[Nat.add_zero,get_at s k h,hb,if_false]
 have e:Utf8.runeError=65533:=rfl
 repeat' split
 all_goals first|(simp only[e];omega)|(simp only[Bool.and_eq_true,decide_eq_true_eq] at *;omega)|(simp_all;omega)
def kindI (c:Int):Int:=
 if decide (c=32)||decide (c=9)||decide (c=10) then 1
 else if decide (c=95)||(decide (97<=c)&&decide (c<=122)) then 2
 else if decide (65<=c)&&decide (c<=90) then 3
 else if decide (48<=c)&&decide (c<=57) then 4 else 0
section
variable {G:GT} {H:HM}
theorem kind_c (c:Int):PureF prog G 137 [.val (.int .u8 c)] H (.int (kindI c)):=by
 refine P10 (fn:=f137) func137 rfl (by kernel_rfl) (by kernel_rfl) (Nat.le_of_ble_eq_true (by kernel_rfl)) fun K hk=>?_
 refine A10 [] fun N E hN hE=>?_
 simp +decide only[ZS,↓reduceIte]
 refine hN _ ?_
 clear hN hE N E
 refine I10 (J10 ?_)
 refine O11 [] (fun s'=>s'.tmps 3=.bool (decide (c=32)||decide (c=9)||decide (c=10))/\s'.tmps 0=.val (.int .u8 c)/\s'.H=H/\s'.defs=[]) (fun N E hN hE=>?_) ?_
 ·clear hE
  try clear hk
  simp +decide only[ZS,↓reduceIte]
  repeat' (refine V10 (fun hb=>?_) (fun hb=>?_)<;>simp +decide only[ZS,↓reduceIte, *])
  all_goals refine hN _ ?_
  all_goals clear hN
  all_goals refine ⟨?_,?_,?_,?_⟩
  all_goals first|rfl|assumption|(simp only[C10];rfl)|(simp +decide only[ZS,↓reduceIte]<;>simp_all;done)|(simp +decide only[ZS,↓reduceIte]<;>simp_all<;>omega)
 rintro ⟨tb1,Hb1,dsb⟩ ⟨fb3,fb0,gHb,gdsb⟩
 obtain rfl:H=Hb1:=gHb.symm
 obtain rfl:dsb=[]:=gdsb
 try simp only[C10] at fb0
 refine B10 3 _ fb3 (B10 0 _ fb0 ?_)
 rw[kindI] at hk
 refine T10 rfl (fun hc=>?_) (fun hc=>?_)
 ·refine A10 [] fun N E hN hE=>?_
  simp +decide only[ZS,↓reduceIte]
  refine hN _ ?_
  clear hN hE N E
  refine L10 (K10 2 rfl ?_)
  simp +decide only[ZS,↓reduceIte]
  rw[if_pos hc] at hk;exact hk
 rw[if_neg (by rw[hc];decide)] at hk
 refine O11 [] (fun s'=>s'.tmps 14=.bool (decide (c=95)||(decide (97<=c)&&decide (c<=122)))/\s'.tmps 0=.val (.int .u8 c)/\s'.H=H/\s'.defs=[]) (fun N E hN hE=>?_) ?_
 ·clear hE
  try clear hk
  simp +decide only[ZS,↓reduceIte]
  repeat' (refine V10 (fun hb=>?_) (fun hb=>?_)<;>simp +decide only[ZS,↓reduceIte, *])
  all_goals refine hN _ ?_
  all_goals clear hN
  all_goals refine ⟨?_,?_,?_,?_⟩
  all_goals first|rfl|assumption|(simp only[C10];rfl)|(simp +decide only[ZS,↓reduceIte]<;>simp_all;done)|(simp +decide only[ZS,↓reduceIte]<;>simp_all<;>omega)
 rintro ⟨tb2,Hb2,dsb⟩ ⟨fb14,fb0,gHb,gdsb⟩
 obtain rfl:H=Hb2:=gHb.symm
 obtain rfl:dsb=[]:=gdsb
 try simp only[C10] at fb0
 refine B10 14 _ fb14 (B10 0 _ fb0 ?_)
 refine T10 rfl (fun hc=>?_) (fun hc=>?_)
 ·refine A10 [] fun N E hN hE=>?_
  simp +decide only[ZS,↓reduceIte]
  refine hN _ ?_
  clear hN hE N E
  refine L10 (K10 2 rfl ?_)
  simp +decide only[ZS,↓reduceIte]
  rw[if_pos hc] at hk;exact hk
 rw[if_neg (by rw[hc];decide)] at hk
 refine O11 [] (fun s'=>s'.tmps 25=.bool (decide (65<=c)&&decide (c<=90))/\s'.tmps 0=.val (.int .u8 c)/\s'.H=H/\s'.defs=[]) (fun N E hN hE=>?_) ?_
 ·clear hE
  try clear hk
  simp +decide only[ZS,↓reduceIte]
  repeat' (refine V10 (fun hb=>?_) (fun hb=>?_)<;>simp +decide only[ZS,↓reduceIte, *])
  all_goals refine hN _ ?_
  all_goals clear hN
  all_goals refine ⟨?_,?_,?_,?_⟩
  all_goals first|rfl|assumption|(simp only[C10];rfl)|(simp +decide only[ZS,↓reduceIte]<;>simp_all;done)|(simp +decide only[ZS,↓reduceIte]<;>simp_all<;>omega)
 rintro ⟨tb3,Hb3,dsb⟩ ⟨fb25,fb0,gHb,gdsb⟩
 obtain rfl:H=Hb3:=gHb.symm
 obtain rfl:dsb=[]:=gdsb
 try simp only[C10] at fb0
 refine B10 25 _ fb25 (B10 0 _ fb0 ?_)
 refine T10 rfl (fun hc=>?_) (fun hc=>?_)
 ·refine A10 [] fun N E hN hE=>?_
  simp +decide only[ZS,↓reduceIte]
  refine hN _ ?_
  clear hN hE N E
  refine L10 (K10 2 rfl ?_)
  simp +decide only[ZS,↓reduceIte]
  rw[if_pos hc] at hk;exact hk
 rw[if_neg (by rw[hc];decide)] at hk
 refine O11 [] (fun s'=>s'.tmps 32=.bool (decide (48<=c)&&decide (c<=57))/\s'.tmps 0=.val (.int .u8 c)/\s'.H=H/\s'.defs=[]) (fun N E hN hE=>?_) ?_
 ·clear hE
  try clear hk
  simp +decide only[ZS,↓reduceIte]
  repeat' (refine V10 (fun hb=>?_) (fun hb=>?_)<;>simp +decide only[ZS,↓reduceIte, *])
  all_goals refine hN _ ?_
  all_goals clear hN
  all_goals refine ⟨?_,?_,?_,?_⟩
  all_goals first|rfl|assumption|(simp only[C10];rfl)|(simp +decide only[ZS,↓reduceIte]<;>simp_all;done)|(simp +decide only[ZS,↓reduceIte]<;>simp_all<;>omega)
 rintro ⟨tb4,Hb4,dsb⟩ ⟨fb32,fb0,gHb,gdsb⟩
 obtain rfl:H=Hb4:=gHb.symm
 obtain rfl:dsb=[]:=gdsb
 try simp only[C10] at fb0
 refine B10 32 _ fb32 (B10 0 _ fb0 ?_)
 refine T10 rfl (fun hc=>?_) (fun hc=>?_)
 ·refine A10 [] fun N E hN hE=>?_
  simp +decide only[ZS,↓reduceIte]
  refine hN _ ?_
  clear hN hE N E
  refine L10 (K10 2 rfl ?_)
  simp +decide only[ZS,↓reduceIte]
  rw[if_pos hc] at hk;exact hk
 rw[if_neg (by rw[hc];decide)] at hk
 refine G10 ?_
 refine A10 [] fun N E hN hE=>?_
 simp +decide only[ZS,↓reduceIte]
 refine hN _ ?_
 clear hN hE N E
 refine L10 (K10 2 rfl ?_)
 simp +decide only[ZS,↓reduceIte]
 exact hk
end
def lexHead (fk:Int):List UInt8->Bool
 |[]=>false
 |c::cs=>decide (cs.length<12)&&decide (kindI c.toNat=fk)
def lexWord (s:ByteArray) (fk:Int):Bool:=lexHead fk (bytes s)&&(bytes s).all wordByte
theorem kind2 (c:UInt8):decide (kindI c.toNat=2)=(byteIs 97 122 c||(true&&decide ((c.toNat:Int)=95))):=by
 rw[Bool.eq_iff_iff]
 simp only[kindI,byteIs,Bool.or_eq_true,Bool.and_eq_true,decide_eq_true_eq,true_and]
 repeat' split
 all_goals (try simp only[Bool.or_eq_true,Bool.and_eq_true,decide_eq_true_eq] at *)
 all_goals first|omega|(simp only[true_iff];omega)
theorem kind3 (c:UInt8):decide (kindI c.toNat=3)=(byteIs 65 90 c||(false&&decide ((c.toNat:Int)=95))):=by
 rw[Bool.eq_iff_iff]
 simp only[kindI,byteIs,Bool.or_eq_true,Bool.and_eq_true,decide_eq_true_eq,Bool.false_eq_true,false_and,or_false]
 repeat' split
 all_goals (try simp only[Bool.or_eq_true,Bool.and_eq_true,decide_eq_true_eq] at *)
 all_goals first|omega|(simp only[true_iff];omega)
theorem kind_word (c:UInt8):decide (kindI c.toNat<2)=!wordByte c:=by
 rw[Bool.eq_iff_iff]
 simp only[kindI,wordByte,byteIs,Bool.not_eq_true',Bool.or_eq_false_iff,Bool.and_eq_false_iff,decide_eq_true_eq,decide_eq_false_iff_not]
 repeat' split
 all_goals (try simp only[Bool.or_eq_true,Bool.and_eq_true,decide_eq_true_eq] at *)
 all_goals first|omega|(simp only[true_iff];omega)
theorem lexWord2 (s:ByteArray):lexWord s 2=word s 97 122 true:=by
 unfold lexWord word
 cases bytes s with
 |nil=>rfl
 |cons c cs=>simp only[lexHead,wordHead,kind2]
theorem lexWord3 (s:ByteArray):lexWord s 3=word s 65 90 false:=by
 unfold lexWord word
 cases bytes s with
 |nil=>rfl
 |cons c cs=>simp only[lexHead,wordHead,kind3]
theorem bytes_at (s:ByteArray) (k:Nat) (h:k<s.size):(bytes s)[k]?=some s[k]:=by
 rw[<-bytes_get,getElem?_pos s k h]
section
variable {G:GT} {H:HM}
theorem lword_c (s:ByteArray) (fk:Int) (hs:s.size<=lim):PureF prog G 104 [.str s,.int fk] H (.bool (lexWord s fk)):=by
 refine P10 (fn:=f104) func104 rfl (by kernel_rfl) (by kernel_rfl) (Nat.le_of_ble_eq_true (by kernel_rfl)) fun K hk=>?_
 refine A10 [] fun N E hN hE=>?_
 simp +decide only[ZS,↓reduceIte]
 refine hN _ ?_
 clear hN hE N E
 refine I10 (O11 [] (fun s'=>s'.tmps 20=.bool (!lexHead fk (bytes s))/\s'.tmps 0=.str s/\s'.H=H/\s'.defs=[]) (fun N E hN hE=>?_) ?_)
 ·clear hE hk
  have hlen:=A12 s
  have h0:s[0]?=(bytes s)[0]?:=bytes_get s 0
  rcases hb:bytes s with _|⟨c,cs⟩
  ·rw[hb] at hlen
   have he:decide (s=⟨#[]⟩)=true:=by
    rw[decide_eq_true_eq,<-bytes_mk s,hb]
   simp +decide only[ZS,↓reduceIte,he]
   refine hN _ ⟨?_,?_,rfl,rfl⟩
   ·simp +decide only[ZS,↓reduceIte]
    rw[hb];rfl
   ·rfl
  ·rw[hb] at hlen h0
   rw[List.length_cons] at hlen
   have he:decide (s=⟨#[]⟩)=false:=by
    rw[decide_eq_false_iff_not]
    rintro rfl
    have:bytes ⟨#[]⟩=[]:=rfl
    rw[this] at hb;cases hb
   have h1:s[Int.toNat 0]?=some c:=by simpa using h0
   have h2:decide ((12:Int)<s.size)=!decide (cs.length<12):=by
    rw[Bool.eq_iff_iff];simp;omega
   clear h0
   simp +decide only[ZS,↓reduceIte,he,h1,h2]
   refine V10 (fun hc=>?_) (fun hc=>?_)
   ·simp +decide only[ZS,↓reduceIte,he,h1,h2,hc]
    refine hN _ ⟨?_,?_,rfl,rfl⟩
    ·simp +decide only[ZS,↓reduceIte]
     simp only[hb,lexHead]
     have:decide (cs.length<12)=false:=by simpa using hc
     rw[this];rfl
    ·rfl
   ·simp +decide only[ZS,↓reduceIte,he,h1,h2,hc]
    refine D10 (kind_c _) ?_
    simp +decide only[ZS,↓reduceIte,he,h1,h2,hc]
    refine hN _ ⟨?_,?_,rfl,rfl⟩
    ·simp +decide only[ZS,↓reduceIte]
     simp only[hb,lexHead]
     have:decide (cs.length<12)=true:=by simpa using hc
     rw[this,Bool.true_and]
    ·rfl
 rintro ⟨tm1,H1,ds⟩ ⟨f20,f0,gH,gds⟩
 obtain rfl:H=H1:=gH.symm
 obtain rfl:ds=[]:=gds
 refine B10 20 _ f20 (B10 0 _ f0 ?_)
 refine T10 rfl (fun hc=>?_) (fun hc=>?_)
 ·refine A10 [] fun N E hN hE=>?_
  simp +decide only[ZS,↓reduceIte]
  refine hN _ ?_
  clear hN hE N E
  refine L10 (K10 4 rfl ?_)
  simp +decide only[ZS,↓reduceIte]
  rw[lexWord,show lexHead fk (bytes s)=false from by simpa using hc] at hk;exact hk
 have hh:lexHead fk (bytes s)=true:=by simpa using hc
 rw[lexWord,hh,Bool.true_and] at hk
 refine G10 ?_
 refine I10 (A10 [] fun N E hN hE=>?_)
 simp +decide only[ZS,↓reduceIte]
 refine F10 fun b hb=>?_
 simp +decide only[ZS,↓reduceIte]
 refine hN _ ?_
 clear hN hE N E
 refine J10 ?_
 refine C11 (fun k s'=>k<=s.size/\(∀ j c,j<k->(bytes s)[j]?=some c->wordByte c=true)/\s'.tmps 22=.addr b 0/\s'.H=H.upd b (.siter s k)/\s'.defs=[]) (fun k=>s.size-k) 0 ⟨Nat.zero_le _,by simp,rfl,rfl,rfl⟩ ?_
 rintro k ⟨tm,H',ds⟩ ⟨hk1,hk2,h22,hH,hds⟩
 obtain rfl:H'=H.upd b (.siter s k):=hH
 obtain rfl:ds=[]:=hds
 have hbs:(H.upd b (.siter s k)) b=some (.siter s k):=HM.upd_same _ _ _
 have hd:Drop (H.upd b (.siter s k)) H:=Drop.upd hb
 refine B10 22 _ h22 ?_
 refine A10 [] fun N E hN hE=>?_
 simp +decide only[ZS,↓reduceIte,hbs]
 by_cases hlt:k<s.size
 ·refine wnxS_yes hlt ?_
  simp +decide only[ZS,↓reduceIte]
  refine hN _ ?_
  clear hN hE N E
  refine I10 (T10 rfl (fun hc=>?_) (fun hc=>?_))
  ·refine G10 ?_
   refine J10 ?_
   refine A10 [] fun N E hN hE=>?_
   simp +decide only[ZS,↓reduceIte]
   refine hN _ ?_
   clear hN hE N E
   have hcb:=bytes_at s k hlt
   have hd2:Drop (H.upd b (.siter s (k+(Utf8.decode s k).2))) H:=Drop.upd hb
   refine O11 [] (fun s'=>s'.tmps 33=.bool (!wordByte s[k])/\s'.tmps 22=.addr b 0/\s'.H=H.upd b (.siter s (k+(Utf8.decode s k).2))/\s'.defs=[]) (fun N E hN hE=>?_) ?_
   ·clear hE hk
    by_cases hlo:s[k].toNat<128
    ·have hde:=decode_lo s k hlt hlo
     have h127:decide ((127:Int)<(s[k].toNat:Int))=false:=by rw[decide_eq_false_iff_not];omega
     have hw:IntKind.u8.wrap (s[k].toNat:Int)=s[k].toNat:=(by decide:∀ n:Nat,n<128->IntKind.u8.wrap (n:Int)=n) _ hlo
     rw[hde]
     simp +decide only[ZS,↓reduceIte,h127]
     refine D10 (kind_c _) ?_
     simp +decide only[ZS,↓reduceIte,h127]
     refine hN _ ⟨?_,?_,by rw[hde],rfl⟩
     ·simp +decide only[ZS,↓reduceIte]
      rw[hw,kind_word]
     ·rfl
    ·have hde:=decode_hi s k hlt hlo
     have h127:decide ((127:Int)<((Utf8.decode s k).1:Int))=true:=by rw[decide_eq_true_eq];omega
     simp +decide only[ZS,↓reduceIte,h127]
     refine hN _ ⟨?_,?_,rfl,rfl⟩
     ·simp +decide only[ZS,↓reduceIte]
      have:wordByte s[k]=false:=by
       simp only[wordByte,byteIs,Bool.or_eq_false_iff,Bool.and_eq_false_iff,decide_eq_false_iff_not]
       omega
      rw[this];rfl
     ·rfl
   rintro ⟨tm2,H2,ds⟩ ⟨f33,f22,gH,gds⟩
   obtain rfl:H2=H.upd b (.siter s (k+(Utf8.decode s k).2)):=gH
   obtain rfl:ds=[]:=gds
   refine B10 33 _ f33 (B10 22 _ f22 ?_)
   refine T10 rfl (fun hc=>?_) (fun hc=>?_)
   ·refine A10 [] fun N E hN hE=>?_
    simp +decide only[ZS,↓reduceIte]
    refine hN _ ?_
    clear hN hE N E
    refine L10 (Fin_retD 4 rfl hd2 ?_)
    simp +decide only[ZS,↓reduceIte]
    have:(bytes s).all wordByte=false:=by
     rw[List.all_eq_false]
     exact ⟨s[k],List.mem_of_getElem? hcb,by simpa using hc⟩
    rwa [this] at hk
   ·have hwb:wordByte s[k]=true:=by simpa using hc
    have hlo:s[k].toNat<128:=by
     simp only[wordByte,byteIs,Bool.or_eq_true,Bool.and_eq_true,decide_eq_true_eq] at hwb
     omega
    rw[decode_lo s k hlt hlo]
    refine G10 ?_
    refine ⟨k+1,⟨hlt,?_,rfl,rfl,rfl⟩,by omega⟩
    intro j c' hj hcj
    rcases Nat.lt_succ_iff_lt_or_eq.1 hj with h|rfl
    ·exact hk2 j c' h hcj
    ·rw[hcb] at hcj;cases hcj;exact hwb
  ·cases hc
 ·refine wnxS_no hlt ?_
  simp +decide only[ZS,↓reduceIte]
  refine hN _ ?_
  clear hN hE N E
  refine I10 (T10 rfl (fun hc=>?_) (fun hc=>?_))
  ·cases hc
  refine L11 ?_
  refine A10 [] fun N E hN hE=>?_
  simp +decide only[ZS,↓reduceIte]
  refine hN _ ?_
  clear hN hE N E
  refine L10 (Fin_retD 4 rfl hd ?_)
  simp +decide only[ZS,↓reduceIte]
  have:(bytes s).all wordByte=true:=by
   rw[List.all_eq_true]
   intro c hcm
   obtain ⟨j,hj⟩:=List.mem_iff_getElem?.1 hcm
   have:=(List.getElem?_eq_some_iff.1 hj).1
   rw[A12] at this
   exact hk2 j c (by omega) hj
  rwa [this] at hk
def kwMap (l:List ByteArray):List (AV×AV):=l.map fun k=>(.str k,.int 1)
theorem sameKeyV_str (s x:ByteArray):sameKeyV (.string s) (.string x)=decide (x=s):=by
 show (s==x)=_
 rw[Bool.eq_iff_iff,ba_beq,decide_eq_true_eq]
 exact eq_comm
theorem assoc_kw (s:ByteArray):∀ l:List ByteArray,assoc (.string s) (kwMap l)=if has l s then some (.int 1) else none
 |[]=>rfl
 |x::l=>by
  have ih:=assoc_kw s l
  show (if sameKeyV (.string s) (.string x) then some (AV.int 1) else assoc (.string s) (kwMap l))=_
  rw[ih,sameKeyV_str]
  show _=if (decide (x=s)||has l s) then some (AV.int 1) else none
  cases decide (x=s)<;>simp
theorem assocSet_kw (s:ByteArray):∀ l:List ByteArray,has l s=false->assocSet (.string s) (.int 1) (kwMap l)=kwMap (l++[s])
 |[],_=>rfl
 |x::l,h=>by
  have h':(decide (x=s)||has l s)=false:=h
  rw[Bool.or_eq_false_iff] at h'
  show (if sameKeyV (.string s) (.string x) then (AV.str s,AV.int 1)::kwMap l else (AV.str x,AV.int 1)::assocSet (.string s) (.int 1) (kwMap l))=_
  rw[assocSet_kw s l h'.2,sameKeyV_str,h'.1,if_neg (by decide)]
  rfl
theorem keywords_pc (hG:Tabs G):PureF prog G 138 [] H (.imap (kwMap keywords)):=by
 refine P10 (fn:=f138) func138 rfl (by kernel_rfl) (by kernel_rfl) (Nat.le_of_ble_eq_true (by kernel_rfl)) fun K hk=>?_
 refine A10 [] fun N E hN hE=>?_
 simp +decide only[ZS,↓reduceIte]
 refine hN _ ?_
 clear hN hE N E
 refine A10 [] fun N E hN hE=>?_
 simp +decide only[ZS,↓reduceIte]
 refine F10 fun b hb=>?_
 simp +decide only[ZS,↓reduceIte]
 refine hN _ ?_
 clear hN hE N E
 refine I10 (A10 [] fun N E hN hE=>?_)
 simp +decide only[ZS,↓reduceIte]
 refine D10 (fields_c hG) ?_
 simp +decide only[ZS,↓reduceIte]
 refine hN _ ?_
 clear hN hE N E
 refine J10 ?_
 refine C11 (fun k s'=>k<=keywords.length/\s'.tmps 5=.list (strs keywords)/\s'.tmps 6=.int keywords.length/\s'.tmps 1=.map b/\s'.tmps 7=.int k/\s'.H=H.upd b (.map (kwMap (keywords.take k)))/\s'.defs=[]) (fun k=>keywords.length-k) 0 ⟨Nat.zero_le _,rfl,rfl,rfl,rfl,rfl,rfl⟩ ?_
 rintro k ⟨tm,H',ds⟩ ⟨hk1,h5,h6,h1,h7,hH,hds⟩
 obtain rfl:H'=H.upd b (.map (kwMap (keywords.take k))):=hH
 obtain rfl:ds=[]:=hds
 have hbs:(H.upd b (.map (kwMap (keywords.take k)))) b=some (.map (kwMap (keywords.take k))):=HM.upd_same _ _ _
 refine B10 5 _ h5 (B10 6 _ h6 (B10 1 _ h1 (B10 7 _ h7 ?_)))
 refine A10 [] fun N E hN hE=>?_
 simp +decide only[ZS,↓reduceIte]
 refine hN _ ?_
 clear hN hE N E
 refine I10 (T10 rfl (fun hc=>?_) (fun hc=>?_))
 ·have hlt:k<keywords.length:=by have:=of_decide_eq_true hc;omega
  refine G10 ?_
  refine I10 (J10 ?_)
  refine A10 [] fun N E hN hE=>?_
  simp +decide only[ZS,↓reduceIte,strs_at hlt,nat0,Int.toNat_natCast]
  refine hN _ ?_
  clear hN hE N E
  refine R10 [] fun N E hN hE=>?_
  simp +decide only[ZS,↓reduceIte,hbs]
  refine ⟨rfl,?_,?_⟩
  ·simp only[keysOk,kwMap,List.all_map,List.all_eq_true]
   intro x _;rfl
  refine hN _ ?_
  clear hN hE N E
  refine R10 [] fun N E hN hE=>?_
  simp +decide only[ZS,↓reduceIte,wrapN (show k<9223372036854775807 by have:keywords.length=25:=rfl;omega)]
  refine hN _ ?_
  clear hN hE N E
  refine ⟨k+1,⟨hlt,rfl,rfl,rfl,rfl,?_,rfl⟩,by omega⟩
  have hd:∀ i,i<25->has (keywords.take i) (keywords.getD i ⟨#[]⟩)=false:=by decide
  have hh:=hd k hlt
  rw[show keywords.getD k ⟨#[]⟩=keywords[k] from by simp[List.getD,hlt]] at hh
  show H.upd b (.map _)=_
  rw[assocSet_kw _ _ hh,List.take_succ_eq_append_getElem hlt]
 ·refine L11 ?_
  have hk3:k=keywords.length:=by have:=of_decide_eq_false hc;omega
  subst hk3
  refine A10 [] fun N E hN hE=>?_
  simp +decide only[ZS,↓reduceIte]
  refine hN _ ?_
  clear hN hE N E
  refine L10 ?_
  exact Fin_drop (B12 0 rfl) (Drop.upd hb) (View.map (Drop.upd hb) (HM.upd_same _ _ _) hb) hk
theorem kw_keysOk (l:List ByteArray):keysOk .str (kwMap l)=true:=by
 simp only[keysOk,kwMap,List.all_map,List.all_eq_true]
 intro x _;rfl
theorem keyword_c (hG:Tabs G) (s:ByteArray):PureF prog G 105 [.str s] H (.bool (has keywords s)):=by
 refine P10 (fn:=f105) func105 rfl (by kernel_rfl) (by kernel_rfl) (Nat.le_of_ble_eq_true (by kernel_rfl)) fun K hk=>?_
 refine A10 [] fun N E hN hE=>?_
 simp +decide only[ZS,↓reduceIte]
 refine hN _ ?_
 clear hN hE N E
 refine A10 [] fun N E hN hE=>?_
 simp +decide only[ZS,↓reduceIte]
 refine D10 (keywords_pc hG) ?_
 have hv:vlk (some .str) (some ⟨.int .i64,1,8,.val (.int .i64 0)⟩) (kwMap keywords) (.string s) true=some (.tup [if has keywords s then .int 1 else .int 0,.bool (has keywords s)]):=by
  simp only[vlk,kw_keysOk,keyFits,Bool.and_self,if_true,assoc_kw]
  cases has keywords s<;>rfl
 simp +decide only[ZS,↓reduceIte,hv]
 refine hN _ ?_
 clear hN hE N E
 refine A10 [] fun N E hN hE=>?_
 simp +decide only[ZS,↓reduceIte]
 refine hN _ ?_
 clear hN hE N E
 refine L10 (K10 2 rfl ?_)
 simp +decide only[ZS,↓reduceIte]
 exact hk
theorem pIsVar_c (hG:Tabs G) (s:ByteArray) (hs:s.size<=lim):PureF prog G 60 [.str s] H (.bool (isVar s)):=by
 refine P10 (fn:=f60) func60 rfl (by kernel_rfl) (by kernel_rfl) (Nat.le_of_ble_eq_true (by kernel_rfl)) fun K hk=>?_
 refine A10 [] fun N E hN hE=>?_
 simp +decide only[ZS,↓reduceIte]
 refine hN _ ?_
 clear hN hE N E
 refine A10 [] fun N E hN hE=>?_
 simp +decide only[ZS,↓reduceIte]
 refine D10 (lword_c s 2 hs) ?_
 rw[lexWord2]
 simp +decide only[ZS,↓reduceIte]
 refine V10 (fun hb=>?_) (fun hb=>?_)
 ·simp +decide only[ZS,↓reduceIte,hb]
  refine D10 (keyword_c hG s) ?_
  simp +decide only[ZS,↓reduceIte,hb]
  refine hN _ ?_
  clear hN hE N E
  refine L10 (K10 2 rfl ?_)
  simp +decide only[ZS,↓reduceIte]
  simpa[isVar,hb] using hk
 ·simp +decide only[ZS,↓reduceIte,hb]
  refine hN _ ?_
  clear hN hE N E
  refine L10 (K10 2 rfl ?_)
  simp +decide only[ZS,↓reduceIte]
  simpa[isVar,hb] using hk
theorem pIsUpper_c (s:ByteArray) (hs:s.size<=lim):PureF prog G 192 [.str s] H (.bool (isUpper s)):=by
 refine P10 (fn:=f192) func192 rfl (by kernel_rfl) (by kernel_rfl) (Nat.le_of_ble_eq_true (by kernel_rfl)) fun K hk=>?_
 refine A10 [] fun N E hN hE=>?_
 simp +decide only[ZS,↓reduceIte]
 refine hN _ ?_
 clear hN hE N E
 refine A10 [] fun N E hN hE=>?_
 simp +decide only[ZS,↓reduceIte]
 refine D10 (lword_c s 3 hs) ?_
 rw[lexWord3]
 simp +decide only[ZS,↓reduceIte]
 refine hN _ ?_
 clear hN hE N E
 refine L10 (K10 2 rfl ?_)
 simp +decide only[ZS,↓reduceIte]
 exact hk
end
end Go.V
