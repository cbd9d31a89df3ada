/- What the listed package-level tables hold, and a world that holds them. No condition. Expressions that come in: from their reading as data to trees. No condition. Expressions that come in: from their reading as data to trees. No condition. A world that holds the listed tables; what a call that keeps all that lay there answers. No condition. Arguments that are expressions: read before, and read again. No condition. -/
import Derived.Test.YtjeiboididfgmaaGreatDoorRE
import Derived.Test.YtjeiboididfgmaaGreatDoorRows
import Derived.Lib.LaidTab
import Derived.Lib.LaidU8
import Derived.Test.YtjeiboididfgmaaGreatDoorRF
import Derived.DataReads
import Derived.ChangeArms
import Derived.Test.YtjeiboididfgmaaGreatDoorChecked
import Derived.Deep.DeepHandedRow
import Derived.Deep.DeepWitnessRowRef
import Derived.Deep.DeepLaidRun
import Derived.ChangeSame
import Derived.ProofKit
import Derived.ReadAgain
import Derived.OpenShut
set_option linter.unusedVariables false
set_option linter.unusedSimpArgs false
set_option linter.defProp false
set_option maxRecDepth 100000
namespace Go.V
open Go Go.Proofs Go.Proofs.Tryz Go.Proofs.YtjeiboididfgmaaGreatDoor
def litV:Lit->Value
 |.bool b=>.bool b
 |.int k n=>.int k n
 |_=>.bool false
def litTy (P:Program) (t:TypeId):Bool:=match P.underlying t with
 |some .bool|some (.int _)=>true
 |_=>false
section
variable {H:Type} {enc:TypeId×Value->H} {P:Program} {w:World} {base:Nat} {sp:Nat->Bool} {held:Bool}
theorem lit_cells {fuel:Nat} {t:TypeId} {cs:List Value} {l:Lit} {p:List MemPlace} (ht:litTy P t=true) (h:DataW.trod enc P w base sp held fuel t cs=some (.lit l,p)):cs=[litV l]:=by
 unfold litTy at ht
 split at ht<;>try (cases ht;done)
 ·rename_i hd
  obtain ⟨b,rfl,hx⟩:=DataW.trod_bool hd h
  cases hx;rfl
 ·rename_i k hd
  obtain ⟨n,rfl,hx,_⟩:=DataW.trod_int hd h
  cases hx;rfl
def rowTy (P:Program) (t:TypeId):Bool:=match P.underlying t with
 |some (.struct fs)=>Nat.beq (P.cellsOf t) fs.size&&(fs.toList.zipIdx.all fun f=>Nat.beq f.1.offset f.2&&Nat.beq (P.cellsOf f.1.type) 1&&litTy P f.1.type)
 |_=>false
theorem row_cells {fuel:Nat} {t:TypeId} {cs:List Value} {ls:List Lit} {p:List MemPlace} (ht:rowTy P t=true) (h:DataW.trod enc P w base sp held fuel t cs=some (.agg (ls.map .lit),p)):cs=ls.map litV:=by
 unfold rowTy at ht
 split at ht<;>try (cases ht;done)
 rename_i fs hd
 simp only[Bool.and_eq_true] at ht
 obtain ⟨hn,hall⟩:=ht
 have hn:=Nat.eq_of_beq_eq_true hn
 cases fuel with
 |zero=>simp[DataW.trod] at h
 |succ fuel=>
  unfold DataW.trod at h
  rw[hd] at h
  simp only at h
  split at h
  ·rename_i hl
   obtain ⟨xs,hm,hx⟩:=Option.map_eq_some_iff.1 h
   have hxs:xs.map (·.1)=ls.map fun z=>(DataW.lit z:DataW H):=by
    have:=congrArg Prod.fst hx
    simpa using this
   have hxl:xs.length=fs.size:=by simpa using Lib.mapM_length hm
   have hzl:ls.length=fs.size:=by
    have:=congrArg List.length hxs
    simp at this
    omega
   apply List.ext_getElem?
   intro i
   by_cases hi:i<fs.size
   ·obtain ⟨f,hf⟩:∃ f,fs.toList[i]?=some f:=⟨_,List.getElem?_eq_getElem (by simpa using hi)⟩
    obtain ⟨b,hb,hfb⟩:=Lib.mapM_at hm i f hf
    have hz:(f,i)∈fs.toList.zipIdx:=by
     rw[List.mem_zipIdx_iff_getElem?];exact hf
    have ha:=List.all_eq_true.1 hall _ hz
    simp only[Bool.and_eq_true] at ha
    obtain ⟨⟨a1,a2⟩,a3⟩:=ha
    have a1:=Nat.eq_of_beq_eq_true a1
    have a2:=Nat.eq_of_beq_eq_true a2
    rw[a1,a2] at hfb
    have h2:(xs.map (·.1))[i]?=some b.1:=by simp[hb]
    rw[hxs] at h2
    obtain ⟨z,hz1,hz2⟩:=Option.map_eq_some_iff.1 (by rw[List.getElem?_map] at h2;exact h2)
    obtain ⟨b1,b2⟩:=b
    simp only at hz2
    subst hz2
    have hc:=lit_cells a3 hfb
    have h1:cs[i]?=some (litV z):=by
     have:=congrArg (·[0]?) hc
     simpa[List.getElem?_take,List.getElem?_drop] using this
    simp[h1,hz1]
   ·rw[List.getElem?_eq_none (by omega),List.getElem?_eq_none (by simp;omega)]
  ·cases h
theorem flat_cells {m:Nat}:∀ (rows:List (List Value)) (cs:List Value),cs.length=rows.length*m->(∀ i (r:List Value),rows[i]?=some r->(cs.drop (i*m)).take m=r)->cs=rows.flatten
 |[],cs,hl,_=>by
  have:cs.length=0:=by simpa using hl
  simpa using List.eq_nil_of_length_eq_zero this
 |r::rs,cs,hl,h=>by
  have h0:=h 0 r rfl
  simp only[Nat.zero_mul,List.drop_zero] at h0
  have ih:=flat_cells (m:=m) rs (cs.drop m) (by rw[List.length_drop,hl,List.length_cons,Nat.succ_mul];omega) (fun i r' hr=>by
   have:=h (i+1) r' (by simpa using hr)
   rwa [List.drop_drop,show m+i*m=(i+1)*m by rw[Nat.succ_mul];omega])
  rw[List.flatten_cons,<-ih,<-h0,List.take_append_drop]
theorem tab_cells {fuel n:Nat} {t e:TypeId} {cs:List Value} {rows:List (List Lit)} {p:List MemPlace} (ht:P.underlying t=some (.array n e)) (he:rowTy P e=true) (hc:P.cellsOf t=n*P.cellsOf e)
  (h:DataW.trod enc P w base sp held fuel t cs=some (.agg (rows.map fun ls=>.agg (ls.map .lit)),p)):cs=(rows.map (·.map litV)).flatten:=by
 cases fuel with
 |zero=>simp[DataW.trod] at h
 |succ fuel=>
  unfold DataW.trod at h
  rw[ht] at h
  simp only at h
  split at h
  ·rename_i hl
   obtain ⟨xs,hm,hx⟩:=Option.map_eq_some_iff.1 h
   have hxs:xs.map (·.1)=rows.map fun ls=>(DataW.agg (ls.map .lit):DataW H):=by
    have:=congrArg Prod.fst hx
    simpa using this
   have hxl:xs.length=n:=by simpa using Lib.mapM_length hm
   have hzl:rows.length=n:=by
    have:=congrArg List.length hxs
    simp at this
    omega
   refine flat_cells (m:=P.cellsOf e) _ _ (by rw[hl,hc];simp[hzl]) fun i r hr=>?_
   rw[List.getElem?_map] at hr
   obtain ⟨ls,hls,rfl⟩:=Option.map_eq_some_iff.1 hr
   have hi:i<n:=by
    have:=(List.getElem?_eq_some_iff.1 hls).1;omega
   obtain ⟨b,hb,hfb⟩:=Lib.mapM_at hm i i (by simp[hi])
   have h2:(xs.map (·.1))[i]?=some b.1:=by simp[hb]
   rw[hxs,List.getElem?_map,hls] at h2
   obtain ⟨b1,b2⟩:=b
   simp only[Option.map_some,Option.some.injEq] at h2
   subst h2
   exact row_cells he hfb
  ·cases h
end
def avLit:AV->Lit
 |.val (.int k n)=>.int k n
 |.val (.bool b)=>.bool b
 |_=>.bool false
def shLits:List (List Lit):=shTab.map (·.map avLit)
def shVals:List Value:=(shLits.map (·.map litV)).flatten
theorem shVals_av:shAll=shVals.map AV.val:=by kernel_rfl
theorem shapes_laid:(Rows.laid_reprise_syntax_shapes:DataW Unit)=.agg (shLits.map fun ls=>.agg (ls.map .lit)):=by kernel_rfl
def intsOf (k:IntKind) (zs:List Int):List Value:=zs.map fun z=>.int k z
def spaceInts:List Int:=(List.range 256).map fun c=>if Lib.isSp (UInt8.ofNat c) then 1 else 0
theorem space_laid:(Rows.laid_strings_asciiSpace:DataW Unit)=Lib.tabData .u8 spaceInts:=by kernel_rfl
theorem space_vals:spaceTab=intsOf .u8 spaceInts:=by simp only[spaceTab,intsOf,spaceInts,List.map_map];rfl
theorem pow_laid:(Rows.laid_internal_strconv_uint64pow10:DataW Unit)=Lib.tabData .u64 Lib.pow10Tab:=by kernel_rfl
def litOk:Value->Bool
 |.int _ _ | .bool _=>true
 |_=>false
abbrev H00:HM:=fun _=>none
theorem repL_lits {I:Nat->Prop} {w:World}:∀ {vs:List Value},vs.all litOk=true->RepL I w (vs.map AV.val) vs/\∀ v∈vs,v.oneCell'=true
 |[],_=>⟨.nil,fun _ h=>by cases h⟩
 |v::vs,h=>by
  simp only[List.all_cons,Bool.and_eq_true] at h
  obtain ⟨h1,h2⟩:=repL_lits h.2
  have h3:okV v/\v.oneCell'=true:=by
   have:=h.1
   cases v<;>simp_all[litOk,okV,Value.oneCell']
  refine ⟨.cons (.val v h3.1) h1,fun u hu=>?_⟩
  rcases List.mem_cons.1 hu with rfl|hu
  ·exact h3.2
  ·exact h2 u hu
theorem grep_of {W:World} {name:String} {g:Nat} {cs:Array Value} {vs:List Value} (hg:prog.globalNamed name=some g) (hv:W.var? prog name=some cs) (hc:cs.toList=vs) (hok:vs.all litOk=true):GRep (Imm H00 W) W g (vs.map AV.val):=by
 unfold World.var? at hv
 rw[hg] at hv
 simp only[Option.bind_some] at hv
 split at hv<;>cases hv
 rename_i t fr hw
 obtain ⟨h1,h2⟩:=repL_lits (I:=Imm H00 W) (w:=W) hok
 have hlt:=(Array.getElem?_eq_some_iff.1 hw).1
 exact ⟨vs,t,fr,by rw[hw,<-hc],⟨hlt,rfl⟩,h1,h2⟩
theorem st0 {W:World} (h:laidMet prog Rows.scopeKnownRow.laid W):St G0 H00 W:=by
 refine ⟨fun b o e=>(by cases e),fun g cs e=>?_⟩
 have s1:=Lib.laidMet.reads h (n := "reprise/syntax.shapes") (d:=Rows.laid_reprise_syntax_shapes) (.tail _ (.tail _ (.tail _ (.tail _ (.tail _ (.head _))))))
 have s2:=Lib.laidMet.reads h (n := "strings.asciiSpace") (d:=Rows.laid_strings_asciiSpace) (.tail _ (.tail _ (.tail _ (.tail _ (.head _)))))
 have s3:=Lib.laidMet.reads h (n := "internal/strconv.uint64pow10") (d:=Rows.laid_internal_strconv_uint64pow10) (.tail _ (.tail _ (.head _)))
 unfold G0 at e
 split at e
 ·rename_i hg
  obtain rfl:=Nat.eq_of_beq_eq_true hg
  cases e
  obtain ⟨g',t,cs,fuel,p,h1,h2,h3,h4⟩:=s1
  have hn:prog.globalNamed "reprise/syntax.shapes" = some 0:=by kernel_rfl
  obtain rfl:=Option.some.inj (hn.symm.trans h1)
  have ht:(prog.globals[0]?).map (·.type)=some 195:=by kernel_rfl
  obtain rfl:=Option.some.inj (ht.symm.trans h2)
  rw[shapes_laid] at h4
  rw[shVals_av]
  exact grep_of hn h3 (tab_cells (n:=20) (e:=194) (by kernel_rfl) (by kernel_rfl) (by kernel_rfl) h4) (by kernel_rfl)
 split at e
 ·rename_i hg
  obtain rfl:=Nat.eq_of_beq_eq_true hg
  cases e
  obtain ⟨g',t,cs,fuel,p,h1,h2,h3,h4⟩:=s2
  have hn:prog.globalNamed "strings.asciiSpace" = some 1:=by kernel_rfl
  obtain rfl:=Option.some.inj (hn.symm.trans h1)
  have ht:(prog.globals[1]?).map (·.type)=some 210:=by kernel_rfl
  obtain rfl:=Option.some.inj (ht.symm.trans h2)
  rw[space_laid] at h4
  rw[space_vals]
  exact grep_of hn h3 (Lib.cells_of_tab (n:=256) (e:=5) (by kernel_rfl) (by kernel_rfl) (by kernel_rfl) (by kernel_rfl) h4) (by kernel_rfl)
 split at e
 ·rename_i hg
  obtain rfl:=Nat.eq_of_beq_eq_true hg
  cases e
  obtain ⟨g',t,cs,fuel,p,h1,h2,h3,h4⟩:=s3
  have hn:prog.globalNamed "internal/strconv.uint64pow10" = some 3:=by kernel_rfl
  obtain rfl:=Option.some.inj (hn.symm.trans h1)
  have ht:(prog.globals[3]?).map (·.type)=some 233:=by kernel_rfl
  obtain rfl:=Option.some.inj (ht.symm.trans h2)
  rw[pow_laid] at h4
  exact grep_of hn h3 (Lib.cells_of_tab (n:=20) (e:=209) (by kernel_rfl) (by kernel_rfl) (by kernel_rfl) (by kernel_rfl) h4) (by kernel_rfl)
 ·cases e
theorem bulk_one {H:Type} (d:DataW H):1<=Rows.uptoBulk d:=by
 cases d with
 |lit l=>cases l<;>simp[Rows.uptoBulk]
 |_=>simp[Rows.uptoBulk]
theorem bulkAll_sum {H:Type}:∀ (l:List (DataW H)),Rows.uptoBulkAll l=(l.map Rows.uptoBulk).sum
 |[]=>rfl
 |d::l=>by simp only[Rows.uptoBulkAll,List.map_cons,List.sum_cons,bulkAll_sum l]
theorem list_of {α:Type} {Q:Nat->α->Prop}:∀ n:Nat,(∀ i,i<n->∃ y,Q i y)->∃ l:List α,l.length=n/\∀ i y,l[i]?=some y->Q i y
 |0,_=>⟨[],rfl,fun i y h=>by simp at h⟩
 |n+1,h=>by
  obtain ⟨l,hl,hq⟩:=list_of n fun i hi=>h i (by omega)
  obtain ⟨y,hy⟩:=h n (by omega)
  refine ⟨l++[y],by simp[hl],fun i z hz=>?_⟩
  by_cases hi:i<n
  ·rw[List.getElem?_append_left (by omega)] at hz
   exact hq i z hz
  ·have:i=n:=by
    have:=(List.getElem?_eq_some_iff.1 hz).1
    simp at this;omega
   subst this
   rw[List.getElem?_append_right (by omega),hl] at hz
   simp at hz;subst hz;exact hy
theorem reads_append {w:World} {ad:Addr} {us vs:List Value} (hs:ad.spot=none) (h1:Reads w ad us) (h2:Reads w (ad.add us.length) vs):Reads w ad (us++vs):=by
 intro i v hi
 obtain ⟨b,o,sp⟩:=ad
 simp only at hs
 subst hs
 by_cases hl:i<us.length
 ·rw[List.getElem?_append_left hl] at hi
  exact h1 i v hi
 ·rw[List.getElem?_append_right (by omega)] at hi
  have:=h2 (i-us.length) v hi
  rw[D11,D11,Nat.add_assoc,show us.length+(i-us.length)=i by omega] at this
  rw[D11];exact this
section
variable {H:Type} {enc:TypeId×Value->H} {w:World} {sp:Nat->Bool} {held:Bool}
theorem reads_cells {a:Addr} {sz:Nat} (hs:a.spot=none):∀ (l:List (List Value)) (i0:Nat),(∀ i c,l[i]?=some c->w.cells? 0 (a.add ((i0+i)*sz)) sz=some c)->Reads w (a.add (i0*sz)) l.flatten
 |[],_,_=>fun i v h=>by simp at h
 |c::l,i0,h=>by
  obtain ⟨b,o,spt⟩:=a
  simp only at hs
  subst hs
  have h0:=h 0 c rfl
  obtain ⟨_,hl,hc⟩:=World.cells?_some h0
  have ih:=reads_cells (a:=⟨b,o,none⟩) rfl l (i0+1) fun i d hd=>by
   have:=h (i+1) d (by simpa using hd)
   rwa [show i0+(i+1)=i0+1+i by omega] at this
  rw[List.flatten_cons]
  refine reads_append (by rw[D11]) ?_ ?_
  ·intro i v hi
   have hlt:=(List.getElem?_eq_some_iff.1 hi).1
   rw[<-hi,<-hc i (by omega)];rfl
  ·rw[D11] at ih ⊢
   rw[D11,hl,Nat.add_assoc,show i0*sz+sz=(i0+1)*sz by rw[Nat.succ_mul]]
   exact ih
theorem repL_flatten {I:Nat->Prop} {α:Type} {av:α->AV}:∀ (l:List (α×List Value)),(∀ p∈l,RepL I w (av p.1).cells p.2)->RepL I w (flat (l.map fun p=>av p.1)) (l.map (·.2)).flatten
 |[],_=>.nil
 |p::l,h=>by
  have ih:=repL_flatten l fun q hq=>h q (by simp[hq])
  have h0:=h p (by simp)
  simp only[List.map_cons,flat_cons,List.flatten_cons]
  exact h0.append ih
theorem read_slice {α:Type} (av:α->AV) (sz:Nat) (Q:α->DataW H->Prop) {t e:TypeId} {fuel:Nat} {cs:List Value} {d:DataW H} {p:List MemPlace} (ht:prog.underlying t=some (.slice e)) (hsz:prog.cellsOf e=sz)
  (h:DataW.trod enc prog w 0 sp held fuel t cs=some (d,p)) (hb:Rows.uptoBulk d<=bnd) (hav:∀ x,(av x).cells.length=sz) (hsz0:0<sz)
  (hel:∀ n cs' d' p',n<fuel->DataW.trod enc prog w 0 sp held n e cs'=some (d',p')->Rows.uptoBulk d'<=bnd->∃ x,Q x d'/\RepL (Imm H00 w) w (av x).cells cs'/\∀ v∈cs',v.oneCell'=true) :
  ∃ l:List (α×DataW H),RepL (Imm H00 w) w [.list (l.map fun p=>av p.1)] cs/\(∀ v∈cs,v.oneCell'=true)/\(l.map fun p=>Rows.uptoBulk p.2).sum+1<=Rows.uptoBulk d/\∀ p∈l,Q p.1 p.2:=by
 rcases DataW.trod_slice ht h with ⟨rfl,hx⟩|⟨a,len,cap,elems,rest,n,hn,rfl,hx,_,hlc,hcm,hlen,hall,_⟩
 ·cases hx
  exact ⟨[],.cons (.nil _ _) .nil,by simp[Value.oneCell'],by simp[Rows.uptoBulk],fun p hp=>by cases hp⟩
 ·cases hx
  rw[hsz] at hall
  have hbe:Rows.uptoBulkAll (elems.map (·.1))+1<=Rows.uptoBulk (.slice (elems.map (·.1)) (rest.map (·.1))):=by
   simp only[Rows.uptoBulk];omega
  have hll:len<=lim:=by
   have:(elems.map (·.1)).length<=Rows.uptoBulkAll (elems.map (·.1)):=by
    rw[bulkAll_sum]
    have:∀ l:List (DataW H),l.length<=(l.map Rows.uptoBulk).sum:=by
     intro l
     induction l with
     |nil=>simp
     |cons x l ih=>have:=bulk_one x;simp only[List.length_cons,List.map_cons,List.sum_cons];omega
    exact this _
   simp at this
   have hb2:bnd<=lim:=by decide
   omega
  have key:∀ i,i<len->∃ y:(α×DataW H)×List Value,Q y.1.1 y.1.2/\RepL (Imm H00 w) w (av y.1.1).cells y.2/\(∀ v∈y.2,v.oneCell'=true)/\w.cells? 0 (a.add (i*sz)) sz=some y.2/\(elems.map (·.1))[i]?=some y.1.2:=by
   intro i hi
   have h1:=hall i hi
   obtain ⟨x,hx⟩:∃ x,elems[i]?=some x:=⟨_,List.getElem?_eq_getElem (by omega)⟩
   rw[hx] at h1
   obtain ⟨c,hc1,hc2⟩:=Option.bind_eq_some_iff.1 h1
   obtain ⟨d',p'⟩:=x
   have hbd:Rows.uptoBulk d'<=bnd:=by
    have hm:d'∈elems.map (·.1):=List.mem_map.2 ⟨_,List.mem_of_getElem? hx,rfl⟩
    have:Rows.uptoBulk d'<=Rows.uptoBulkAll (elems.map (·.1)):=by
     rw[bulkAll_sum];exact le_sum (List.mem_map_of_mem (f:=Rows.uptoBulk) hm)
    omega
   obtain ⟨y,q1,q2,q3⟩:=hel n c d' p' (by omega) hc2 hbd
   exact ⟨((y,d'),c),q1,q2,q3,hc1,by rw[List.getElem?_map,hx];rfl⟩
  obtain ⟨l,hl,hq⟩:=list_of len key
  have hq':∀ y∈l,Q y.1.1 y.1.2/\RepL (Imm H00 w) w (av y.1.1).cells y.2/\∀ v∈y.2,v.oneCell'=true:=fun y hy=>by
   obtain ⟨i,hi⟩:=List.getElem?_of_mem hy
   have:=hq i y hi
   exact ⟨this.1,this.2.1,this.2.2.1⟩
  have hd:l.map (fun y=>y.1.2)=elems.map (·.1):=by
   apply List.ext_getElem?
   intro i
   by_cases hi:i<len
   ·obtain ⟨y,hy⟩:∃ y,l[i]?=some y:=⟨_,List.getElem?_eq_getElem (by omega)⟩
    rw[(hq i y hy).2.2.2.2,List.getElem?_map,hy];rfl
   ·rw[List.getElem?_eq_none (by simp;omega),List.getElem?_eq_none (by simp;omega)]
  refine ⟨l.map (·.1),?_,by simp[Value.oneCell'],?_,fun p hp=>?_⟩
  ·refine .cons ?_ .nil
   rw[List.map_map]
   rcases Nat.eq_zero_or_pos len with h0|hpos
   ·subst h0
    have:l=[]:=List.eq_nil_of_length_eq_zero hl
    subst this
    exact .nil _ _
   ·have hspot:a.spot=none:=by
     obtain ⟨y,hy⟩:∃ y,l[0]?=some y:=⟨_,List.getElem?_eq_getElem (by omega)⟩
     have hc:=(hq 0 y hy).2.2.2.1
     obtain ⟨_,hcl,hcc⟩:=World.cells?_some hc
     have hc0:=hcc 0 hsz0
     rw[List.getElem?_eq_getElem (by omega)] at hc0
     have:=World.cell?_spot hc0
     simpa[Addr.add] using this
    have hrd:Reads w a (l.map (·.2)).flatten:=by
     have:=reads_cells (w:=w) (a:=a) (sz:=sz) hspot (l.map (·.2)) 0 fun i c hc=>by
      rw[List.getElem?_map] at hc
      obtain ⟨y,hy,rfl⟩:=Option.map_eq_some_iff.1 hc
      rw[Nat.zero_add]
      exact (hq i y hy).2.2.2.1
     simpa[Addr.add] using this
    have hrep:RepL (Imm H00 w) w (flat (l.map fun y=>av y.1.1)) (l.map (·.2)).flatten:=by
     have:=repL_flatten (w:=w) (I:=Imm H00 w) (av:=av) (l.map fun y=>(y.1.1,y.2)) fun p hp=>by
      obtain ⟨y,hy,rfl⟩:=List.mem_map.1 hp
      exact (hq' y hy).2.1
     simpa[List.map_map,Function.comp_def] using this
    have hlen2:len=(l.map ((fun p:α×DataW H=>av p.1)∘(·.1))).length:=by simp[hl]
    conv=>rhs;rw[hlen2]
    refine .list (sz:=sz) (fun hne=>?_) hspot ?_ hrd ?_ (by simpa[hl] using hlc) (by simpa[hl] using hll) ?_
    ·obtain ⟨v,hv⟩:∃ v,(l.map (·.2)).flatten[0]?=some v:=by
      cases hvs:(l.map (·.2)).flatten with
      |nil=>exact absurd hvs hne
      |cons v vs=>exact ⟨v,rfl⟩
     have:=hrd 0 v hv
     simp only[Addr.add,if_true] at this
     refine ⟨?_,rfl⟩
     unfold World.cell? at this
     split at this
     ·rename_i e;exact (Array.getElem?_eq_some_iff.1 e).1
     ·cases this
    ·intro x hx
     obtain ⟨y,_,rfl⟩:=List.mem_map.1 hx
     exact hav _
    ·intro v hv
     obtain ⟨c,hc,hvc⟩:=List.mem_flatten.1 hv
     obtain ⟨y,hy,rfl⟩:=List.mem_map.1 hc
     exact (hq' y hy).2.2 v hvc
    ·exact hrep
  ·rw[List.map_map]
   have:(l.map ((fun p:α×DataW H=>Rows.uptoBulk p.2)∘(·.1)))=(elems.map (·.1)).map Rows.uptoBulk:=by
    rw[<-hd,List.map_map];rfl
   rw[this,<-bulkAll_sum]
   exact hbe
  ·obtain ⟨y,hy,rfl⟩:=List.mem_map.1 hp
   exact (hq' y hy).1
end
noncomputable def fieldsOf (t:TypeId):Array Field:=match prog.underlying t with
 |some (.struct fs)=>fs
 |_ => #[]
noncomputable def fld (t:TypeId) (i:Nat):Option (Nat×TypeId×Nat):=((fieldsOf t)[i]?).map fun f=>(f.offset,f.type,prog.cellsOf f.type)
theorem exU:prog.underlying 27=some (.struct (fieldsOf 27)):=by kernel_rfl
theorem arU:prog.underlying 85=some (.struct (fieldsOf 85)):=by kernel_rfl
theorem ex_fld:(List.range 7).map (fld 27)=[some (0,22,1),some (1,3,1),some (2,9,1),some (3,9,1),some (4,23,1),some (5,24,1),some (6,25,1)]:=by kernel_rfl
theorem ar_fld:(List.range 3).map (fld 85)=[some (0,9,1),some (1,23,1),some (2,27,7)]:=by kernel_rfl
theorem exN:(fieldsOf 27).size=7:=by kernel_rfl
theorem arN:(fieldsOf 85).size=3:=by kernel_rfl
theorem exC:prog.cellsOf 27=7:=by kernel_rfl
theorem arC:prog.cellsOf 85=9:=by kernel_rfl
theorem u22:prog.underlying 22=some (.int .i64):=by kernel_rfl
theorem u3:prog.underlying 3=some (.int .i64):=by kernel_rfl
theorem u9:prog.underlying 9=some .string:=by kernel_rfl
theorem u23:prog.underlying 23=some (.slice 9):=by kernel_rfl
theorem u24:prog.underlying 24=some (.slice 27):=by kernel_rfl
theorem u25:prog.underlying 25=some (.slice 85):=by kernel_rfl
theorem c9:prog.cellsOf 9=1:=by kernel_rfl
section
variable {H:Type} {enc:TypeId×Value->H} {w:World} {sp:Nat->Bool} {held:Bool}
theorem read_fields {t:TypeId} {n:Nat} {cs:List Value} {d:DataW H} {p:List MemPlace} (hU:prog.underlying t=some (.struct (fieldsOf t))) (h:DataW.trod enc prog w 0 sp held n t cs=some (d,p)) :
  ∃ (xs:List (DataW H×List MemPlace)) (m:Nat),n=m+1/\d=.agg (xs.map (·.1))/\cs.length=prog.cellsOf t/\xs.length=(fieldsOf t).size /\
   ∀ (i o ty c:Nat),fld t i=some (o,ty,c)->DataW.trod enc prog w 0 sp held m ty ((cs.drop o).take c)=xs[i]?:=by
 obtain ⟨xs,m,hn,hx,hl,hxl,hf⟩:=DataW.trod_struct hU h
 cases hx
 refine ⟨xs,m,hn,rfl,hl,hxl,fun i o ty c hfl=>?_⟩
 unfold fld at hfl
 obtain ⟨f,h1,h2⟩:=Option.map_eq_some_iff.1 hfl
 cases h2
 exact hf i f h1
theorem read_str {n:Nat} {cs:List Value} {d:DataW H} {p:List MemPlace} (h:DataW.trod enc prog w 0 sp held n 9 cs=some (d,p)) (hb:Rows.uptoBulk d<=bnd) :
  ∃ s:ByteArray,s.size+1=Rows.uptoBulk d/\s.size<=bnd/\cs=[.string s]/\RepL (Imm H00 w) w [.str s] cs/\∀ v∈cs,v.oneCell'=true:=by
 obtain ⟨s,rfl,hx,_⟩:=DataW.trod_string u9 h
 cases hx
 have hs:s.size+1=Rows.uptoBulk (DataW.lit (H:=H) (.string s.data.toList)):=by
  show s.data.size+1=s.data.toList.length+1
  rw[Array.length_toList]
 have hl:bnd<=lim:=by decide
 exact ⟨s,hs,by omega,rfl,.cons (.val _ (by show s.size<=lim;omega)) .nil,by simp[Value.oneCell']⟩
theorem read_names {n:Nat} {cs:List Value} {d:DataW H} {p:List MemPlace} (h:DataW.trod enc prog w 0 sp held n 23 cs=some (d,p)) (hb:Rows.uptoBulk d<=bnd) :
  ∃ l:List ByteArray,l.length+1<=Rows.uptoBulk d/\(∀ x∈l,x.size<=bnd)/\RepL (Imm H00 w) w [.list (strs l)] cs/\∀ v∈cs,v.oneCell'=true:=by
 obtain ⟨l,h1,h2,h3,h4⟩:=read_slice AV.str 1 (fun (s:ByteArray) d'=>s.size<=bnd/\1<=Rows.uptoBulk d') u23 c9 h hb (fun _=>rfl) (by decide) fun n cs' d' p' _ ht hb'=>by
  obtain ⟨s,q1,q2,q3,q4,q5⟩:=read_str ht hb'
  exact ⟨s,⟨q2,by omega⟩,q4,q5⟩
 refine ⟨l.map (·.1),?_,fun x hx=>?_,?_,h2⟩
 ·have:l.length<=(l.map fun p=>Rows.uptoBulk p.2).sum:=by
   clear h1 h2 h3
   induction l with
   |nil=>simp
   |cons x l ih=>
    have:=ih fun p hp=>h4 p (by simp[hp])
    have:=(h4 x (by simp)).2
    simp only[List.length_cons,List.map_cons,List.sum_cons];omega
  simp;omega
 ·obtain ⟨p,hp,rfl⟩:=List.mem_map.1 hx
  exact (h4 p hp).1
 ·rw[strs,List.map_map];exact h1
def Good (e:Ex) (d:DataW H):Prop:=Fit e/\e.nodes<=Rows.uptoBulk d/\e.wid<=Rows.uptoBulk d
def GoodA (a:Ar) (d:DataW H):Prop:=a.op.size<=bnd/\a.names.length<=bnd/\(∀ x∈a.names,x.size<=bnd)/\Fit a.body/\a.body.nodes<=Rows.uptoBulk d/\a.names.length+a.body.wid<=Rows.uptoBulk d
theorem read_arm {n:Nat} {cs:List Value} {d:DataW H} {p:List MemPlace}
  (ih:∀ m,m<n->∀ cs d p,DataW.trod enc prog w 0 sp held m 27 cs=some (d,p)->Rows.uptoBulk d<=bnd->∃ e:Ex,Good e d/\RepL (Imm H00 w) w e.av.cells cs/\∀ v∈cs,v.oneCell'=true)
  (h:DataW.trod enc prog w 0 sp held n 85 cs=some (d,p)) (hb:Rows.uptoBulk d<=bnd):∃ a:Ar,GoodA a d/\RepL (Imm H00 w) w a.av.cells cs/\∀ v∈cs,v.oneCell'=true:=by
 obtain ⟨xs,m,rfl,rfl,hl,hxl,hf⟩:=read_fields arU h
 rw[arC] at hl
 rw[arN] at hxl
 have hfl:∀ i r,(List.range 3)[i]?=some i->((List.range 3).map (fld 85))[i]?=some r->fld 85 i=r:=fun i r h1 h2=>by
  rw[List.getElem?_map,h1] at h2;simpa using h2
 rw[ar_fld] at hfl
 have f0:=hf 0 0 9 1 (hfl 0 _ rfl rfl)
 have f1:=hf 1 1 23 1 (hfl 1 _ rfl rfl)
 have f2:=hf 2 2 27 7 (hfl 2 _ rfl rfl)
 obtain ⟨x0,x1,x2,rfl⟩:∃ x0 x1 x2,xs=[x0,x1,x2]:=by
  match xs,hxl with
  |[x0,x1,x2],_=>exact ⟨x0,x1,x2,rfl⟩
 obtain ⟨v0,v1,rs,rfl⟩:∃ v0 v1 rs,cs=v0::v1::rs:=by
  match cs,hl with
  |v0::v1::rs,_=>exact ⟨v0,v1,rs,rfl⟩
 have hrl:rs.length=7:=by simpa using hl
 simp only[List.drop_zero,List.take_succ_cons,List.take_zero,List.drop_succ_cons,List.getElem?_cons_zero,List.getElem?_cons_succ] at f0 f1 f2
 rw[List.take_of_length_le (by omega)] at f2
 obtain ⟨d0,p0⟩:=x0;obtain ⟨d1,p1⟩:=x1;obtain ⟨d2,p2⟩:=x2
 have hbk:Rows.uptoBulk (DataW.agg (List.map (fun x=>x.1) [(d0,p0),(d1,p1),(d2,p2)]))=Rows.uptoBulk d0+(Rows.uptoBulk d1+(Rows.uptoBulk d2+0))+1:=by simp[Rows.uptoBulk,Rows.uptoBulkAll]
 rw[hbk] at hb
 obtain ⟨s,q1,q2,_,q3,q4⟩:=read_str f0 (by omega)
 obtain ⟨l,r1,r2,r3,r4⟩:=read_names f1 (by omega)
 obtain ⟨e,⟨g1,g2,g3⟩,t2,t3⟩:=ih m (by omega) _ _ _ f2 (by omega)
 refine ⟨.mk s l e,⟨q2,by show l.length<=bnd;omega,r2,g1,by rw[hbk];show e.nodes<=_;omega,by rw[hbk];show l.length+e.wid<=_;omega⟩,?_,?_⟩
 ·show RepL _ _ (.str s::.list (strs l)::e.av.cells) _
  exact .cons (by cases q3 with|cons a _=>exact a) (.cons (by cases r3 with|cons a _=>exact a) t2)
 ·intro v hv
  rcases List.mem_cons.1 hv with rfl|hv
  ·exact q4 _ (by simp)
  rcases List.mem_cons.1 hv with rfl|hv
  ·exact r4 _ (by simp)
  ·exact t3 v hv
theorem sum_le2 {α:Type} {f g:α->Nat}:∀ {l:List α},(∀ x∈l,f x<=g x)->(l.map f).sum<=(l.map g).sum
 |[],_=>Nat.le_refl _
 |a::l,h=>by
  have h1:=h a (by simp)
  have h2:=sum_le2 (l:=l) fun x hx=>h x (by simp[hx])
  simp only[List.map_cons,List.sum_cons];omega
theorem len_le_sum {α:Type} {g:α->Nat}:∀ {l:List α},(∀ x∈l,1<=g x)->l.length<=(l.map g).sum
 |[],_=>Nat.le_refl _
 |a::l,h=>by
  have h1:=h a (by simp)
  have h2:=len_le_sum (l:=l) fun x hx=>h x (by simp[hx])
  simp only[List.map_cons,List.sum_cons,List.length_cons];omega
theorem read_expr (n:Nat):∀ cs d p,DataW.trod enc prog w 0 sp held n 27 cs=some (d,p)->Rows.uptoBulk d<=bnd->∃ e:Ex,Good e d/\RepL (Imm H00 w) w e.av.cells cs/\∀ v∈cs,v.oneCell'=true:=by
 induction n using Nat.strongRecOn with
 |ind n ih=>
  intro cs d p h hb
  obtain ⟨xs,m,rfl,rfl,hl,hxl,hf⟩:=read_fields exU h
  rw[exC] at hl
  rw[exN] at hxl
  have hfl:∀ i r,(List.range 7)[i]?=some i->((List.range 7).map (fld 27))[i]?=some r->fld 27 i=r:=fun i r h1 h2=>by
   rw[List.getElem?_map,h1] at h2;simpa using h2
  rw[ex_fld] at hfl
  have f0:=hf 0 0 22 1 (hfl 0 _ rfl rfl)
  have f1:=hf 1 1 3 1 (hfl 1 _ rfl rfl)
  have f2:=hf 2 2 9 1 (hfl 2 _ rfl rfl)
  have f3:=hf 3 3 9 1 (hfl 3 _ rfl rfl)
  have f4:=hf 4 4 23 1 (hfl 4 _ rfl rfl)
  have f5:=hf 5 5 24 1 (hfl 5 _ rfl rfl)
  have f6:=hf 6 6 25 1 (hfl 6 _ rfl rfl)
  obtain ⟨x0,x1,x2,x3,x4,x5,x6,rfl⟩:∃ x0 x1 x2 x3 x4 x5 x6,xs=[x0,x1,x2,x3,x4,x5,x6]:=by
   match xs,hxl with
   |[x0,x1,x2,x3,x4,x5,x6],_=>exact ⟨x0,x1,x2,x3,x4,x5,x6,rfl⟩
  obtain ⟨v0,v1,v2,v3,v4,v5,v6,rfl⟩:∃ v0 v1 v2 v3 v4 v5 v6,cs=[v0,v1,v2,v3,v4,v5,v6]:=by
   match cs,hl with
   |[v0,v1,v2,v3,v4,v5,v6],_=>exact ⟨v0,v1,v2,v3,v4,v5,v6,rfl⟩
  simp only[List.drop_zero,List.take_succ_cons,List.take_zero,List.drop_succ_cons,List.getElem?_cons_zero,List.getElem?_cons_succ] at f0 f1 f2 f3 f4 f5 f6
  obtain ⟨d0,p0⟩:=x0;obtain ⟨d1,p1⟩:=x1;obtain ⟨d2,p2⟩:=x2;obtain ⟨d3,p3⟩:=x3;obtain ⟨d4,p4⟩:=x4;obtain ⟨d5,p5⟩:=x5;obtain ⟨d6,p6⟩:=x6
  obtain ⟨k,e0,hx0,_⟩:=DataW.trod_int u22 f0
  obtain ⟨k1,e1,hx1,_⟩:=DataW.trod_int u3 f1
  cases e0;cases e1
  have hbk:Rows.uptoBulk (DataW.agg (List.map (fun x=>x.1) [(d0,p0),(d1,p1),(d2,p2),(d3,p3),(d4,p4),(d5,p5),(d6,p6)]))=Rows.uptoBulk d0+(Rows.uptoBulk d1+(Rows.uptoBulk d2+(Rows.uptoBulk d3+(Rows.uptoBulk d4+(Rows.uptoBulk d5+(Rows.uptoBulk d6+0))))))+1:=by simp[Rows.uptoBulk,Rows.uptoBulkAll]
  rw[hbk] at hb
  obtain ⟨s,a1,a2,_,a3,a4⟩:=read_str f2 (by omega)
  obtain ⟨t,b1,b2,_,b3,b4⟩:=read_str f3 (by omega)
  obtain ⟨ns,c1,c2,c3,c4⟩:=read_names f4 (by omega)
  obtain ⟨l,l1,l2,l3,l4⟩:=read_slice Ex.av 7 (Good (H:=H)) u24 exC f5 (by omega) ex_size (by decide) fun n' cs' d' p' hn' ht hb'=>ih n' (by omega) cs' d' p' ht hb'
  obtain ⟨r,r1,r2,r3,r4⟩:=read_slice Ar.av 9 (GoodA (H:=H)) u25 arC f6 (by omega) ar_size (by decide) fun n' cs' d' p' hn' ht hb'=>read_arm (fun m' hm'=>ih m' (by omega)) ht hb'
  have hparts:(Ex.mk k k1 s t ns (l.map (·.1)) (r.map (·.1))).parts=l.map (·.1)++r.map (fun a=>a.1.body):=by
   simp[Ex.parts,Ex.l,Ex.arms,List.map_map,Function.comp_def]
  have hll:l.length<=(l.map fun p=>Rows.uptoBulk p.2).sum:=len_le_sum fun x _=>bulk_one _
  have hrl:r.length<=(r.map fun p=>Rows.uptoBulk p.2).sum:=len_le_sum fun x _=>bulk_one _
  refine ⟨.mk k k1 s t ns (l.map (·.1)) (r.map (·.1)),⟨?_,?_,?_⟩,?_,?_⟩
  ·rw[Fit.eq]
   refine ⟨⟨a2,b2,by show ns.length<=bnd;omega,by show (l.map (·.1)).length<=bnd;simp;omega,by show (r.map (·.1)).length<=bnd;simp;omega,c2,?_⟩,?_⟩
   ·intro a ha
    obtain ⟨q,hq,rfl⟩:=List.mem_map.1 (show a∈r.map (·.1) from ha)
    have:=r4 q hq
    exact ⟨this.1,this.2.1,this.2.2.1⟩
   ·intro x hx
    rw[hparts] at hx
    rcases List.mem_append.1 hx with hx|hx
    ·obtain ⟨q,hq,rfl⟩:=List.mem_map.1 hx
     exact (l4 q hq).1
    ·obtain ⟨q,hq,rfl⟩:=List.mem_map.1 hx
     exact (r4 q hq).2.2.2.1
  ·rw[Ex.nodes_eq,hparts,List.map_append,List.sum_append,List.map_map,List.map_map,hbk]
   have h1:(l.map (Ex.nodes∘fun x=>x.1)).sum<=(l.map fun p=>Rows.uptoBulk p.2).sum:=sum_le2 fun x hx=>(l4 x hx).2.1
   have h2:(r.map (Ex.nodes∘fun a=>a.1.body)).sum<=(r.map fun p=>Rows.uptoBulk p.2).sum:=sum_le2 fun x hx=>(r4 x hx).2.2.2.2.1
   omega
  ·rw[Ex.wid_eq,hparts,List.map_append,List.sum_append,List.map_map,List.map_map,hbk]
   have h1:(l.map (Ex.wid∘fun x=>x.1)).sum<=(l.map fun p=>Rows.uptoBulk p.2).sum:=sum_le2 fun x hx=>(l4 x hx).2.2
   have h2:((r.map (·.1)).map fun a=>a.names.length).sum+(r.map (Ex.wid∘fun a=>a.1.body)).sum<=(r.map fun p=>Rows.uptoBulk p.2).sum:=by
    clear r1 r2 r3 hrl hparts h1
    induction r with
    |nil=>simp
    |cons x r ihr=>
     have g0:=(r4 x (by simp)).2.2.2.2.2
     have g1:=ihr fun p hp=>r4 p (by simp[hp])
     simp only[List.map_cons,List.sum_cons,Function.comp_apply] at g1 ⊢
     omega
   show 1+ns.length+((r.map (·.1)).map fun a=>a.names.length).sum+_<=_
   omega
  ·rw[C10]
   have hd:∀ {a:AV} {v:Value},RepL (Imm H00 w) w [a] [v]->Rep (Imm H00 w) w a v:=fun h=>by cases h with|cons q _=>exact q
   refine .cons (.val _ trivial) (.cons (.val _ trivial) (.cons (hd a3) (.cons (hd b3) (.cons (hd c3) (.cons ?_ (.cons ?_ .nil))))))
   ·have:=hd l1
    simpa[exs,Ex.l,List.map_map,Function.comp_def] using this
   ·have:=hd r1
    simpa[ars,Ex.arms,List.map_map,Function.comp_def] using this
  ·intro v hv
   simp only[List.mem_cons,List.not_mem_nil,or_false] at hv
   rcases hv with rfl|rfl|rfl|rfl|rfl|rfl|rfl
   ·rfl
   ·rfl
   ·exact a4 _ (by simp)
   ·exact b4 _ (by simp)
   ·exact c4 _ (by simp)
   ·exact l2 _ (by simp)
   ·exact r2 _ (by simp)
end
open Go.ChangeShapes Go.WideShapes
theorem own0:ownKnob prog.godebug=none:=by kernel_rfl
section
variable {H:Type} {enc:TypeId×Value->H}
theorem kept_evo {W W':World} (h:Evo H00 W H00 W') (may:MemPlace->Prop):W.keptBut W' may:=by
 refine ⟨h.os,h.output,fun i hi=>?_⟩
 rw[(h.block i ⟨hi,rfl⟩).2]
 cases e:W.heap[i]? with
 |none=>trivial
 |some o=>
  cases o<;>first|exact ⟨rfl,rfl,rfl,fun _ _=>rfl⟩|exact .inr ⟨rfl,rfl⟩|rfl
theorem post_evo {P:Program} {f:Func} {s:ChangeSpec} {apart fresh handsOn again:Bool} {W W':World} {args:Array Value} {v:Value} {ds gs:List (DataW H)} {before pa pv:List MemPlace}
  (hW:DataW.Whole enc P f.params.toList s.vars apart W args.toList ds gs before)
  (hres:∀ (b:Nat) (sp:Nat->Bool) (hd:Bool),DataW.TrodAll enc P W' b sp hd f.resultTypes.toList (v.resultList f.resultTypes.size) (s.fn H (ds++gs)).results [])
  (hargs:∀ sp:Nat->Bool,(∀ p∈before,sp p.block=true)->DataW.TrodAll enc P W' 0 sp true f.params.toList args.toList (s.fn H (ds++gs)).args pa)
  (hvars:∀ sp:Nat->Bool,(∀ p∈before,sp p.block=true)->DataW.TrodVars enc P W' sp s.vars (s.fn H (ds++gs)).vars pv)
  (hps:before=pa++pv) (he:Evo H00 W H00 W')
  (hok:∀ (j:Nat) (t:TypeId) (r:Value),f.resultTypes[j]?=some t->(v.resultList f.resultTypes.size)[j]?=some r->Value.okWide P W' .any 0 t r) :
  s.post enc P f apart fresh handsOn again W args v W':=by
 have hlt:∀ p∈before,p.block<W.heap.size:=fun p hp=>hW.lt p hp
 have hold:∀ p∈before,(fun b=>decide (b<W.heap.size)) p.block=true:=fun p hp=>by simpa using hW.lt p hp
 refine ⟨ds,gs,before,[],pa,pv,hW,hres _ _ _,hargs _ hold,hvars _ hold,World.keptBut_mono (fun p hp=>⟨hp,?_⟩) (kept_evo he (· ∈ before)),fun _=>?_⟩
 ·rw[hps,List.mem_append] at hp
  exact Or.inr hp
 ·obtain ⟨_,_,_,_,_,hz,hn⟩:=hW
  refine ⟨hok,_,_,([]++pa)++pv,⟨[]++pa,pv,trodAll_append (hargs _ (fun _ _=>rfl)) (hres _ _ _),hvars _ (fun _ _=>rfl),rfl,?_,?_⟩,?_⟩
  ·intro b off hp
   have hp':MemPlace.cell b off∈before:=by rw[hps];simpa using hp
   have hb:=(he.block b ⟨hlt _ hp',rfl⟩).2
   have:=hz b off hp'
   simp only[World.frozen?,hb] at this ⊢
   exact this
  ·intro ha
   have:=hn ha
   rw[hps] at this
   simpa using this
  ·intro p hp _
   rw[hps]
   simpa using hp
end
noncomputable def laidWorld (os:Os):World:=
 let N:=(World.settled prog os).heap.size
 let w0:=World.holding prog os ⟨#[.cells (Lib.whiteT.map fun (z:Nat)=>Value.int .u16 (z:Int)).toArray 246,.cells #[.slice (some ⟨N,0,none⟩) 7 7,.slice none 0 0,.int .i64 2] 243],#[],[]⟩
 let put (h:Array Obj) (g:Nat) (cs:Array Value):Array Obj:=h.modify g fun
  |.cells _ t frozen=>.cells cs t frozen
  |o=>o
 let lits (d:DataW Unit):Array Value:=match d with
  |.agg ds=>(ds.map fun | .lit l=>litV l|_=>.bool false).toArray
  |_ => #[]
 let h1:=put w0.heap 0 shVals.toArray
 let h2:=put h1 1 (lits Rows.laid_strings_asciiSpace)
 let h3:=put h2 3 (lits Rows.laid_internal_strconv_uint64pow10)
 let h4:=put h3 4 (lits Rows.laid_math_bits_deBruijn32tab)
 let h5:=put h4 5 (lits Rows.laid_math_bits_deBruijn64tab)
 let h6:=put h5 2 #[.pointer (some ⟨N+1,0,none⟩)]
 { w0 with heap:=h6 }
theorem laid_met (os:Os) (args:Array Value):laidMet prog Rows.scopeKnownRow.laid ((laidWorld os).forCall (fun _ _=>0) ⟨#[],args,[]⟩).memory:=
 laidMet_of_run3 10 (by kernel_rfl) (by kernel_rfl) (by kernel_rfl)
theorem laidOut0:laidOutB prog=true:=by kernel_rfl
theorem mapsRowed0:mapsRowed prog=true:=by kernel_rfl
theorem kids0:Kids prog (· < prog.types.size):=kids_rows laidOut0 mapsRowed0
theorem full0:∀ t e,t<prog.types.size->prog.underlying t=some (.slice e)->0<prog.cellsOf e:=slices_full_of prog (by kernel_rfl)
section
variable {H:Type} {enc:TypeId×Value->H}
theorem same_evo {W W':World} (h:Evo H00 W H00 W') {p:MemPlace} (hp:p.block<W.heap.size):W.sameAt W' p:=by
 have hb:=(h.block p.block ⟨hp,rfl⟩).2
 cases p with
 |cell b off=>unfold World.sameAt World.cell?;simp only[MemPlace.block] at hb;simp only[hb]
 |map b=>exact hb
theorem trodAll_carry {P:Program} {w w':World} {base:Nat} {sp:Nat->Bool} {held:Bool}:∀ {ts:List TypeId} {vs:List Value} {ds:List (DataW H)} {ps:List MemPlace},DataW.TrodAll enc P w base sp held ts vs ds ps->(∀ p∈ps,w.sameAt w' p)->DataW.TrodAll enc P w' base sp held ts vs ds ps
 |[],[],[],_,h,_=>h
 |_::_,_::_,_::_,_,⟨p,q,⟨n,h1⟩,h2,e⟩,hs=>⟨p,q,⟨n,DataW.trod_carry _ _ _ _ h1 (fun x hx=>hs x (by rw[e];exact List.mem_append_left _ hx))⟩,trodAll_carry h2 (fun x hx=>hs x (by rw[e];exact List.mem_append_right _ hx)),e⟩
theorem args_again {W W':World} {ts:List TypeId} {vs:List Value} {ds:List (DataW H)} {ps:List MemPlace} (hts:∀ t∈ts,t<prog.types.size) (h:DataW.TrodAll enc prog W 0 (fun _=>true) true ts vs ds ps) (hlt:∀ p∈ps,p.block<W.heap.size) (he:Evo H00 W H00 W')
  (sp:Nat->Bool) (hsp:∀ p∈ps,sp p.block=true):DataW.TrodAll enc prog W' 0 sp true ts vs ds ps:=
 trodAll_carry (DataW.TrodAll.respare kids0 full0 hts h hsp) fun p hp=>same_evo he (hlt p hp)
theorem arg_expr {W:World} {v:Value} {d:DataW H} {p:List MemPlace} (h:DataW.Trod enc prog W 0 (fun _=>true) true 27 v d p) (hb:Rows.uptoBulk d<=bnd):∃ e:Ex,Inp e/\Rep (Imm H00 W) W e.av v:=by
 obtain ⟨n,hn⟩:=h
 obtain ⟨e,⟨g1,g2,g3⟩,h2,h3⟩:=read_expr n _ _ _ hn hb
 refine ⟨e,⟨g1,Nat.le_trans g2 hb,Nat.le_trans g3 hb⟩,?_⟩
 have hl:v.cells.toList.length=7:=by rw[<-h2.length,ex_size]
 cases v with
 |agg cs=>
  have:=Rep.agg (I:=Imm H00 W) (w:=W) (cs:=e.av.cells) (vs:=cs.toList) h3 h2
  have he:e.av=.agg e.av.cells:=by cases e;rfl
  rw[he]
  simpa using this
 |_=>simp[Value.cells] at hl
end
end Go.V
