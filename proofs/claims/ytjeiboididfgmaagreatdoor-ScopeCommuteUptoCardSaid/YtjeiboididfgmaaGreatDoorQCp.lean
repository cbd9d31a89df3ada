/- ScopeCommute returns true: two substitutions, of which the second one puts in nothing that the first one replaces, may be done in the other order, up to renaming. Conditions: those of the given card alone (arguments of bulk at most 1048576; the listed package-level tables hold what the program text lays). -/
import Derived.Test.YtjeiboididfgmaaGreatDoorQR
import Derived.Test.YtjeiboididfgmaaGreatDoorCards
import Derived.Test.YtjeiboididfgmaaGreatDoorTie
set_option linter.unusedVariables false
set_option linter.unusedSimpArgs false
namespace Go.Proofs.YtjeiboididfgmaaGreatDoor.scopeCommute
open Go Go.V Go.ChangeShapes Go.WideShapes Go.ChangeAt Go.RowKit
theorem walk {W:World} (hL:laidMet Tryz.prog Rows.scopeCommuteUptoRow.laid W) (a:Ex) (x y:ByteArray) (b c:Ex) (ha:Inp a) (hx:x.size<=bnd) (hy:y.size<=bnd) (hb:Inp b) (hc:Inp c) (u v:Value) (hu:Rep (Imm H00 W) W a.av u) (hv:Rep (Imm H00 W) W (.agg (pairC x y b c)) v):Calls Tryz.prog 9 #[u,v] W fun e W'=>e=.returned (.bool true)/\Evo H00 W H00 W':=by
 have h:=(commuteLaw_c (H:=H00) a x y b c ha hx hy hb hc).2 (fun r H'=>r=.ret (.bool true)/\H'=H00) ⟨rfl,rfl⟩ W [u,v] (.cons hu (.cons hv .nil)) (st0 hL)
 refine callsIn_wide.1 (CallsIn.mono h fun e W' he=>?_)
 cases e with
 |returned v=>
  obtain ⟨a,H',⟨ha,rfl⟩,hr,_,ev⟩:=he
  cases ha
  exact ⟨by rw[hr.val_eq],ev⟩
 |panicked c=>
  obtain ⟨v,_,a,H',⟨ha,_⟩,_⟩:=he
  cases ha
 |outgrown=>exact he.elim
set_option maxRecDepth 100000 in
theorem contract (H:Type) (enc:TypeId×Value->H) (W:World) (args:Array Value) (ds gs:List (DataW H)) (before:List MemPlace) (base:Nat)
  (hval:∀ (j:Nat) t v,Tryz.f9.params[j]?=some t->args[j]?=some v->Value.okWide Tryz.prog W .any base t v)
  (hW:DataW.Whole enc Tryz.prog Tryz.f9.params.toList Rows.scopeCommuteSpec.vars false W args.toList ds gs before) (hk:Rows.uptoSmall H (ds++gs)=true) (hL:laidMetH Tryz.prog Rows.scopeCommuteUptoRow.laid W) :
  Calls Tryz.prog 9 args W fun e W'=>∃ v,e=.returned v/\Rows.scopeCommuteSpec.post enc Tryz.prog Tryz.f9 false true false false W args v W':=by
 have hW':=hW
 obtain ⟨p,q,hA0,hV,rfl,hfz,hnd⟩:=hW
 have hA:DataW.TrodAll enc Tryz.prog W 0 (fun _=>true) true [27,61] args.toList ds p:=hA0
 have hA1:=hA
 obtain ⟨v0,vs0,d0,ds0,p0,q0,hargs,rfl,rfl,h0,r0⟩:=trodAll_cons hA
 obtain ⟨v1,vs1,d1,ds1,p1,q1,rfl,rfl,rfl,h1,r1⟩:=trodAll_cons r0
 obtain ⟨rfl,rfl,rfl⟩:=trodAll_nil r1
 obtain rfl:args = #[v0,v1]:=by cases args;simp_all
 obtain ⟨rfl,rfl⟩:=trodVars_none hV
 have hbb:Rows.uptoBulk d0<=bnd/\Rows.uptoBulk d1<=bnd:=by
  have:Rows.uptoBulkAll [d0,d1]<=1048576:=by simpa[Rows.uptoSmall] using hk
  have h2:(1048576:Nat)<=bnd:=by decide
  simp only[Rows.uptoBulkAll] at this
  omega
 obtain ⟨a,ha,hva⟩:=arg_expr h0 hbb.1
 obtain ⟨x,y,b,c,hx,hy,hb,hc,hvb⟩:=arg_pair h1 hbb.2
 simp only[List.append_nil] at hW' hA1
 refine (walk hL a x y b c ha hx hy hb hc v0 v1 hva hvb).mono fun e W' ⟨he,hev⟩=>?_
 subst he
 refine ⟨_,rfl,post_evo (pa:=p0++p1) (pv:=[]) hW' (fun _ _ _=>trodAll_cons_mk (shut_bool Tryz.underlying4 _) trodAll_mk0) (fun sp hsp=>?_) (fun _ _=>rfl) (by simp) hev (ok_one (by kernel_rfl) rfl (okWide_bool_mk Tryz.underlying4 _))⟩
 exact args_again (ts:=[27,61]) (fun t ht=>by
  simp only[List.mem_cons,List.not_mem_nil,or_false] at ht
  rcases ht with rfl|rfl<;>exact of_decide_eq_true (by kernel_rfl)) hA1 (fun p hp=>hW'.lt p hp) hev sp hsp
def arg0:Value:=.agg #[.int .i64 0,.int .i64 0,.string ⟨#[]⟩,.string ⟨#[]⟩,.slice none 0 0,.slice none 0 0,.slice none 0 0]
def arg1:Value:=.agg #[.string ⟨#[]⟩,.string ⟨#[]⟩,.int .i64 0,.int .i64 0,.string ⟨#[]⟩,.string ⟨#[]⟩,.slice none 0 0,.slice none 0 0,.slice none 0 0,.int .i64 0,.int .i64 0,.string ⟨#[]⟩,.string ⟨#[]⟩,.slice none 0 0,.slice none 0 0,.slice none 0 0]
theorem reads (os:Os) {H:Type} (enc:TypeId×Value->H):∃ places,DataW.whole enc Tryz.prog ((laidWorld os).forCall (fun _ _=>0) ⟨#[],#[arg0,arg1],[]⟩).memory Tryz.f9.params.toList Rows.scopeCommuteSpec.vars false (#[arg0,arg1]:Array Value).toList 8 =
  some ([.agg [.lit (.int .i64 0),.lit (.int .i64 0),.lit (.string []),.lit (.string []),.nil,.nil,.nil],.agg [.lit (.string []),.lit (.string []),.agg [.lit (.int .i64 0),.lit (.int .i64 0),.lit (.string []),.lit (.string []),.nil,.nil,.nil],.agg [.lit (.int .i64 0),.lit (.int .i64 0),.lit (.string []),.lit (.string []),.nil,.nil,.nil]]],[],places):=
 ⟨[],by kernel_rfl⟩
set_option maxRecDepth 100000 in
theorem lifted (os:Os) (started:os.Started) (H:Type) (enc:TypeId×Value->H) (F:Stop.Interp) :
  ReturnsInHanded {} Tryz.checked os 9 .any ((Rows.OpenSpec.upto Rows.scopeCommuteSpec).preRow enc Tryz.prog Tryz.f9 Rows.scopeCommuteUptoRow.domain false Rows.scopeCommuteUptoRow.laid) (((Rows.OpenSpec.upto Rows.scopeCommuteSpec).at F).post enc Tryz.prog Tryz.f9 false true false false):=by
 obtain ⟨places,hx⟩:=reads os enc
 refine returnsInHanded_of_row (C:=Tryz.checked) (s:=Rows.OpenSpec.upto Rows.scopeCommuteSpec) own0 started (by kernel_rfl) Tryz.func9
  (witness_row_atRef (enc:=enc) (C:=Tryz.checked) false (laidWorld os) #[arg0,arg1] rfl (by kernel_rfl) (by kernel_rfl) (by kernel_rfl)
   (OpenSpec.preRow_of_cond 8 hx (by kernel_rfl) (fun k hk=>by cases hk;kernel_rfl) (by kernel_rfl) (laid_met os _))) ?_
 intro W base args ds gs before hval hW _ hc _ hL _ _
 exact contract H enc W args ds gs before base hval hW (hc _ rfl) hL
theorem said:Rows.ScopeCommuteUptoSaid:=
 OpenClaim.holds_of_cond 9 Tryz.f9 rfl rfl rfl rfl rfl rfl rfl ⟨rfl,rfl,rfl,rfl,rfl⟩ rfl rfl rfl rfl rfl (by kernel_rfl) Tryz.func9 (by kernel_rfl)
  (of_decide_eq_true (by kernel_rfl)) (by unfold Func.isWrapper;first|(rw[if_pos (by decide +kernel)];kernel_rfl)|(rw[if_neg (by decide +kernel)];exact ⟨rfl,rfl⟩))
  (fun os started H enc _ F=>by rw[OpenClaim.pre_eq_preRow];exact lifted os started H enc F)
theorem plain (f:FuncId) (fn:Func) (hf:Tryz.pinned.checked.prog.funcNamed "reprise/repriselaw03.ScopeCommute" = some f) (hfn:Tryz.pinned.checked.prog.funcs[f]?=some fn) :
  true=Tryz.pinned.checked.prog.looks []/\∀ (j:Nat) t,fn.params[j]?=some t->Tryz.pinned.checked.prog.wantsStandIn t=false:=by
 obtain rfl:f=9:=Option.some.inj ((show Tryz.prog.funcNamed "reprise/repriselaw03.ScopeCommute" = some 9 by kernel_rfl).symm.trans hf) |>.symm
 obtain rfl:fn=Tryz.f9:=(Option.some.inj (Tryz.func9.symm.trans hfn)).symm
 refine ⟨by kernel_rfl,fun j t ht=>?_⟩
 have hp:Tryz.f9.params = #[27,61]:=rfl
 rw[hp] at ht
 have hm:=Array.mem_of_getElem? ht
 simp only[List.mem_toArray,List.mem_cons,List.not_mem_nil,or_false] at hm
 rcases hm with rfl|rfl<;>exact (show Tryz.prog.wantsStandIn _=false by kernel_rfl)
theorem card:Rows.ScopeCommuteUptoCardSaid:=
 Claim7.holds_tied_plain_at .later [] _ _ _ _ said (fun _ h=>by cases h) (by kernel_rfl) (fun _ h=>by cases h) scopeCommuteUpto_row_tie rfl ⟨rfl,rfl⟩ (by kernel_rfl) rfl plain (by kernel_rfl)
end Go.Proofs.YtjeiboididfgmaaGreatDoor.scopeCommute
