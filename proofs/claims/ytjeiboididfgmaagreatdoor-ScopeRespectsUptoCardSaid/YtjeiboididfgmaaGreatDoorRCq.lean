/- ScopeRespects returns true: if an expression and what is substituted are replaced by their canonical form and by the result of Unique, Subst is not refused where it was not, and the results are equal up to renaming. Conditions: those of the given card alone (arguments of bulk at most 1048576; the listed package-level tables hold what the program text lays). -/
import Derived.Test.YtjeiboididfgmaaGreatDoorRR
import Derived.Test.YtjeiboididfgmaaGreatDoorCards
import Derived.Test.YtjeiboididfgmaaGreatDoorTie
set_option linter.unusedVariables false
set_option linter.unusedSimpArgs false
namespace Go.Proofs.YtjeiboididfgmaaGreatDoor.scopeRespects
open Go Go.V Go.ChangeShapes Go.WideShapes Go.ChangeAt Go.RowKit
theorem walk {W:World} (hL:laidMet Tryz.prog Rows.scopeRespectsUptoRow.laid W) (a:Ex) (x:ByteArray) (b:Ex) (ha:Inp a) (hx:x.size<=bnd) (hb:Inp b) (u s v:Value) (hu:Rep (Imm H00 W) W a.av u) (hs:Rep (Imm H00 W) W (.str x) s) (hv:Rep (Imm H00 W) W b.av v):Calls Tryz.prog 10 #[u,s,v] W fun e W'=>e=.returned (.bool true)/\Evo H00 W H00 W':=by
 have h:=(respectsLaw_c (H:=H00) a x b ha hx hb).2 (fun r H'=>r=.ret (.bool true)/\H'=H00) ⟨rfl,rfl⟩ W [u,s,v] (.cons hu (.cons hs (.cons hv .nil))) (st0 hL)
 refine callsIn_wide.1 (CallsIn.mono h fun e W' he=>?_)
 cases e with
 |returned v=>
  obtain ⟨a,H',⟨ha,rfl⟩,hr,_,ev⟩:=he
  cases ha
  exact ⟨by rw[hr.val_eq],ev⟩
 |panicked c=>
  obtain ⟨v,_,a,H',⟨ha,_⟩,_⟩:=he
  cases ha
 |outgrown=>exact he.elim
set_option maxRecDepth 100000 in
theorem contract (H:Type) (enc:TypeId×Value->H) (W:World) (args:Array Value) (ds gs:List (DataW H)) (before:List MemPlace) (base:Nat)
  (hval:∀ (j:Nat) t v,Tryz.f10.params[j]?=some t->args[j]?=some v->Value.okWide Tryz.prog W .any base t v)
  (hW:DataW.Whole enc Tryz.prog Tryz.f10.params.toList Rows.scopeRespectsSpec.vars false W args.toList ds gs before) (hk:Rows.uptoSmall H (ds++gs)=true) (hL:laidMetH Tryz.prog Rows.scopeRespectsUptoRow.laid W) :
  Calls Tryz.prog 10 args W fun e W'=>∃ v,e=.returned v/\Rows.scopeRespectsSpec.post enc Tryz.prog Tryz.f10 false true false false W args v W':=by
 have hW':=hW
 obtain ⟨p,q,hA0,hV,rfl,hfz,hnd⟩:=hW
 have hA:DataW.TrodAll enc Tryz.prog W 0 (fun _=>true) true [27,9,27] args.toList ds p:=hA0
 have hA1:=hA
 obtain ⟨v0,vs0,d0,ds0,p0,q0,hargs,rfl,rfl,h0,r0⟩:=trodAll_cons hA
 obtain ⟨v1,vs1,d1,ds1,p1,q1,rfl,rfl,rfl,h1,r1⟩:=trodAll_cons r0
 obtain ⟨v2,vs2,d2,ds2,p2,q2,rfl,rfl,rfl,h2,r2⟩:=trodAll_cons r1
 obtain ⟨rfl,rfl,rfl⟩:=trodAll_nil r2
 obtain rfl:args = #[v0,v1,v2]:=by cases args;simp_all
 obtain ⟨rfl,rfl⟩:=trodVars_none hV
 have hbb:Rows.uptoBulk d0<=bnd/\Rows.uptoBulk d1<=bnd/\Rows.uptoBulk d2<=bnd:=by
  have:Rows.uptoBulkAll [d0,d1,d2]<=1048576:=by simpa[Rows.uptoSmall] using hk
  have h2:(1048576:Nat)<=bnd:=by decide
  simp only[Rows.uptoBulkAll] at this
  omega
 obtain ⟨a,ha,hva⟩:=arg_expr h0 hbb.1
 obtain ⟨x,hx,hvx⟩:=arg_str h1 (hval 1 9 v1 rfl rfl) hbb.2.1
 obtain ⟨b,hb,hvb⟩:=arg_expr h2 hbb.2.2
 simp only[List.append_nil] at hW' hA1
 refine (walk hL a x b ha hx hb v0 v1 v2 hva hvx hvb).mono fun e W' ⟨he,hev⟩=>?_
 subst he
 refine ⟨_,rfl,post_evo (pa:=p0++(p1++p2)) (pv:=[]) hW' (fun _ _ _=>trodAll_cons_mk (shut_bool Tryz.underlying4 _) trodAll_mk0) (fun sp hsp=>?_) (fun _ _=>rfl) (by simp) hev (ok_one (by kernel_rfl) rfl (okWide_bool_mk Tryz.underlying4 _))⟩
 exact args_again (ts:=[27,9,27]) (fun t ht=>by
  simp only[List.mem_cons,List.not_mem_nil,or_false] at ht
  rcases ht with rfl|rfl|rfl<;>exact of_decide_eq_true (by kernel_rfl)) hA1 (fun p hp=>hW'.lt p hp) hev sp hsp
def arg0:Value:=.agg #[.int .i64 0,.int .i64 0,.string ⟨#[]⟩,.string ⟨#[]⟩,.slice none 0 0,.slice none 0 0,.slice none 0 0]
def arg1:Value:=.string ⟨#[]⟩
theorem reads (os:Os) {H:Type} (enc:TypeId×Value->H):∃ places,DataW.whole enc Tryz.prog ((laidWorld os).forCall (fun _ _=>0) ⟨#[],#[arg0,arg1,arg0],[]⟩).memory Tryz.f10.params.toList Rows.scopeRespectsSpec.vars false (#[arg0,arg1,arg0]:Array Value).toList 8 =
  some ([.agg [.lit (.int .i64 0),.lit (.int .i64 0),.lit (.string []),.lit (.string []),.nil,.nil,.nil],.lit (.string []),.agg [.lit (.int .i64 0),.lit (.int .i64 0),.lit (.string []),.lit (.string []),.nil,.nil,.nil]],[],places):=
 ⟨[],by kernel_rfl⟩
set_option maxRecDepth 100000 in
theorem lifted (os:Os) (started:os.Started) (H:Type) (enc:TypeId×Value->H) (F:Stop.Interp) :
  ReturnsInHanded {} Tryz.checked os 10 .any ((Rows.OpenSpec.upto Rows.scopeRespectsSpec).preRow enc Tryz.prog Tryz.f10 Rows.scopeRespectsUptoRow.domain false Rows.scopeRespectsUptoRow.laid) (((Rows.OpenSpec.upto Rows.scopeRespectsSpec).at F).post enc Tryz.prog Tryz.f10 false true false false):=by
 obtain ⟨places,hx⟩:=reads os enc
 refine returnsInHanded_of_row (C:=Tryz.checked) (s:=Rows.OpenSpec.upto Rows.scopeRespectsSpec) own0 started (by kernel_rfl) Tryz.func10
  (witness_row_atRef (enc:=enc) (C:=Tryz.checked) false (laidWorld os) #[arg0,arg1,arg0] rfl (by kernel_rfl) (by kernel_rfl) (by kernel_rfl)
   (OpenSpec.preRow_of_cond 8 hx (by kernel_rfl) (fun k hk=>by cases hk;kernel_rfl) (by kernel_rfl) (laid_met os _))) ?_
 intro W base args ds gs before hval hW _ hc _ hL _ _
 exact contract H enc W args ds gs before base hval hW (hc _ rfl) hL
theorem said:Rows.ScopeRespectsUptoSaid:=
 OpenClaim.holds_of_cond 10 Tryz.f10 rfl rfl rfl rfl rfl rfl rfl ⟨rfl,rfl,rfl,rfl,rfl⟩ rfl rfl rfl rfl rfl (by kernel_rfl) Tryz.func10 (by kernel_rfl)
  (of_decide_eq_true (by kernel_rfl)) (by unfold Func.isWrapper;first|(rw[if_pos (by decide +kernel)];kernel_rfl)|(rw[if_neg (by decide +kernel)];exact ⟨rfl,rfl⟩))
  (fun os started H enc _ F=>by rw[OpenClaim.pre_eq_preRow];exact lifted os started H enc F)
theorem plain (f:FuncId) (fn:Func) (hf:Tryz.pinned.checked.prog.funcNamed "reprise/repriselaw03.ScopeRespects" = some f) (hfn:Tryz.pinned.checked.prog.funcs[f]?=some fn) :
  true=Tryz.pinned.checked.prog.looks []/\∀ (j:Nat) t,fn.params[j]?=some t->Tryz.pinned.checked.prog.wantsStandIn t=false:=by
 obtain rfl:f=10:=Option.some.inj ((show Tryz.prog.funcNamed "reprise/repriselaw03.ScopeRespects" = some 10 by kernel_rfl).symm.trans hf) |>.symm
 obtain rfl:fn=Tryz.f10:=(Option.some.inj (Tryz.func10.symm.trans hfn)).symm
 refine ⟨by kernel_rfl,fun j t ht=>?_⟩
 have hp:Tryz.f10.params = #[27,9,27]:=rfl
 rw[hp] at ht
 have hm:=Array.mem_of_getElem? ht
 simp only[List.mem_toArray,List.mem_cons,List.not_mem_nil,or_false] at hm
 rcases hm with rfl|rfl|rfl<;>exact (show Tryz.prog.wantsStandIn _=false by kernel_rfl)
theorem card:Rows.ScopeRespectsUptoCardSaid:=
 Claim7.holds_tied_plain_at .later [] _ _ _ _ said (fun _ h=>by cases h) (by kernel_rfl) (fun _ h=>by cases h) scopeRespectsUpto_row_tie rfl ⟨rfl,rfl⟩ (by kernel_rfl) rfl plain (by kernel_rfl)
end Go.Proofs.YtjeiboididfgmaaGreatDoor.scopeRespects
