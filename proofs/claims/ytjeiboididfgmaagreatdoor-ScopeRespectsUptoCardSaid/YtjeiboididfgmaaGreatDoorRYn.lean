/- An evaluator for closed runs: code. No condition. -/
import Derived.Test.YtjeiboididfgmaaGreatDoorRYl
set_option linter.unusedVariables false
set_option linter.unusedSimpArgs false
namespace Go.V
open Go
def toAX:XT->AX
 |.normal=>.normal
 |.exit i=>.exit i
 |.goto l=>.goto l
 |.ret=>.ret
def SoundCode (C:Cfg) (ih:XTask->Option TOut):Prop:=∀ m rd c es x es',ih (.code m rd c es)=some (.code x es')->m<=4000->∀ (R:NR) (s:AS) (rr:Option Nat) (Q:AX->AS->Prop),
 RelS C.P R rd es s->(rd=false->rr=none)->(∀ R' s',PostS C.P R R' rd es es' s s'->Q (toAX x) s')->VW C.P C.G m rr c Q s
def SoundFn (C:Cfg) (ih:XTask->Option TOut):Prop:=∀ f first cap args hs v hs',ih (.call (.func (.func f) first cap) args hs)=some (.call v hs')->∀ (R:NR) (H:HM) (all':List AV) (K:ARes->HM->Prop),
 RelX R hs.F hs.h H->RenL R (first++args++cap) all'->HK hs hs' R H v K->Plain C.P f=true/\CallF C.P C.G f all' H K
section
variable {C:Cfg} {ih:XTask->Option TOut} {R R':NR} {rd:Bool} {es es':XS} {s:AS} {m:Nat} {Q:AX->AS->Prop} {rr:Option Nat} {x:XT} {c:Code}
theorem draw_sound (hC:COk C) (hih:SoundCall C ih) (hm:m<=4000) {id:Nat} {ops:Array Oper} (hx:sDraw C ih ops es=some es') (hr:RelS C.P R rd es s) (hk:∀ R' s',PostS C.P R R' rd es es' s s'->Q .normal s'):VW C.P C.G m rr (.region id ops true) Q s:=by
 unfold sDraw at hx
 have or:∀ {a:Option XS} {f:Unit->Option XS},orElse' a f=some es'->a=some es'\/f ()=some es':=by
  intro a f h
  cases a with
  |none=>exact .inr h
  |some y=>exact .inl h
 rcases or hx with h|h
 ·exact drawRun_sound hC hih h hm hr hk
 ·rcases or h with h|h
  ·exact mixRun_sound hC hih hm h hr hk
  ·rcases or h with h|h
   ·exact mixRun_sound hC hih hm h hr hk
   ·exact mixRun_sound hC hih hm h hr hk
theorem xcode_sound (hC:COk C) {n:Nat} (hsc:∀ k,k<=n->SoundCode C (run C k)) (hih:SoundCall C (run C n)) (hm:m<=4000)
  (hrange:∀ g ps asg body,c=.rangeFunc g ps asg body->rd=false->VW C.P C.G m none c Q s)
  (hx:xcode C (run C n) m rd es c=some (.code x es')) (hr:RelS C.P R rd es s) (hrr:rd=false->rr=none) (hk:∀ R' s',PostS C.P R R' rd es es' s s'->Q (toAX x) s'):VW C.P C.G m rr c Q s:=by
 have h0:=hsc n (Nat.le_refl _)
 unfold xcode at hx
 split at hx
 ·cases hx;exact G10 (hk R s (.refl hr))
 ·cases hx;exact VW_label (hk R s (.refl hr))
 ·cases hx;exact L11 (hk R s (.refl hr))
 ·cases hx;exact VW_goto (hk R s (.refl hr))
 ·cases hx;exact L10 (hk R s (.refl hr))
 ·rename_i a b
  refine I10 ?_
  cases h1:run C n (.code m rd a es) with
  |none=>rw[h1] at hx;cases hx
  |some o=>
   rw[h1] at hx
   cases o with
   |call v hs=>cases hx
   |code x1 es1=>
    refine h0 _ _ _ _ _ _ h1 hm R s rr _ hr hrr fun R1 s1 p1=>?_
    cases x1 with
    |normal=>
     exact h0 _ _ _ _ _ _ hx hm R1 s1 rr Q p1.rel hrr fun R' s' p=>hk R' s' (p1.trans p)
    |_=>cases hx;exact hk _ _ p1
 ·rename_i cc a b
  have he:=ev_ren hC hr.tm cc
  generalize ev C.G es.tr.get cc=w at hx he
  unfold sCond at hx
  split at hx
  ·exact VW_cond (t:=true) he.val_inv (fun _=>h0 _ _ _ _ _ _ hx hm R s rr Q hr hrr hk) (fun h=>by cases h)
  ·exact VW_cond (t:=false) he.val_inv (fun h=>by cases h) (fun _=>h0 _ _ _ _ _ _ hx hm R s rr Q hr hrr hk)
  ·cases hx
 ·rename_i id b
  refine J10 ?_
  cases h1:run C n (.code m rd b es) with
  |none=>rw[h1] at hx;cases hx
  |some o=>
   rw[h1] at hx
   cases o with
   |call v hs=>cases hx
   |code x1 es1=>
    refine h0 _ _ _ _ _ _ h1 hm R s rr _ hr hrr fun R1 s1 p1=>?_
    cases x1 with
    |exit j=>
     simp only[sBlock] at hx
     show if j=id then Q .normal s1 else Q (.exit j) s1
     split at hx<;>cases hx
     ·rw[if_pos ‹_›];exact hk _ _ p1
     ·rw[if_neg ‹_›];exact hk _ _ p1
    |_=>cases hx;exact hk _ _ p1
 ·rename_i b
  refine VW_scope ?_
  cases h1:run C n (.code m rd b es) with
  |none=>rw[h1] at hx;cases hx
  |some o=>
   rw[h1] at hx
   cases o with
   |call v hs=>cases hx
   |code x1 es1=>
    refine h0 _ _ _ _ _ _ h1 hm R s rr _ hr hrr fun R1 s1 p1=>?_
    cases x1 with
    |goto l=>cases hx
    |_=>cases hx;exact hk _ _ p1
 ·rename_i b
  -- a loop: its rounds by the fuel
  let Inv:Nat->AS->Prop:=fun k s1=>∃ R1 es1,k<=n/\PostS C.P R R1 rd es es1 s s1/\sSeq (run C k) m rd (.loop b) (run C k (.code m rd b es1))=some (.code x es')
  refine C11 Inv (fun k=>k) n ⟨R,es,Nat.le_refl _,.refl hr,hx⟩ ?_
  rintro k s1 ⟨R1,es1,hkn,p1,hx1⟩
  have hk0:=hsc k hkn
  cases h1:run C k (.code m rd b es1) with
  |none=>rw[h1] at hx1;cases hx1
  |some o=>
   rw[h1] at hx1
   cases o with
   |call v hs=>cases hx1
   |code x1 es2=>
    refine hk0 _ _ _ _ _ _ h1 hm R1 s1 rr _ p1.rel hrr fun R2 s2 p2=>?_
    cases x1 with
    |normal=>
     show ∃ j,Inv j s2/\j<k
     simp only[sSeq] at hx1
     cases k with
     |zero=>cases hx1
     |succ k=>
      refine ⟨k,⟨R2,es2,by omega,p1.trans p2,?_⟩,by omega⟩
      exact hx1
    |_=>cases hx1;exact hk _ _ (p1.trans p2)
 ·rename_i id ops
  cases rd with
  |true=>
   simp only[if_true] at hx
   cases h1:runOps C (run C n) ops ops.toList es with
   |none=>rw[h1] at hx;cases hx
   |some e1=>
    rw[h1] at hx;cases hx
    intro hc
    exact VW_region (runOps_sound hC hih hm _ h1 (fun o h=>Array.all_eq_true_iff_forall_mem.1 hc o (by simpa using h)) hr hk) hc
  |false=>
   simp only[Bool.false_eq_true,if_false] at hx
   obtain rfl:=hrr rfl
   cases h1:runOpsD C (run C n) ops ops.toList es with
   |none=>rw[h1] at hx;cases hx
   |some e1=>
    rw[h1] at hx;cases hx
    intro hc
    exact VW_regionD (runOpsD_sound hC hih hm _ h1 (fun o h=>Array.all_eq_true_iff_forall_mem.1 hc o (by simpa using h)) hr hk) hc
 ·rename_i id ops
  cases h1:sDraw C (run C n) ops es with
  |none=>rw[h1] at hx;cases hx
  |some e1=>
   rw[h1] at hx;cases hx
   exact draw_sound hC hih hm h1 hr hk
 ·rename_i g ps asg body
  cases rd with
  |true=>simp only[if_true] at hx;cases hx
  |false=>
   obtain rfl:=hrr rfl
   exact hrange g ps asg body rfl rfl
 ·cases hx
end
end Go.V
