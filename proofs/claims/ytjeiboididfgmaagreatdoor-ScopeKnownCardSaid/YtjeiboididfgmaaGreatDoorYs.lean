/- An evaluator for closed runs: the same one, by stages: code and calls. No condition. -/
import Derived.Test.YtjeiboididfgmaaGreatDoorYr
set_option linter.unusedVariables false
set_option linter.unusedSimpArgs false
namespace Go.V
open Go

def fput (d : Option Nat) (s : XS) : Option (AV × HS) → Option XS
  | some r => some ⟨(putBx d).run s.tr r.1, r.2⟩
  | none => none
def gdF (want : Bool) : AV → Bool
  | .val (.bool b) => if want then b else !b
  | _ => false
def stepBx (C : Cfg) (ops : Array Oper) (o : Oper) : Bx (IHT → XS → Option XS) := match o.guard with
  | none => ⟨fun ih s => fput o.dst s ((opBx C o).run ih s.tr s.hs)⟩
  | some (j, want) => match (ops[j]?).bind (·.dst) with
    | some d => ⟨fun ih s => if gdF want ((getBx 12 d).run s.tr) then fput o.dst s ((opBx C o).run ih s.tr s.hs) else some ⟨(putBx o.dst).run s.tr .unit, s.hs⟩⟩
    | none => ⟨fun _ s => some ⟨(putBx o.dst).run s.tr .unit, s.hs⟩⟩
theorem fput_eq (C : Cfg) (o : Oper) (ih : IHT) (s : XS) : fput o.dst s ((opBx C o).run ih s.tr s.hs) = (match xop C ih (ev C.G s.tr.get) s.hs o with
    | some (v, hs') => some (s.put o.dst v hs')
    | none => none) := by
  rw [opBx_eq]
  cases xop C ih (ev C.G s.tr.get) s.hs o with
  | none => rfl
  | some r => obtain ⟨v, hs'⟩ := r; simp only [fput, putBx_eq]
theorem gdF_eq (ops : Array Oper) (tr : Tr) (j d : Nat) (want : Bool) (h : (ops[j]?).bind (·.dst) = some d) : gdF want (tr.get d) = (yieldA ops tr.get j == some want) := by
  unfold yieldA
  rw [h]
  simp only
  generalize tr.get d = a
  cases a <;> first | (cases want <;> rfl) | (rename_i v; cases v <;> first | (cases want <;> rfl) | (rename_i b; cases want <;> cases b <;> rfl))
theorem stepBx_eq (C : Cfg) (ops : Array Oper) (o : Oper) (ih : IHT) (s : XS) : (stepBx C ops o).run ih s = opStep C ih ops o s := by
  unfold stepBx opStep wantA
  split
  · rename_i h; simp only [h, if_true, fput_eq]; rfl
  · rename_i j want h
    simp only [h]
    split
    · rename_i d hd
      simp only [getBx_eq, gdF_eq ops s.tr j d want hd, fput_eq, putBx_eq]; rfl
    · rename_i hd
      have : (yieldA ops s.tr.get j == some want) = false := by unfold yieldA; rw [hd]; rfl
      simp only [this, putBx_eq]; rfl
def opsBx (C : Cfg) (ops : Array Oper) : List Oper → Bx (IHT → XS → Option XS)
  | [] => ⟨fun _ s => some s⟩
  | o :: rest => ⟨fun ih s => match (stepBx C ops o).run ih s with
    | some s' => (opsBx C ops rest).run ih s'
    | none => none⟩
theorem opsBx_eq (C : Cfg) (ops : Array Oper) (ih : IHT) : ∀ (l : List Oper) (s : XS), (opsBx C ops l).run ih s = runOps C ih ops l s
  | [], _ => rfl
  | o :: rest, s => by
    simp only [opsBx, runOps, stepBx_eq]
    cases opStep C ih ops o s with
    | none => rfl
    | some s' => exact opsBx_eq C ops ih rest s'
def opsDBx (C : Cfg) (ops : Array Oper) : List Oper → Bx (IHT → XS → Option XS)
  | [] => ⟨fun _ s => some s⟩
  | o :: rest => match o.op with
    | .defer _ => ⟨fun ih s => runOpsD C ih ops (o :: rest) s⟩
    | _ => ⟨fun ih s => match (stepBx C ops o).run ih s with
      | some s' => (opsDBx C ops rest).run ih s'
      | none => none⟩
theorem opsDBx_eq (C : Cfg) (ops : Array Oper) (ih : IHT) : ∀ (l : List Oper) (s : XS), (opsDBx C ops l).run ih s = runOpsD C ih ops l s
  | [], _ => rfl
  | o :: rest, s => by
    unfold opsDBx
    split
    · rfl
    · rename_i hn
      simp only [stepBx_eq]
      have e : runOpsD C ih ops (o :: rest) s = (match opStep C ih ops o s with
          | some s' => runOpsD C ih ops rest s'
          | none => none) := by
        rw [runOpsD]
        split
        · rename_i c h; exact absurd h (hn c)
        · rfl
      rw [e]
      cases opStep C ih ops o s with
      | none => rfl
      | some s' => exact opsDBx_eq C ops ih rest s'
/-! ### Quiet operations -/
def fmap1 : Option (AV × HS) → Option AV
  | some r => some r.1
  | none => none
theorem fmap1_eq (a : Option (AV × HS)) : fmap1 a = a.map (·.1) := by cases a <;> rfl
def qopBx (C : Cfg) (o : Oper) : Bx (IHT → Tr → HS → Option AV) := match o.op with
  | .move x => ⟨fun _ tr hs => some ((opdBx C.G x).run tr)⟩
  | .assign x => ⟨fun _ tr hs => some ((opdBx C.G x).run tr)⟩
  | .call c => match c.callee with
    | .value f => ⟨fun ih tr hs => match ih (.call ((opdBx C.G f).run tr) ((argsBx C.G c.args.toList).run tr) { hs with ro := hs.n, rm := hs.m }) with
      | some (.call v hs') => match rsv hs'.h hs.n hs.m 64 v with
        | some g => if gnd g then some g else none
        | none => none
      | _ => none⟩
    | _ => ⟨fun _ tr hs => fmap1 ((pureBx C o).run tr hs)⟩
  | .box .. | .buildSlice .. => ⟨fun ih tr hs => xq C ih (ev C.G tr.get) hs o⟩
  | _ => ⟨fun _ tr hs => fmap1 ((pureBx C o).run tr hs)⟩
theorem qopBx_eq (C : Cfg) (o : Oper) (ih : IHT) (tr : Tr) (hs : HS) : (qopBx C o).run ih tr hs = xq C ih (ev C.G tr.get) hs o := by
  unfold qopBx
  split
  · rename_i h; simp only [xq, h, opdBx_eq, xpure, fnPlain, if_true, opnds, vfast]; rfl
  · rename_i h; simp only [xq, h, opdBx_eq, xpure, fnPlain, if_true, opnds, vfast]; rfl
  · rename_i c h
    split
    · rename_i f hf; simp only [xq, h, hf, opdBx_eq, argsBx_eq]; rfl
    · rename_i hn
      simp only [fmap1_eq, pureBx_eq, xq, h]
  all_goals first
    | rfl
    | (simp only [fmap1_eq, pureBx_eq]
       unfold xq
       split <;> first | rfl | (exfalso; rename_i h; simp_all; done))
def qsBx (C : Cfg) (ops : Array Oper) : List Oper → Bx (IHT → XS → Option XS)
  | [] => ⟨fun _ s => some s⟩
  | o :: rest => match o.guard with
    | none => ⟨fun ih s => match (qopBx C o).run ih s.tr s.hs with
      | some v => (qsBx C ops rest).run ih ⟨(putBx o.dst).run s.tr v, s.hs⟩
      | none => none⟩
    | some (j, want) => ⟨fun ih s => if wantA ops o s.tr.get then match (qopBx C o).run ih s.tr s.hs with
        | some v => (qsBx C ops rest).run ih ⟨(putBx o.dst).run s.tr v, s.hs⟩
        | none => none
      else (qsBx C ops rest).run ih ⟨(putBx o.dst).run s.tr .unit, s.hs⟩⟩
theorem qsBx_eq (C : Cfg) (ops : Array Oper) (ih : IHT) : ∀ (l : List Oper) (s : XS), (qsBx C ops l).run ih s = runQ C ih ops l s
  | [], _ => rfl
  | o :: rest, s => by
    unfold qsBx
    split
    · rename_i h
      have hw : wantA ops o s.tr.get = true := by unfold wantA; rw [h]
      simp only [runQ, hw, if_true, qopBx_eq, putBx_eq]
      cases xq C ih (ev C.G s.tr.get) s.hs o with
      | none => rfl
      | some v => exact qsBx_eq C ops ih rest _
    · rename_i j want h
      simp only [runQ, qopBx_eq, putBx_eq]
      split
      · cases xq C ih (ev C.G s.tr.get) s.hs o with
        | none => rfl
        | some v => exact qsBx_eq C ops ih rest _
      · exact qsBx_eq C ops ih rest _

/-! ### Code -/
def mixes (C : Cfg) (ih : IHT) (ops : Array Oper) (s : XS) : Option XS :=
  orElse' (mixRun C ih ops (qset C true ops) false s) fun _ => orElse' (mixRun C ih ops (qset C false ops) false s) fun _ => mixRun C ih ops (qset C true ops) true s
def drawBx (C : Cfg) (ops : Array Oper) : Bx (IHT → XS → Option XS) := match headK C ops with
  | some k => ⟨fun ih s => orElse' (match (qsBx C ops (ops.toList.take k)).run ih s with
      | some s1 => (opsBx C ops (ops.toList.drop k)).run ih s1
      | none => none) fun _ => mixes C ih ops s⟩
  | none => ⟨fun ih s => mixes C ih ops s⟩
theorem drawBx_eq (C : Cfg) (ops : Array Oper) (ih : IHT) (s : XS) : (drawBx C ops).run ih s = sDraw C ih ops s := by
  unfold drawBx sDraw drawRun
  split
  · rename_i k h
    simp only [h, qsBx_eq, opsBx_eq]; rfl
  · rename_i h
    simp only [h]; rfl
def codeBx (C : Cfg) (m : Nat) (rd : Bool) : Code → Bx (IHT → XS → Option TOut)
  | .skip => ⟨fun _ s => some (.code .normal s)⟩
  | .seq a b => ⟨fun ih s => sSeq ih m rd b (ih (.code m rd a s))⟩
  | .cond c a b => ⟨fun ih s => sCond ih m rd a b s ((opdBx C.G c).run s.tr)⟩
  | .region _ ops draw => if draw then ⟨fun ih s => sReg ((drawBx C ops).run ih s)⟩ else if rd then ⟨fun ih s => sReg ((opsBx C ops ops.toList).run ih s)⟩ else ⟨fun ih s => sReg ((opsDBx C ops ops.toList).run ih s)⟩
  | .block id b => ⟨fun ih s => sBlock id (ih (.code m rd b s))⟩
  | .loop b => ⟨fun ih s => sSeq ih m rd (.loop b) (ih (.code m rd b s))⟩
  | .exit i => ⟨fun _ s => some (.code (.exit i) s)⟩
  | .ret => ⟨fun _ s => some (.code .ret s)⟩
  | c => ⟨fun ih s => xcode C ih m rd s c⟩
theorem codeBx_eq (C : Cfg) (m : Nat) (rd : Bool) (c : Code) (ih : IHT) (s : XS) : (codeBx C m rd c).run ih s = xcode C ih m rd s c := by
  cases c with
  | region id ops draw =>
    cases draw
    · cases rd
      · simp only [codeBx, opsDBx_eq]; rfl
      · simp only [codeBx, opsBx_eq]; rfl
    · simp only [codeBx, drawBx_eq]; rfl
  | cond c a b => simp only [codeBx, opdBx_eq]; rfl
  | _ => rfl

/-! ### Calls -/
def fOf : Nat → List AV → Tr → Tr
  | _, [], t => t
  | i, a :: xs, t => fOf (i + 1) xs ((setBx 12 i).run t a)
theorem fOf_eq : ∀ (i : Nat) (l : List AV) (t : Tr), fOf i l t = Tr.ofList i l t
  | _, [], _ => rfl
  | i, a :: xs, t => by simp only [fOf, Tr.ofList, setBx_eq, fOf_eq]
def finBx (C : Cfg) (fn : Func) : Bx (XS → Option TOut) := match fn.results.toList with
  | [.tmp t] => ⟨fun s => some (.call ((getBx 12 t).run s.tr) s.hs)⟩
  | [.tmp t, .tmp u] => ⟨fun s => some (.call (.tup [(getBx 12 t).run s.tr, (getBx 12 u).run s.tr]) s.hs)⟩
  | _ => ⟨fun s => finish C fn s⟩
theorem finBx_eq (C : Cfg) (fn : Func) (s : XS) : (finBx C fn).run s = finish C fn s := by
  unfold finBx
  split
  · rename_i t h; simp only [finish, vresults, h, vresL, vres, getBx_eq]
  · rename_i t u h; simp only [finish, vresults, h, vresL, vres, getBx_eq]
  · rfl
def fEnd (C : Cfg) (fn : Func) : Option TOut → Option TOut
  | some (.code .normal s) => (finBx C fn).run s
  | some (.code .ret s) => (finBx C fn).run s
  | _ => none
theorem fEnd_eq (C : Cfg) (fn : Func) (o : Option TOut) : fEnd C fn o = cEnd C fn o := by
  unfold fEnd cEnd
  split <;> first | rfl | simp only [finBx_eq]
def fnBx (C : Cfg) (f : Nat) : Bx (IHT → List AV → HS → Option TOut) := match C.P.funcs[f]? with
  | some fn => match fn.body with
    | some c => if Plain C.P f && cok fn.ntmps c && Nat.ble fn.ntmps 4000 then ⟨fun ih all hs => if Nat.ble all.length fn.ntmps then fEnd C fn (ih (.code fn.ntmps false c ⟨fOf 0 all .leaf, hs⟩)) else none⟩ else ⟨fun _ _ _ => none⟩
    | none => ⟨fun _ _ _ => none⟩
  | none => ⟨fun _ _ _ => none⟩
theorem fnBx_eq (C : Cfg) (f : Nat) (ih : IHT) (all : List AV) (hs : HS) : (fnBx C f).run ih all hs = cBody C ih f all hs C.P.funcs[f]? := by
  unfold fnBx
  split
  · rename_i fn hfn
    rw [hfn]
    split
    · rename_i c hc
      simp only [cBody, hc, nble_dec]
      by_cases h1 : (Plain C.P f && cok fn.ntmps c) = true
      · rw [h1]
        by_cases h2 : fn.ntmps ≤ 4000
        · by_cases h3 : all.length ≤ fn.ntmps
          · simp [h2, h3, fEnd_eq, fOf_eq]
          · simp [h2, h3]
        · simp [h2]
      · simp [h1]
    · rename_i hc; simp only [cBody, hc]
  · rename_i hfn; rw [hfn]; rfl
def fFunc (C : Cfg) (ih : IHT) (f : Nat) (all : List AV) (hs : HS) : Option TOut := orElse' (cHooked C f all hs) fun _ => match C.clone f with
  | some (e, sz) => cClone hs e sz all
  | none => (fnBx C f).run ih all hs
theorem fFunc_eq (C : Cfg) (ih : IHT) (f : Nat) (all : List AV) (hs : HS) : fFunc C ih f all hs = cFunc C ih f all hs := by
  unfold fFunc cFunc
  simp only [fnBx_eq]; rfl
def fvalue (C : Cfg) (ih : IHT) (args : List AV) (hs : HS) : AV → Option TOut
  | .func (.func f) first cap => fFunc C ih f (first ++ args ++ cap) hs
  | .func (.yield l) [] [] => cYield ih l args hs
  | _ => none
def fstep (C : Cfg) (ih : IHT) : IHT
  | .code m rd c s => (codeBx C m rd c).run ih s
  | .call fv args hs => fvalue C ih args hs fv
theorem fstep_eq (C : Cfg) (ih : IHT) : fstep C ih = xstep C ih := by
  funext t
  cases t with
  | code m rd c s => simp only [fstep, xstep, codeBx_eq]
  | call fv args hs =>
    simp only [fstep, xstep]
    unfold fvalue xvalue
    split <;> first | rfl | simp only [fFunc_eq]
noncomputable def frun (C : Cfg) (n : Nat) : IHT := Nat.rec (fun _ => none) (fun _ ih => fstep C ih) n
theorem frun_eq (C : Cfg) : ∀ n, frun C n = run C n
  | 0 => by funext t; rfl
  | n + 1 => by
    show fstep C (frun C n) = _
    rw [frun_eq C n, fstep_eq]; funext t; rfl
/-- What a closed call yields, by stages. -/
noncomputable def fclosed (C : Cfg) (fuel : Nat) (f : FuncId) (args : List AV) : Option AV := if gndL args then match frun C fuel (.call (.fn f) args H0) with
    | some (.call v hs') => match rsv hs'.h 0 topN 64 v with
      | some g => if gnd g then some g else none
      | none => none
    | _ => none
  else none
theorem fclosed_eq (C : Cfg) (fuel : Nat) (f : FuncId) (args : List AV) : fclosed C fuel f args = closed C fuel f args := by
  unfold fclosed closed
  rw [frun_eq]; rfl
end Go.V
