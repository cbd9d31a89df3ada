/- Weakest preconditions over abstract states: calls, operations, regions, control. No condition. -/
import Derived.Test.YtjeiboididfgmaaGreatDoorVa
import Derived.RangeFuncLeaves
set_option linter.unusedVariables false
set_option linter.unusedSimpArgs false
namespace Go.V
open Go

inductive ARes where
  | ret (a : AV)
  | pan (a : AV)

abbrev wide : Fence := Fence.wide
def W (r : Option Nat) : Fence := { Fence.wide with round := r }

/-- What a run of an operation asks for. -/
def NUpon (P : Program) (K Kp : Value → World → Prop) : Result Next → Prop
  | .ok (.value v) w' => K v w'
  | .ok .skip w' => K undef w'
  | .ok (.enter f args) w' => CallsIn wide 0 P f args w' fun
      | .returned v, w'' => K v w''
      | .panicked chain, w'' => ∃ v, chain = [{ v, recovered := false }] ∧ Kp v w''
      | .outgrown, _ => False
  | .ok (.round l f tmps assign body) w' => RoundIn wide 0 P l f tmps assign body w' fun
      | .returned v, w'' => K v w''
      | .panicked chain, w'' => ∃ v, chain = [{ v, recovered := false }] ∧ Kp v w''
      | .outgrown, _ => False
  | .halt (.panic v) w' => Kp v w'
  | _ => False

def Out (G : GT) (H0 : HM) (w0 : World) (K : AV → HM → Prop) (v : Value) (w' : World) : Prop :=
  ∃ a H', K a H' ∧ Rep (Imm H' w') w' a v ∧ St G H' w' ∧ Evo H0 w0 H' w'

theorem Out.mono {G : GT} {H0 : HM} {w0 : World} {K K' : AV → HM → Prop} {v : Value} {w' : World} (h : Out G H0 w0 K v w') (hk : ∀ a H', K a H' → K' a H') : Out G H0 w0 K' v w' :=
  let ⟨a, H', k, r⟩ := h; ⟨a, H', hk _ _ k, r⟩

theorem NUpon.mono {P : Program} {K Kp K' Kp' : Value → World → Prop} {r : Result Next} (h : NUpon P K Kp r) (hk : ∀ v w, K v w → K' v w) (hp : ∀ v w, Kp v w → Kp' v w) : NUpon P K' Kp' r := by
  cases r with
  | halt x w' => cases x <;> simp only [NUpon] at h ⊢ <;> exact hp _ _ h
  | ok x w' =>
    cases x <;> simp only [NUpon] at h ⊢
    case value => exact hk _ _ h
    case skip => exact hk _ _ h
    case enter => exact CallsIn.mono h fun e w'' he => by cases e <;> first | exact hk _ _ he | exact (let ⟨v, e1, e2⟩ := he; ⟨v, e1, hp _ _ e2⟩) | exact he
    case round => exact RoundIn.mono h fun e w'' he => by cases e <;> first | exact hk _ _ he | exact (let ⟨v, e1, e2⟩ := he; ⟨v, e1, hp _ _ e2⟩) | exact he

/-- A call of a function value. -/
def CallV (P : Program) (G : GT) (fv : AV) (args : List AV) (H : HM) (K : ARes → HM → Prop) : Prop :=
  ∀ w f vs, Rep (Imm H w) w fv f → RepL (Imm H w) w args vs → St G H w →
    NUpon P (Out G H w fun a => K (.ret a)) (Out G H w fun a => K (.pan a)) ((do let d ← Deferred.ofValue f vs.toArray; invoke d.target d.args : Sem Next).run P w)

/-- A call of a function with a body. -/
def CallF (P : Program) (G : GT) (f : FuncId) (args : List AV) (H : HM) (K : ARes → HM → Prop) : Prop :=
  ∀ w vs, RepL (Imm H w) w args vs → St G H w → CallsIn wide 0 P f vs.toArray w fun
      | .returned v, w'' => Out G H w (fun a => K (.ret a)) v w''
      | .panicked chain, w'' => ∃ v, chain = [{ v, recovered := false }] ∧ Out G H w (fun a => K (.pan a)) v w''
      | .outgrown, _ => False

theorem CallV.mono {P : Program} {G : GT} {fv : AV} {args : List AV} {H : HM} {K K' : ARes → HM → Prop} (h : CallV P G fv args H K) (hk : ∀ r H', K r H' → K' r H') : CallV P G fv args H K' :=
  fun w f vs h1 h2 h3 => (h w f vs h1 h2 h3).mono (fun _ _ o => o.mono fun _ _ => hk _ _) (fun _ _ o => o.mono fun _ _ => hk _ _)

theorem CallF.mono {P : Program} {G : GT} {f : FuncId} {args : List AV} {H : HM} {K K' : ARes → HM → Prop} (h : CallF P G f args H K) (hk : ∀ r H', K r H' → K' r H') : CallF P G f args H K' :=
  fun w vs h1 h2 => CallsIn.mono (h w vs h1 h2) fun e w' he => by
    cases e <;> first | exact he.mono fun _ _ => hk _ _ | exact (let ⟨v, e1, e2⟩ := he; ⟨v, e1, e2.mono fun _ _ => hk _ _⟩) | exact he

/-- The function has a body and is entered by a call. -/
def Plain (P : Program) (f : FuncId) : Bool := match P.funcs[f]? with | some fn => fn.name != "runtime.NumGoroutine" && fn.body.isSome | none => false

theorem run_callFunc {P : Program} {f : FuncId} (h : Plain P f = true) (args : Array Value) (w : World) : (callFunc f args).run P w = .ok (.enter f args) w := by
  unfold Plain at h
  cases hf : P.funcs[f]? with
  | none => simp [hf] at h
  | some fn =>
    simp only [hf, Bool.and_eq_true, bne_iff_ne, ne_eq] at h
    have hb : ¬ fn.body = none := by intro hb; simp [hb] at h
    simp [callFunc, Result.andThen, hf, h.1, hb]

theorem CallF.callV {P : Program} {G : GT} {f : FuncId} {first cap args : List AV} {H : HM} {K : ARes → HM → Prop} (hp : Plain P f = true) (h : CallF P G f (first ++ args ++ cap) H K) :
    CallV P G (.func (.func f) first cap) args H K := by
  intro w fv vs h1 h2 h3
  cases h1 with
  | func hf hc =>
    rename_i fs cs
    have := h w (fs ++ vs ++ cs) ((hf.append h2).append hc) h3
    simp only [Deferred.ofValue, Sem.run_bind, Sem.run_pure, Result.andThen, invoke, run_callFunc hp, NUpon]
    simpa using this

/-! ### States -/
inductive ADef where
  | mark (b : Nat)
  | call (f : AV) (args : List AV)

structure AS where
  tmps : Nat → AV
  H : HM
  defs : List ADef
def upd (f : Nat → AV) (i : Nat) (v : AV) : Nat → AV := fun k => if k = i then v else f k
def AS.put (s : AS) (d : Option Nat) (v : AV) (H : HM) : AS := ⟨match d with | some i => upd s.tmps i v | none => s.tmps, H, s.defs⟩
/-- A constant, by value. -/
def cst1 : Value → AV
  | .slice none 0 0 => .nil0
  | v => .val v
def cst : Value → AV
  | .slice none 0 0 => .nil0
  | .agg cs => .agg (cs.toList.map cst1)
  | v => .val v
def cstOk1 : Value → Bool
  | .string s => decide (s.size ≤ lim)
  | .agg _ | .tuple _ => false
  | _ => true
def cstOk : Value → Bool
  | .agg cs => cs.toList.all cstOk1
  | .tuple _ => true
  | v => cstOk1 v
def AS.eval (G : GT) (s : AS) : Operand → AV
  | .tmp t => s.tmps t
  | .const v => cst v
  | .global g => match G g with | some cs => .ref cs | none => .val (.pointer (some ⟨g, 0, none⟩))
  | .func f => .fn f

def RepDef (B : Nat) (H : HM) (w : World) : ADef → Deferred → Prop
  | .mark b, d => d = { target := .collected b, args := #[] } ∧ w.heap[b]? = some (.deferred (some [])) ∧ H b = none ∧ B ≤ b
  | .call f args, d => ∃ fn first cap vf vc va, f = .func fn first cap ∧ RepL (Imm H w) w first vf ∧ RepL (Imm H w) w cap vc ∧ RepL (Imm H w) w args va ∧ d = { target := .fn fn vc.toArray, args := (vf ++ va).toArray }
inductive RepDs (B : Nat) (H : HM) (w : World) : List ADef → List Deferred → Prop
  | nil : RepDs B H w [] []
  | cons {a d as ds} (hn : ∀ b, a = .mark b → .mark b ∉ as) (h : RepDef B H w a d) (hs : RepDs B H w as ds) : RepDs B H w (a :: as) (d :: ds)

theorem RepDs.evo {B : Nat} {H H' : HM} {w w' : World} (he : Evo H w H' w') : ∀ {as : List ADef} {ds : List Deferred}, RepDs B H w as ds → RepDs B H' w' as ds
  | _, _, .nil => .nil
  | _, _, .cons (a := .mark b) hn h hs => by
    obtain ⟨h1, h2, h3, h4⟩ := h
    have hi : Imm H w b := ⟨(Array.getElem?_eq_some_iff.1 h2).1, h3⟩
    exact .cons hn ⟨h1, (he.same b hi).trans h2, (he.imm b hi).2, h4⟩ (hs.evo he)
  | _, _, .cons (a := .call f args) hn h hs => by
    obtain ⟨fn, first, cap, vf, vc, va, h1, h2, h3, h4, h5⟩ := h
    exact .cons hn ⟨fn, first, cap, vf, vc, va, h1, he.repL h2, he.repL h3, he.repL h4, h5⟩ (hs.evo he)

/-- The state stands for an activation in a world. -/
structure Sim (G : GT) (n B : Nat) (s : AS) (a : Act) (w : World) : Prop where
  size : a.tmps.size = n
  tmp : ∀ t, Rep (Imm s.H w) w (s.tmps t) (a.tmps.getD t undef)
  st : St G s.H w
  defs : RepDs B s.H w s.defs a.defers
  big : B ≤ w.heap.size

theorem rep_undef (I : Nat → Prop) (w : World) : Rep I w AV.unit undef := .val _ trivial

theorem rep_cst {I : Nat → Prop} {w : World} {v : Value} (h : cstOk v = true) : Rep I w (cst v) v := by
  have one : ∀ u : Value, cstOk1 u = true → okV u ∧ u.oneCell' = true := by
    intro u hu
    cases u <;> simp_all [cstOk1, okV, Value.oneCell']
  have one' : ∀ u : Value, cstOk1 u = true → Rep I w (cst1 u) u := by
    intro u hu
    unfold cst1
    split
    · exact .nil0 _
    · exact .val _ (one u hu).1
  unfold cst
  split
  · exact .nil0 _
  · rename_i cs
    have hall : ∀ u ∈ cs.toList, cstOk1 u = true := List.all_eq_true.1 h
    have : cs = cs.toList.toArray := by simp
    conv => rhs; rw [this]
    refine .agg (fun u hu => (one u (hall u hu)).2) ?_
    have := RepL.map_ (I := I) (w := w) cst1 (fun u => u) cs.toList (fun u hu => one' u (hall u hu))
    simpa using this
  · rename_i h1 h2
    refine .val _ ?_
    cases v with
    | agg cs => exact absurd rfl (h2 cs)
    | string s => exact (of_decide_eq_true (p := s.size ≤ lim) h)
    | _ => trivial

def opndOk : Operand → Bool
  | .const v => cstOk v
  | _ => true

theorem Sim.eval {G : GT} {n B : Nat} {s : AS} {a : Act} {w : World} (h : Sim G n B s a w) {x : Operand} (hx : opndOk x = true) : Rep (Imm s.H w) w (s.eval G x) (a.eval x) := by
  cases x with
  | tmp t => exact h.tmp t
  | const v => exact rep_cst hx
  | global g =>
    simp only [AS.eval, Act.eval]
    split
    · exact h.st.globr ‹_›
    · exact .val _ trivial
  | func f => exact .func .nil .nil

theorem Sim.put {G : GT} {n B : Nat} {s : AS} {a : Act} {w w' : World} {H' : HM} {av : AV} {v : Value} {d : Option Nat} (h : Sim G n B s a w) (he : Evo s.H w H' w') (hst : St G H' w')
    (hv : Rep (Imm H' w') w' av v) (hd : ∀ i, d = some i → i < n) : Sim G n B (s.put d av H') (a.put d v) w' := by
  refine ⟨?_, fun t => ?_, hst, ?_, Nat.le_trans h.big he.size⟩
  · cases d <;> simp [Act.put, h.size]
  · cases d with
    | none => exact he.rep (h.tmp t)
    | some i =>
      have hi := hd i rfl
      simp only [AS.put, Act.put, upd]
      split
      · rename_i e
        subst e
        have : (a.tmps.setIfInBounds t v).getD t undef = v := by simp [Array.getD_eq_getD_getElem?, h.size, hi]
        rw [this]; exact hv
      · rename_i e
        have : (a.tmps.setIfInBounds i v).getD t undef = a.tmps.getD t undef := by
          simp [Array.getD_eq_getD_getElem?, Array.getElem?_setIfInBounds_ne (Ne.symm e)]
        rw [this]; exact he.rep (h.tmp t)
  · have : (a.put d v).defers = a.defers := by cases d <;> rfl
    rw [this]; exact h.defs.evo he

/-! ### Exits -/
inductive AX where
  | normal
  | exit (id : Nat)
  | goto (l : Nat)
  | ret
  | pan (a : AV)
def XRel (I : Nat → Prop) (w : World) : AX → Exit → Prop
  | .normal, .normal => True
  | .exit i, .exit j => i = j
  | .goto i, .goto j => i = j
  | .ret, .ret => True
  | .pan a, .panic chain => ∃ v, chain = [{ v, recovered := false }] ∧ Rep I w a v
  | _, _ => False
def PostW (G : GT) (n B : Nat) (H0 : HM) (w0 : World) (Q : AX → AS → Prop) (e : Exit) (a' : Act) (w' : World) : Prop :=
  ∃ x s', Q x s' ∧ XRel (Imm s'.H w') w' x e ∧ Sim G n B s' a' w' ∧ Evo H0 w0 s'.H w'

/-! ### What is asked of the text alone -/
def dstOk (n : Nat) : Option Nat → Bool
  | some d => decide (d < n)
  | none => true
def operOk (n : Nat) (o : Oper) : Bool := dstOk n o.dst && o.op.operands.all opndOk
def cok (n : Nat) : Code → Bool
  | .region _ ops _ => ops.all (operOk n)
  | .seq a b => cok n a && cok n b
  | .cond c a b => opndOk c && cok n a && cok n b
  | .block _ c | .loop c | .scope c => cok n c
  | .rangeFunc f ps a b => opndOk f && ps.all (fun t => decide (t < n)) && cok n a && cok n b
  | _ => true

/-- The weakest precondition over abstract states. -/
def VW (P : Program) (G : GT) (n : Nat) (r : Option Nat) (c : Code) (Q : AX → AS → Prop) (s : AS) : Prop :=
  cok n c = true → ∀ B a w, Sim G n B s a w → c.wpIn (W r) 0 P (PostW G n B s.H w Q) a w

section
variable {P : Program} {G : GT} {n B : Nat} {r : Option Nat} {Q Q' : AX → AS → Prop} {s : AS}

theorem PostW.mono {H0 : HM} {w0 : World} {e : Exit} {a' : Act} {w' : World} (h : PostW G n B H0 w0 Q e a' w') (hq : ∀ x s, Q x s → Q' x s) : PostW G n B H0 w0 Q' e a' w' :=
  let ⟨x, s', q, r⟩ := h; ⟨x, s', hq _ _ q, r⟩
theorem VW.mono {c : Code} (h : VW P G n r c Q s) (hq : ∀ x s, Q x s → Q' x s) : VW P G n r c Q' s :=
  fun hc B a w hs => wpIn_mono (h hc B a w hs) fun _ _ _ p => p.mono hq
theorem PostW.of {H0 : HM} {w0 w : World} {a : Act} {x : AX} {e : Exit} (hq : Q x s) (hx : XRel (Imm s.H w) w x e) (hs : Sim G n B s a w) (he : Evo H0 w0 s.H w) : PostW G n B H0 w0 Q e a w := ⟨x, s, hq, hx, hs, he⟩
theorem VW_skip (h : Q .normal s) : VW P G n r .skip Q s := fun _ B a w hs => wpIn_skip (.of h trivial hs (Evo.refl _ _))
theorem VW_label {l : Nat} (h : Q .normal s) : VW P G n r (.label l) Q s := fun _ B a w hs => wpIn_label (.of h trivial hs (Evo.refl _ _))
theorem VW_exit {id : Nat} (h : Q (.exit id) s) : VW P G n r (.exit id) Q s := fun _ B a w hs => wpIn_exit (.of h rfl hs (Evo.refl _ _))
theorem VW_goto {l : Nat} (h : Q (.goto l) s) : VW P G n r (.goto l) Q s := fun _ B a w hs => wpIn_goto (.of h rfl hs (Evo.refl _ _))
theorem VW_ret (h : Q .ret s) : VW P G n r .ret Q s := fun _ B a w hs => wpIn_ret (.of h trivial hs (Evo.refl _ _))

def AX.then (K : AS → Prop) (Q : AX → AS → Prop) : AX → AS → Prop
  | .normal, s => K s
  | x, s => Q x s
theorem VW_seq {x y : Code} (h : VW P G n r x (AX.then (fun s' => VW P G n r y Q s') Q) s) : VW P G n r (.seq x y) Q s := by
  intro hc B a w hs
  simp only [cok, Bool.and_eq_true] at hc
  refine wpIn_seq (wpIn_mono (h hc.1 B a w hs) ?_)
  rintro e a' w' ⟨x, s', q, hx, hs', he⟩
  cases e with
  | normal =>
    cases x with
    | normal =>
      refine wpIn_mono (q hc.2 B a' w' hs') ?_
      rintro e a'' w'' ⟨x, s'', q', hx', hs'', he'⟩
      exact ⟨x, s'', q', hx', hs'', he.trans he'⟩
    | _ => exact hx.elim
  | _ =>
    cases x with
    | normal => exact hx.elim
    | _ => first | exact ⟨_, s', q, hx, hs', he⟩ | exact hx.elim

theorem VW_cond {c : Operand} {x y : Code} {t : Bool} (hc : s.eval G c = .val (.bool t)) (h1 : t = true → VW P G n r x Q s) (h2 : t = false → VW P G n r y Q s) : VW P G n r (.cond c x y) Q s := by
  intro hk B a w hs
  simp only [cok, Bool.and_eq_true] at hk
  have := hs.eval hk.1.1
  rw [hc] at this
  refine wpIn_cond (t := t) this.val_eq ?_
  cases t with
  | true => exact h1 rfl hk.1.2 B a w hs
  | false => exact h2 rfl hk.2 B a w hs

def AX.inBlock (id : Nat) (Q : AX → AS → Prop) : AX → AS → Prop
  | .exit j, s => if j = id then Q .normal s else Q (.exit j) s
  | x, s => Q x s
theorem VW_block {id : Nat} {c : Code} (h : VW P G n r c (AX.inBlock id Q) s) : VW P G n r (.block id c) Q s := by
  intro hc B a w hs
  refine wpIn_block (wpIn_mono (h hc B a w hs) ?_)
  rintro e a' w' ⟨x, s', q, hx, hs', he⟩
  cases e with
  | exit j =>
    cases x with
    | exit i =>
      obtain rfl : i = j := hx
      simp only [AX.inBlock] at q
      simp only [Exit.inBlock]
      split
      · rw [if_pos ‹_›] at q; exact ⟨.normal, s', q, trivial, hs', he⟩
      · rw [if_neg ‹_›] at q; exact ⟨.exit i, s', q, rfl, hs', he⟩
    | _ => exact hx.elim
  | _ => cases x <;> first | exact hx.elim | exact ⟨_, s', q, hx, hs', he⟩

theorem VW_loop {c : Code} (Inv : AS → Prop) (μ : AS → Nat) (h0 : Inv s) (round : ∀ s, Inv s → VW P G n r c (AX.then (fun s' => Inv s' ∧ μ s' < μ s) Q) s) : VW P G n r (.loop c) Q s := by
  intro hc B a w hs b k cs hro hb hr
  have key : ∀ j s a w, μ s = j → Inv s → Sim G n B s a w →
      ∃ e a' w', PostW G n B s.H w Q e a' w' ∧ ArrivesIn (Machine.fenced P (W r)) P (lone (b.atR a (.code c :: .inLoop c :: k)) cs w) b k cs e a' w' := by
    intro j
    induction j using Nat.strongRecOn with
    | _ j ih =>
      intro s a w hj hi hs
      obtain ⟨e, a₁, w₁, ⟨x, s₁, hq, hx, hs₁, he⟩, harr⟩ := round s hi hc B a w hs b (.inLoop c :: k) cs hro hb hr
      cases e with
      | normal =>
        cases x with
        | normal =>
          obtain ⟨hI₁, hlt⟩ := hq
          obtain ⟨e₂, a₂, w₂, ⟨x₂, s₂, hq₂, hx₂, hs₂, he₂⟩, harr₂⟩ := ih (μ s₁) (hj ▸ hlt) s₁ a₁ w₁ rfl hI₁ hs₁
          exact ⟨e₂, a₂, w₂, ⟨x₂, s₂, hq₂, hx₂, hs₂, he.trans he₂⟩, .of_steps (StepsIn.trans harr (.one (fenced_calm hb hr rfl) stepR_inLoop)) harr₂⟩
        | _ => exact hx.elim
      | exit id =>
        refine ⟨_, a₁, w₁, ?_, .pass (x := .inLoop c) rfl (fun _ _ => .inl (by simp)) harr⟩
        cases x <;> first | exact hx.elim | exact ⟨_, s₁, hq, hx, hs₁, he⟩
      | goto l =>
        refine ⟨_, a₁, w₁, ?_, .pass (x := .inLoop c) rfl (fun _ _ => .inl (by simp)) harr⟩
        cases x <;> first | exact hx.elim | exact ⟨_, s₁, hq, hx, hs₁, he⟩
      | ret =>
        refine ⟨_, a₁, w₁, ?_, .pass (x := .inLoop c) rfl (fun _ _ => .inl (by simp)) harr⟩
        cases x <;> first | exact hx.elim | exact ⟨_, s₁, hq, hx, hs₁, he⟩
      | panic ch =>
        refine ⟨_, a₁, w₁, ?_, .pass (x := .inLoop c) rfl (fun _ _ => .inl (by simp)) harr⟩
        cases x <;> first | exact hx.elim | exact ⟨_, s₁, hq, hx, hs₁, he⟩
      | outgrown => cases x <;> exact hx.elim
  obtain ⟨e, a', w', hq, harr⟩ := key _ s a w rfl h0 hs
  exact ⟨e, a', w', hq, .of_steps (.one (fenced_calm hb hr rfl) stepR_loop) harr⟩

/-- Another view of the state: any state that stands for no less. -/
theorem VW_view {c : Code} {s' : AS} (hv : ∀ B a w, Sim G n B s a w → Sim G n B s' a w ∧ Evo s.H w s'.H w) (h : VW P G n r c Q s') : VW P G n r c Q s := by
  intro hc B a w hs
  obtain ⟨hs', he⟩ := hv B a w hs
  refine wpIn_mono (h hc B a w hs') ?_
  rintro e a' w' ⟨x, s'', q, hx, hs'', he'⟩
  exact ⟨x, s'', q, hx, hs'', he.trans he'⟩
/-- What the state's standing for something tells. -/
theorem VW_fact {c : Code} {p : Prop} (hp : ∀ B a w, Sim G n B s a w → p) (h : p → VW P G n r c Q s) : VW P G n r c Q s :=
  fun hc B a w hs => h (hp B a w hs) hc B a w hs

theorem Sim.drop {a : Act} {w : World} {H0 : HM} (h : Sim G n B s a w) (h0 : ∀ b, H0 b = none ∨ H0 b = s.H b) : Sim G n B { s with H := H0 } a w ∧ Evo s.H w H0 w := by
  have he : Evo s.H w H0 w := (Evo.refl s.H w).drop h0
  exact ⟨⟨h.size, fun t => he.rep (h.tmp t), h.st.drop h0, h.defs.evo he, h.big⟩, he⟩
/-- Objects may be let go at an end. -/
theorem PostW.drop {H0 : HM} {w0 : World} {e : Exit} {a' : Act} {w' : World} (h : PostW G n B H0 w0 Q e a' w') (hq : ∀ x s, Q x s → ∃ H1, (∀ b, H1 b = none ∨ H1 b = s.H b) ∧ Q' x { s with H := H1 }) : PostW G n B H0 w0 Q' e a' w' := by
  obtain ⟨x, s', q, hx, hs, he⟩ := h
  obtain ⟨H1, h1, q'⟩ := hq x s' q
  obtain ⟨hs1, he1⟩ := hs.drop h1
  refine ⟨x, _, q', ?_, hs1, he.trans he1⟩
  cases x <;> cases e <;> first | exact hx | exact (let ⟨v, e1, e2⟩ := hx; ⟨v, e1, he1.rep e2⟩)
theorem VW.drop {c : Code} (h : VW P G n r c Q s) (hq : ∀ x s, Q x s → ∃ H1, (∀ b, H1 b = none ∨ H1 b = s.H b) ∧ Q' x { s with H := H1 }) : VW P G n r c Q' s :=
  fun hc B a w hs => wpIn_mono (h hc B a w hs) fun _ _ _ p => p.drop hq

/-! ### Operations -/
/-- One operation, its operands by value. -/
def VX (P : Program) (G : GT) (ρ : Operand → AV) (H : HM) (o : Oper) (K : ARes → HM → Prop) : Prop :=
  ∀ ρc w, (∀ x ∈ o.op.operands, Rep (Imm H w) w (ρ x) (ρc x)) → St G H w →
    NUpon P (Out G H w fun a => K (.ret a)) (Out G H w fun a => K (.pan a)) ((execOp ρc o).run P w)

theorem VX.mono {ρ : Operand → AV} {H : HM} {o : Oper} {K K' : ARes → HM → Prop} (h : VX P G ρ H o K) (hk : ∀ r H', K r H' → K' r H') : VX P G ρ H o K' :=
  fun ρc w h1 h2 => (h ρc w h1 h2).mono (fun _ _ o => o.mono fun _ _ => hk _ _) (fun _ _ o => o.mono fun _ _ => hk _ _)
theorem VX.congr {ρ ρ' : Operand → AV} {H : HM} {o : Oper} {K : ARes → HM → Prop} (h : VX P G ρ H o K) (he : ∀ x ∈ o.op.operands, ρ' x = ρ x) : VX P G ρ' H o K :=
  fun ρc w h1 h2 => h ρc w (fun x hx => he x hx ▸ h1 x hx) h2

/-- Does the operation run? (its guard) -/
def yieldA (ops : Array Oper) (f : Nat → AV) (j : Nat) : Option Bool :=
  match (ops[j]?).bind (·.dst) with
  | some d => match f d with
    | .val (.bool b) => some b
    | _ => none
  | none => none
def wantA (ops : Array Oper) (o : Oper) (f : Nat → AV) : Bool :=
  match o.guard with
  | none => true
  | some (j, want) => yieldA ops f j == some want

/-- One operation of a region. -/
def VOp (P : Program) (G : GT) (ops : Array Oper) (Q : AX → AS → Prop) (o : Oper) (K : AS → Prop) (s : AS) : Prop :=
  if wantA ops o s.tmps then VX P G (s.eval G) s.H o (fun
    | .ret v, H' => K (s.put o.dst v H')
    | .pan v, H' => Q (.pan v) { s with H := H' })
  else K (s.put o.dst .unit s.H)
def VOps (P : Program) (G : GT) (ops : Array Oper) (Q : AX → AS → Prop) : List Oper → AS → Prop
  | [], s => Q .normal s
  | o :: rest, s => VOp P G ops Q o (VOps P G ops Q rest) s

theorem VOp.mono {ops : Array Oper} {o : Oper} {K K' : AS → Prop} (h : VOp P G ops Q o K s) (hk : ∀ s, K s → K' s) : VOp P G ops Q o K' s := by
  unfold VOp at *
  split
  · rw [if_pos ‹_›] at h
    exact h.mono fun x H' hx => by cases x <;> first | exact hk _ hx | exact hx
  · rw [if_neg ‹_›] at h; exact hk _ h

theorem rep_bool {I : Nat → Prop} {w : World} {a : AV} {b : Bool} (h : Rep I w a (.bool b)) : a = .val (.bool b) := by cases h; rfl

theorem yieldA_eq {ops : Array Oper} {a : Act} {w : World} (hs : Sim G n B s a w) (j : Nat) : yielded ops a.tmps j = yieldA ops s.tmps j := by
  unfold yielded yieldA
  cases hd : (ops[j]?).bind (·.dst) with
  | none => rfl
  | some d =>
    have ht := hs.tmp d
    simp only [Option.bind_some]
    rw [Array.getD_eq_getD_getElem?] at ht
    cases hv : a.tmps[d]? with
    | none =>
      rw [hv] at ht
      simp only [Option.getD_none] at ht
      cases hf : s.tmps d with
      | val v => rw [hf] at ht; have := ht.val_eq; subst this; rfl
      | _ => rfl
    | some v =>
      rw [hv] at ht
      simp only [Option.getD_some] at ht
      cases v with
      | bool b => have := rep_bool ht; simp [this]
      | _ =>
        cases hf : s.tmps d with
        | val u => rw [hf] at ht; have := ht.val_eq; subst this; rfl
        | _ => rfl

theorem wantA_eq {ops : Array Oper} {a : Act} {w : World} (hs : Sim G n B s a w) (o : Oper) : Region.wanted o (yielded ops a.tmps) = wantA ops o s.tmps := by
  unfold Region.wanted wantA
  cases o.guard with
  | none => rfl
  | some g => obtain ⟨j, want⟩ := g; simp only [yieldA_eq hs]

theorem callsIn_W {f : FuncId} {args : Array Value} {w : World} {R : Ending → World → Prop} : CallsIn wide 0 P f args w R ↔ CallsIn (W r) 0 P f args w R := Iff.rfl
theorem roundIn_W {l : Nat} {f : FuncId} {tmps : Array Value} {x y : Code} {w : World} {R : Ending → World → Prop} : RoundIn wide 0 P l f tmps x y w R ↔ RoundIn (W r) 0 P l f tmps x y w R := Iff.rfl

theorem NUpon.uponIn {K Kp : Value → World → Prop} {o : Oper} {a : Act} {next : Act → World → Prop} {QC : Exit → Act → World → Prop} {res : Result Next} (h : NUpon P K Kp res)
    (hk : ∀ v w, K v w → next (a.put o.dst v) w) (hp : ∀ v w, Kp v w → QC (.panic [{ v, recovered := false }]) a w) : o.uponIn (W r) 0 P a next QC res := by
  cases res with
  | halt x w' => cases x <;> simp only [NUpon, Oper.uponIn] at h ⊢ <;> exact hp _ _ h
  | ok x w' =>
    cases x <;> simp only [NUpon, Oper.uponIn] at h ⊢
    case value => exact hk _ _ h
    case skip => exact hk _ _ h
    case enter =>
      refine ⟨fun h => by simp [W, wide, Fence.wide] at h, CallsIn.mono (callsIn_W.1 h) fun e w'' he => ?_⟩
      cases e with
      | returned v => exact hk _ _ he
      | panicked c => obtain ⟨v, rfl, e2⟩ := he; exact hp _ _ e2
      | outgrown => exact he.elim
    case round =>
      refine ⟨fun h => by simp [W, wide, Fence.wide] at h, RoundIn.mono (roundIn_W.1 h) fun e w'' he => ?_⟩
      cases e with
      | returned v => exact hk _ _ he
      | panicked c => obtain ⟨v, rfl, e2⟩ := he; exact hp _ _ e2
      | outgrown => exact he.elim

theorem NUpon.notDefer {K Kp : Value → World → Prop} {ρc : Operand → Value} {o : Oper} {w : World} (h : NUpon P K Kp ((execOp ρc o).run P w)) : ∀ c, o.op ≠ .defer c := by
  intro c e
  simp only [execOp, e, Sem.run_bind] at h
  cases hr : (resolve ρc c o.type).run P w with
  | halt x w' =>
    have : ∀ v, x ≠ .panic v := by
      intro v hx; subst hx
      cases hc : c.callee <;> simp [resolve, hc, Deferred.ofValue] at hr
      split at hr <;> simp at hr
    rw [hr] at h
    cases x <;> simp [Result.andThen, NUpon] at h
    exact this _ rfl
  | ok d w' => rw [hr] at h; simp [Result.andThen, NUpon] at h

/-- An operation in a state: what the calculus below asks. -/
theorem VX.wpIn {o : Oper} {K : ARes → HM → Prop} {a : Act} {w : World} {next : Act → World → Prop} {QC : Exit → Act → World → Prop} (h : VX P G (s.eval G) s.H o K) (hs : Sim G n B s a w)
    (ho : operOk n o = true)
    (hk : ∀ v H' av w', K (.ret av) H' → Sim G n B (s.put o.dst av H') (a.put o.dst v) w' → Evo s.H w H' w' → next (a.put o.dst v) w')
    (hp : ∀ v H' av w', K (.pan av) H' → Rep (Imm H' w') w' av v → Sim G n B { s with H := H' } a w' → Evo s.H w H' w' → QC (.panic [{ v, recovered := false }]) a w') :
    o.wpIn (W r) 0 P a w next QC := by
  simp only [operOk, Bool.and_eq_true] at ho
  have h1 := h a.eval w (fun x hx => hs.eval (by have := Array.all_eq_true_iff_forall_mem.1 ho.2 x hx; exact this)) hs.st
  refine ⟨fun _ _ => trivial, ?_⟩
  rw [Oper.semAt_eq _ _ _ h1.notDefer]
  refine h1.uponIn (fun v w' hv => ?_) (fun v w' hv => ?_)
  · obtain ⟨av, H', hk', hr, hst, he⟩ := hv
    refine hk v H' av w' hk' (hs.put he hst hr fun i hi => ?_) he
    simpa [dstOk, hi] using ho.1
  · obtain ⟨av, H', hk', hr, hst, he⟩ := hv
    exact hp v H' av w' hk' hr ⟨hs.size, fun t => he.rep (hs.tmp t), hst, hs.defs.evo he, Nat.le_trans hs.big he.size⟩ he

theorem VOp.wpIn {ops : Array Oper} {o : Oper} {K : AS → Prop} {a : Act} {w w0 : World} {H0 : HM} {i : Nat} {next : Act → World → Prop} (h : VOp P G ops Q o K s) (hi : ops[i]? = some o) (hs : Sim G n B s a w)
    (he : Evo H0 w0 s.H w) (ho : operOk n o = true) (hk : ∀ s' a' w', K s' → Sim G n B s' a' w' → Evo H0 w0 s'.H w' → next a' w') : wpOpIn (W r) 0 P ops (PostW G n B H0 w0 Q) i next a w := by
  unfold wpOpIn
  rw [hi]
  simp only [wantA_eq hs]
  unfold VOp at h
  split
  · rw [if_pos ‹_›] at h
    exact h.wpIn hs ho (fun v H' av w' k hs' he' => hk _ _ _ k hs' (he.trans he')) (fun v H' av w' k hr hs' he' => ⟨.pan av, _, k, ⟨v, rfl, hr⟩, hs', he.trans he'⟩)
  · rw [if_neg ‹_›] at h
    refine ⟨fun _ _ => trivial, hk _ _ _ h (hs.put (Evo.refl _ _) hs.st (rep_undef _ _) fun i hi => ?_) he⟩
    simp only [operOk, Bool.and_eq_true] at ho
    simpa [dstOk, hi] using ho.1

theorem VOps.wpIn {ops : Array Oper} {H0 : HM} {w0 : World} (ho : ∀ o ∈ ops, operOk n o = true) : ∀ (l : List Oper) (k : Nat) (s : AS) (a : Act) (w : World), (∀ j, l[j]? = ops[k + j]?) →
    VOps P G ops Q l s → Sim G n B s a w → Evo H0 w0 s.H w → wpOpsIn (W r) 0 P ops (PostW G n B H0 w0 Q) (List.range' k l.length) a w
  | [], k, s, a, w, hl, h, hs, he => ⟨.normal, s, h, trivial, hs, he⟩
  | o :: rest, k, s, a, w, hl, h, hs, he => by
    have h0 : ops[k]? = some o := by have := hl 0; simpa using this.symm
    rw [List.length_cons, List.range'_succ, wpOpsIn_cons]
    refine VOp.wpIn h h0 hs he (ho o (Array.mem_of_getElem? h0)) fun s' a' w' k' hs' he' => ?_
    exact VOps.wpIn ho rest (k + 1) s' a' w' (fun j => by have := hl (j + 1); simp at this; rw [this]; congr 1; omega) k' hs' he'

theorem VW_region {id : Nat} {ops : Array Oper} (h : VOps P G ops Q ops.toList s) : VW P G n r (.region id ops false) Q s := by
  intro hc B a w hs
  refine wpIn_region ?_
  have := VOps.wpIn (r := r) (H0 := s.H) (w0 := w) (Array.all_eq_true_iff_forall_mem.1 hc) ops.toList 0 s a w (fun j => by simp) h hs (Evo.refl _ _)
  simpa [List.range_eq_range'] using this

/-! ### Regions whose order is drawn -/
def VAny (P : Program) (G : GT) (ops : Array Oper) (Q : AX → AS → Prop) : Nat → Array Bool → AS → Prop
  | 0, listed, s => Region.ready .any ops listed = [] ∧ Q .normal s
  | fuel + 1, listed, s => (Region.ready .any ops listed = [] → Q .normal s) ∧
    ∀ i ∈ Region.ready .any ops listed, ∀ o, ops[i]? = some o → VOp P G ops Q o (VAny P G ops Q fuel (listed.setIfInBounds i true)) s

theorem VAny.wpIn {ops : Array Oper} {H0 : HM} {w0 : World} (ho : ∀ o ∈ ops, operOk n o = true) : ∀ (fuel : Nat) (listed : Array Bool) (s : AS) (a : Act) (w : World),
    VAny P G ops Q fuel listed s → Sim G n B s a w → Evo H0 w0 s.H w → wpAnyIn (W r) 0 P .any ops (PostW G n B H0 w0 Q) fuel listed a w
  | 0, listed, s, a, w, h, hs, he => ⟨h.1, .normal, s, h.2, trivial, hs, he⟩
  | fuel + 1, listed, s, a, w, h, hs, he => by
    refine ⟨fun hr => ⟨.normal, s, h.1 hr, trivial, hs, he⟩, fun i hi => ?_⟩
    have hlt : i < ops.size := by
      have := List.mem_filter.1 hi
      simpa using this.1
    have h0 : ops[i]? = some ops[i] := by simp [hlt]
    exact VOp.wpIn (h.2 i hi _ h0) h0 hs he (ho _ (Array.getElem_mem hlt)) fun s' a' w' k' hs' he' => VAny.wpIn ho fuel _ s' a' w' k' hs' he'

theorem VW_region_any {id : Nat} {ops : Array Oper} (hm : P.follows .mixedOrders = true) (h : VAny P G ops Q ops.size (Array.replicate ops.size false) s) : VW P G n r (.region id ops true) Q s := by
  intro hc B a w hs
  refine wpIn_region_any hm ?_
  have hd : Sim G n B s a { w with drawn := w.drawn + 1 } := ⟨hs.size, fun t => (hs.tmp t).keep (fun _ h => h) (fun _ _ => rfl),
    ⟨fun b o e => (hs.st.obj b o e).keep (fun _ h => h) (fun _ _ => rfl) rfl, fun g cs e => (hs.st.glob g cs e).map (fun h _ => h) (fun _ _ => rfl) fun hr => hr.keep (fun _ h => h) fun _ _ => rfl⟩, RepDs.evo (H := s.H) (w := w) (H' := s.H) (w' := { w with drawn := w.drawn + 1 }) ⟨rfl, rfl, rfl, Nat.le_refl _, fun b h => ⟨h.2, rfl⟩⟩ hs.defs, hs.big⟩
  exact VAny.wpIn (Array.all_eq_true_iff_forall_mem.1 hc) _ _ s a _ h hd ⟨rfl, rfl, rfl, Nat.le_refl _, fun b h => ⟨h.2, rfl⟩⟩

/-- The operation yields v and touches nothing. -/
def VQuiet (P : Program) (G : GT) (ρ : Operand → AV) (H : HM) (o : Oper) (v : AV) : Prop := ∀ K : ARes → HM → Prop, K (.ret v) H → VX P G ρ H o K
/-- Quiet operations in the order of the text. -/
def VQ (P : Program) (G : GT) (ops : Array Oper) : List Oper → AS → (AS → Prop) → Prop
  | [], s, K => K s
  | o :: rest, s, K => if wantA ops o s.tmps then ∃ v, VQuiet P G (s.eval G) s.H o v ∧ VQ P G ops rest (s.put o.dst v s.H) K else VQ P G ops rest (s.put o.dst .unit s.H) K

/-- Does operation i wait for operation j? -/
def waits (ops : Array Oper) : Nat → Nat → Nat → Bool
  | 0, _, _ => false
  | f + 1, i, j => match ops[i]? with
    | some o => o.after.any fun e => Region.binds .any e && (e.on == j || waits ops f e.on j)
    | none => false
def headOk (ops : Array Oper) (k : Nat) : Bool :=
  decide (k ≤ ops.size) &&
  (List.range k).all (fun i => match ops[i]? with
    | some o => o.after.all (fun e => !Region.binds .any e || decide (e.on < i)) &&
      (List.range k).all (fun j => match ops[j]? with
        | some p => match p.dst with
          | some d => (!(o.looksAt ops).contains d || (decide (j < i) && waits ops ops.size i j)) && (i == j || o.dst != some d)
          | none => true
        | none => true)
    | none => false) &&
  (List.range ops.size).all (fun i => decide (i < k) || (List.range k).all (fun j => waits ops ops.size i j))
def firstK (m k : Nat) : Array Bool := (Array.range m).map fun i => decide (i < k)

theorem VAny.succ {ops : Array Oper} : ∀ (f : Nat) (listed : Array Bool) (s : AS), VAny P G ops Q f listed s → VAny P G ops Q (f + 1) listed s
  | 0, listed, s, h => ⟨fun _ => h.2, fun i hi => by rw [h.1] at hi; cases hi⟩
  | f + 1, listed, s, h => ⟨h.1, fun i hi o ho => (h.2 i hi o ho).mono fun s' => VAny.succ f _ s'⟩
theorem VAny.le {ops : Array Oper} {f f' : Nat} {listed : Array Bool} {s : AS} (h : VAny P G ops Q f listed s) (hf : f ≤ f') : VAny P G ops Q f' listed s := by
  induction hf with
  | refl => exact h
  | step _ ih => exact VAny.succ _ _ _ ih

def unl (L : Nat → Bool) : Nat → Nat
  | 0 => 0
  | k + 1 => unl L k + if L k then 0 else 1
theorem unl_congr {L L' : Nat → Bool} : ∀ k, (∀ j, j < k → L' j = L j) → unl L' k = unl L k
  | 0, _ => rfl
  | k + 1, h => by simp only [unl]; rw [unl_congr k fun j hj => h j (by omega), h k (by omega)]
theorem unl_set {L L' : Nat → Bool} {i : Nat} (hi : L i = false) (hi' : L' i = true) (hne : ∀ j, j ≠ i → L' j = L j) : ∀ k, i < k → unl L' k + 1 = unl L k
  | 0, h => by omega
  | k + 1, h => by
    simp only [unl]
    by_cases e : i = k
    · subst e; rw [unl_congr i fun j hj => hne j (by omega), hi, hi']; simp
    · have := unl_set hi hi' hne k (by omega); rw [hne k (Ne.symm e)]; omega
theorem unl_zero {L : Nat → Bool} : ∀ k, unl L k = 0 → ∀ i, i < k → L i = true
  | 0, _, i, h => by omega
  | k + 1, h, i, hi => by
    simp only [unl] at h
    by_cases e : i = k
    · subst e; cases hL : L i <;> simp_all
    · exact unl_zero k (by omega) i (by omega)
theorem unl_pos {L : Nat → Bool} : ∀ k, unl L k ≠ 0 → ∃ i, i < k ∧ L i = false ∧ ∀ j, j < i → L j = true
  | 0, h => absurd rfl h
  | k + 1, h => by
    by_cases h0 : unl L k = 0
    · refine ⟨k, by omega, ?_, unl_zero k h0⟩
      simp only [unl, h0] at h
      cases hL : L k <;> simp_all
    · obtain ⟨i, h1, h2, h3⟩ := unl_pos k h0
      exact ⟨i, by omega, h2, h3⟩

def Ord (ops : Array Oper) : List Oper → Prop
  | [] => True
  | o :: rest => (∀ o' ∈ o :: rest, ∀ d, o'.dst = some d → d ∉ o.looksAt ops) ∧ (∀ o' ∈ rest, ∀ d, o.dst = some d → o'.dst ≠ some d) ∧ Ord ops rest
/-- What an operation of the quiet head yields in the state that has all of them. -/
def Yld (P : Program) (G : GT) (ops : Array Oper) (E : AS) (o : Oper) : Prop :=
  (wantA ops o E.tmps = true ∧ ∃ v, VQuiet P G (E.eval G) E.H o v ∧ ∀ d, o.dst = some d → E.tmps d = v) ∨ (wantA ops o E.tmps = false ∧ ∀ d, o.dst = some d → E.tmps d = .unit)

theorem wantA_congr {ops : Array Oper} {o : Oper} {f g : Nat → AV} (h : ∀ t ∈ o.looksAt ops, f t = g t) : wantA ops o f = wantA ops o g := by
  unfold wantA
  cases hg : o.guard with
  | none => rfl
  | some x =>
    obtain ⟨j, want⟩ := x
    have : yieldA ops f j = yieldA ops g j := by
      unfold yieldA
      cases hd : (ops[j]?).bind (·.dst) with
      | none => rfl
      | some d => simp only []; rw [h d (by simp [Oper.looksAt, hg, hd])]
    simp only [this]
theorem VQuiet.congr {ops : Array Oper} {s s' : AS} {H : HM} {o : Oper} {v : AV} (h : VQuiet P G (s.eval G) H o v) (he : ∀ t ∈ o.looksAt ops, s'.tmps t = s.tmps t) : VQuiet P G (s'.eval G) H o v := by
  intro K hk
  refine (h K hk).congr fun x hx => ?_
  cases x with
  | tmp t => exact he t (List.mem_append_left _ (List.mem_filterMap.2 ⟨.tmp t, by simpa using hx, rfl⟩))
  | _ => rfl

theorem put_tmps_ne {s : AS} {d : Option Nat} {v : AV} {H : HM} {t : Nat} (h : d ≠ some t) : (s.put d v H).tmps t = s.tmps t := by
  cases d with
  | none => rfl
  | some i => simp only [AS.put, upd]; rw [if_neg]; intro e; exact h (by rw [e])
theorem put_tmps_same {s : AS} {d : Nat} {v : AV} {H : HM} : (s.put (some d) v H).tmps d = v := by simp [AS.put, upd]

theorem VQ_facts {ops : Array Oper} {K : AS → Prop} : ∀ (l : List Oper) (s : AS), Ord ops l → VQ P G ops l s K →
    ∃ E, K E ∧ E.H = s.H ∧ E.defs = s.defs ∧ (∀ t, (∀ o ∈ l, o.dst ≠ some t) → E.tmps t = s.tmps t) ∧ ∀ o ∈ l, Yld P G ops E o
  | [], s, _, h => ⟨s, h, rfl, rfl, fun _ _ => rfl, fun _ h => by cases h⟩
  | o :: rest, s, ho, h => by
    obtain ⟨h1, h2, h3⟩ := ho
    have look : ∀ {E : AS} {v : AV}, (∀ t, (∀ o ∈ rest, o.dst ≠ some t) → E.tmps t = (s.put o.dst v s.H).tmps t) → ∀ t ∈ o.looksAt ops, E.tmps t = s.tmps t := by
      intro E v hE t ht
      rw [hE t fun o' ho' e => h1 o' (List.mem_cons_of_mem _ ho') t e ht]
      exact put_tmps_ne fun e => h1 o (by simp) t e ht
    have dst : ∀ {E : AS} {v : AV}, (∀ t, (∀ o ∈ rest, o.dst ≠ some t) → E.tmps t = (s.put o.dst v s.H).tmps t) → ∀ d, o.dst = some d → E.tmps d = v := by
      intro E v hE d hd
      rw [hE d fun o' ho' => h2 o' ho' d hd, hd, put_tmps_same]
    unfold VQ at h
    split at h
    · rename_i hw
      obtain ⟨v, hv, h⟩ := h
      obtain ⟨E, k1, k2, k3, k4, k5⟩ := VQ_facts rest _ h3 h
      refine ⟨E, k1, k2, k3, fun t ht => ?_, fun o' ho' => ?_⟩
      · rw [k4 t fun o' ho' => ht o' (by simp [ho'])]; exact put_tmps_ne (ht o (by simp))
      · rcases List.mem_cons.1 ho' with rfl | ho'
        · refine .inl ⟨by rw [wantA_congr (look k4)]; exact hw, v, ?_, dst k4⟩
          rw [show E.H = s.H from k2]; exact hv.congr (look k4)
        · exact k5 o' ho'
    · rename_i hw
      obtain ⟨E, k1, k2, k3, k4, k5⟩ := VQ_facts rest _ h3 h
      refine ⟨E, k1, k2, k3, fun t ht => ?_, fun o' ho' => ?_⟩
      · rw [k4 t fun o' ho' => ht o' (by simp [ho'])]; exact put_tmps_ne (ht o (by simp))
      · rcases List.mem_cons.1 ho' with rfl | ho'
        · exact .inr ⟨by rw [wantA_congr (look k4)]; simpa using hw, dst k4⟩
        · exact k5 o' ho'

structure HeadFacts (ops : Array Oper) (k : Nat) : Prop where
  le : k ≤ ops.size
  edge : ∀ i, i < k → ∀ o, ops[i]? = some o → ∀ e ∈ o.after, Region.binds .any e = true → e.on < i
  look : ∀ i j, i < k → j < k → ∀ o p d, ops[i]? = some o → ops[j]? = some p → p.dst = some d → d ∈ o.looksAt ops → j < i ∧ waits ops ops.size i j = true
  uniq : ∀ i j, i < k → j < k → ∀ o p d, ops[i]? = some o → ops[j]? = some p → p.dst = some d → o.dst = some d → i = j
  tail : ∀ i, k ≤ i → i < ops.size → ∀ j, j < k → waits ops ops.size i j = true
theorem headFacts {ops : Array Oper} {k : Nat} (h : headOk ops k = true) : HeadFacts ops k := by
  simp only [headOk, Bool.and_eq_true, List.all_eq_true, List.mem_range, decide_eq_true_eq] at h
  obtain ⟨⟨h1, h2⟩, h3⟩ := h
  have both : ∀ i j, i < k → j < k → ∀ o p d, ops[i]? = some o → ops[j]? = some p → p.dst = some d →
      ((o.looksAt ops).contains d = false ∨ (j < i ∧ waits ops ops.size i j = true)) ∧ (i = j ∨ o.dst ≠ some d) := by
    intro i j hi hj o p d ho hp hd
    have := h2 i hi
    simp only [ho, Bool.and_eq_true, List.all_eq_true, List.mem_range] at this
    have := this.2 j hj
    simp only [hp, hd, Bool.and_eq_true, Bool.or_eq_true, Bool.not_eq_true', decide_eq_true_eq, beq_iff_eq, bne_iff_ne] at this
    exact this
  refine ⟨h1, ?_, ?_, ?_, ?_⟩
  · intro i hi o ho e he hb
    have := h2 i hi
    simp only [ho, Bool.and_eq_true] at this
    have := Array.all_eq_true_iff_forall_mem.1 this.1 e he
    simpa [hb] using this
  · intro i j hi hj o p d ho hp hd hl
    rcases (both i j hi hj o p d ho hp hd).1 with h | h
    · exact absurd (List.contains_iff_mem.2 hl) (by rw [h]; simp)
    · exact h
  · intro i j hi hj o p d ho hp hd hd'
    exact (both i j hi hj o p d ho hp hd).2.resolve_right fun h => h hd'
  · intro i hi hlt j hj
    have := h3 i hlt
    simp only [Bool.or_eq_true, decide_eq_true_eq, List.all_eq_true, List.mem_range] at this
    exact this.resolve_left (by omega) j hj

/-- What has waited for has been listed. -/
theorem waits_listed {ops : Array Oper} {listed : Array Bool} (hcl : ∀ i o, ops[i]? = some o → listed.getD i false = true → ∀ e ∈ o.after, Region.binds .any e = true → listed.getD e.on false = true) :
    ∀ (f i j : Nat), waits ops f i j = true → (∀ o, ops[i]? = some o → ∀ e ∈ o.after, Region.binds .any e = true → listed.getD e.on false = true) → listed.getD j false = true
  | 0, _, _, h, _ => by simp [waits] at h
  | f + 1, i, j, h, hi => by
    unfold waits at h
    cases ho : ops[i]? with
    | none => simp [ho] at h
    | some o =>
      simp only [ho, Array.any_eq_true'] at h
      obtain ⟨e, he, h⟩ := h
      simp only [Bool.and_eq_true, Bool.or_eq_true, beq_iff_eq] at h
      rcases h.2 with e1 | e1
      · exact e1 ▸ hi o ho e he h.1
      · exact waits_listed hcl f e.on j e1 fun o' ho' e' he' hb' => hcl e.on o' ho' (hi o ho e he h.1) e' he' hb'

theorem ord_take {ops : Array Oper} {k : Nat} (hf : HeadFacts ops k) : ∀ (m i : Nat), i + m = k → Ord ops ((ops.toList.take k).drop i)
  | 0, i, h => by
    rw [List.drop_eq_nil_of_le (by simp; omega)]; trivial
  | m + 1, i, h => by
    have hk := hf.le
    have hlt : i < ops.size := by omega
    have hd : (ops.toList.take k).drop i = ops[i] :: (ops.toList.take k).drop (i + 1) := by
      rw [List.drop_eq_getElem_cons (by simp; omega)]
      simp
    have mem : ∀ (i : Nat) (o : Oper), o ∈ (ops.toList.take k).drop i → ∃ j, i ≤ j ∧ j < k ∧ ops[j]? = some o := by
      intro i o ho
      obtain ⟨j, hj⟩ := List.mem_iff_getElem?.1 ho
      rw [List.getElem?_drop, List.getElem?_take] at hj
      split at hj
      · exact ⟨i + j, by omega, by assumption, by simpa using hj⟩
      · cases hj
    have hi0 : ops[i]? = some ops[i] := by simp [hlt]
    rw [hd]
    refine ⟨fun o' ho' d hd' hl => ?_, fun o' ho' d hd' hd'' => ?_, ord_take hf m (i + 1) (by omega)⟩
    · have : ∃ j, i ≤ j ∧ j < k ∧ ops[j]? = some o' := mem i o' (by rw [hd]; exact ho')
      obtain ⟨j, h1, h2, h3⟩ := this
      have := (hf.look i j (by omega) h2 _ _ _ hi0 h3 hd' hl).1
      omega
    · obtain ⟨j, h1, h2, h3⟩ := mem (i + 1) o' ho'
      have := hf.uniq i j (by omega) h2 _ _ _ hi0 h3 hd'' hd'
      omega

/-- **A quiet head may be taken in the order of the text.** -/
theorem VAny_head {ops : Array Oper} (k : Nat) (hk : headOk ops k = true)
    (h : VQ P G ops (ops.toList.take k) s (fun s1 => VAny P G ops Q (ops.size - k) (firstK ops.size k) s1)) : VAny P G ops Q ops.size (Array.replicate ops.size false) s := by
  have hf := headFacts hk
  have ho := ord_take hf k 0 (by omega)
  rw [List.drop_zero] at ho
  obtain ⟨E, e1, e2, e3, e4, e5⟩ := VQ_facts _ s ho h
  have yld : ∀ i o, i < k → ops[i]? = some o → Yld P G ops E o := by
    intro i o hi hio
    refine e5 o (List.mem_iff_getElem?.2 ⟨i, ?_⟩)
    rw [List.getElem?_take, if_pos hi]; simpa using hio
  have other : ∀ t, (∀ j o, j < k → ops[j]? = some o → o.dst ≠ some t) → E.tmps t = s.tmps t := by
    intro t ht
    refine e4 t fun o hm => ?_
    obtain ⟨j, hj⟩ := List.mem_iff_getElem?.1 hm
    rw [List.getElem?_take] at hj
    split at hj
    · exact ht j o (by assumption) (by simpa using hj)
    · cases hj
  have key : ∀ (f : Nat) (listed : Array Bool) (sL : AS), listed.size = ops.size → unl (fun i => listed.getD i false) k + (ops.size - k) ≤ f →
      (∀ i, k ≤ i → listed.getD i false = false) →
      (∀ i o, ops[i]? = some o → listed.getD i false = true → ∀ e ∈ o.after, Region.binds .any e = true → listed.getD e.on false = true) →
      sL.H = s.H → sL.defs = s.defs →
      (∀ t, (∃ j o, j < k ∧ listed.getD j false = true ∧ ops[j]? = some o ∧ o.dst = some t) → sL.tmps t = E.tmps t) →
      (∀ t, (∀ j o, j < k → listed.getD j false = true → ops[j]? = some o → o.dst ≠ some t) → sL.tmps t = s.tmps t) →
      VAny P G ops Q f listed sL := by
    intro f
    induction f with
    | zero =>
      intro listed sL hsz hu hlt hcl hH hD ht1 ht2
      have hu0 : unl (fun i => listed.getD i false) k = 0 := by omega
      have hks : ops.size - k = 0 := by omega
      have hall := unl_zero k hu0
      have hL : listed = firstK ops.size k := by
        refine Array.ext (by simp [firstK, hsz]) fun i h1 h2 => ?_
        have hik : i < k := by have := hf.le; omega
        have := hall i hik
        simp only [Array.getD_eq_getD_getElem?, Array.getElem?_eq_getElem h1, Option.getD_some] at this
        simp [firstK, this, hik]
      have hE : sL = E := by
        obtain ⟨t1, H1, d1⟩ := sL
        obtain ⟨t2, H2, d2⟩ := E
        simp only at hH hD e2 e3 ht1 ht2 other
        subst hH hD e2 e3
        congr 1
        funext t
        by_cases hx : ∃ j o, j < k ∧ ops[j]? = some o ∧ o.dst = some t
        · obtain ⟨j, o, h1, h2, h3⟩ := hx
          exact ht1 t ⟨j, o, h1, hall j h1, h2, h3⟩
        · rw [ht2 t fun j o h1 _ h2 h3 => hx ⟨j, o, h1, h2, h3⟩, other t fun j o h1 h2 h3 => hx ⟨j, o, h1, h2, h3⟩]
      rw [hL, hE]
      exact hks ▸ e1
    | succ f ih =>
      intro listed sL hsz hu hlt hcl hH hD ht1 ht2
      by_cases hu0 : unl (fun i => listed.getD i false) k = 0
      · have hall := unl_zero k hu0
        have hL : listed = firstK ops.size k := by
          refine Array.ext (by simp [firstK, hsz]) fun i h1 h2 => ?_
          by_cases hik : i < k
          · have := hall i hik
            simp only [Array.getD_eq_getD_getElem?, Array.getElem?_eq_getElem h1, Option.getD_some] at this
            simp [firstK, this, hik]
          · have := hlt i (by omega)
            simp only [Array.getD_eq_getD_getElem?, Array.getElem?_eq_getElem h1, Option.getD_some] at this
            simp [firstK, this, hik]
        have hE : sL = E := by
          obtain ⟨t1, H1, d1⟩ := sL
          obtain ⟨t2, H2, d2⟩ := E
          simp only at hH hD e2 e3 ht1 ht2 other
          subst hH hD e2 e3
          congr 1
          funext t
          by_cases hx : ∃ j o, j < k ∧ ops[j]? = some o ∧ o.dst = some t
          · obtain ⟨j, o, h1, h2, h3⟩ := hx
            exact ht1 t ⟨j, o, h1, hall j h1, h2, h3⟩
          · rw [ht2 t fun j o h1 _ h2 h3 => hx ⟨j, o, h1, h2, h3⟩, other t fun j o h1 h2 h3 => hx ⟨j, o, h1, h2, h3⟩]
        rw [hL, hE]
        exact e1.le (by omega)
      · obtain ⟨i0, hi0, hl0, hb0⟩ := unl_pos k hu0
        have hi0s : i0 < ops.size := Nat.lt_of_lt_of_le hi0 hf.le
        have rdy0 : i0 ∈ Region.ready .any ops listed := by
          rw [mem_ready]
          refine ⟨?_, ops[i0], by simp [hi0s], fun e he hb => ?_⟩
          · have : i0 < listed.size := by omega
            simpa [Array.getD_eq_getD_getElem?, Array.getElem?_eq_getElem this] using hl0
          · have := hf.edge i0 hi0 ops[i0] (by simp [hi0s]) e he hb
            exact hb0 _ this
        refine ⟨(fun hr => by rw [hr] at rdy0; cases rdy0), fun i hi o hio => ?_⟩
        rw [mem_ready] at hi
        obtain ⟨hil, o', hio', hie⟩ := hi
        obtain rfl : o' = o := by rw [hio] at hio'; exact (Option.some.inj hio').symm
        have his : i < ops.size := (Array.getElem?_eq_some_iff.1 hio).1
        have hil' : listed.getD i false = false := by
          have : i < listed.size := by omega
          simpa [Array.getD_eq_getD_getElem?, Array.getElem?_eq_getElem this] using hil
        have wl : ∀ j, waits ops ops.size i j = true → listed.getD j false = true := fun j hj =>
          waits_listed hcl _ i j hj fun o2 ho2 => by rw [hio] at ho2; cases ho2; exact hie
        have hik : i < k := by
          rcases Nat.lt_or_ge i k with h | h
          · exact h
          · have := wl i0 (hf.tail i h his i0 hi0); simp [hl0] at this
        have agree : ∀ t ∈ o'.looksAt ops, sL.tmps t = E.tmps t := by
          intro t ht
          by_cases hx : ∃ j p, j < k ∧ ops[j]? = some p ∧ p.dst = some t
          · obtain ⟨j, p, h1, h2, h3⟩ := hx
            exact ht1 t ⟨j, p, h1, wl j (hf.look i j hik h1 _ _ _ hio h2 h3 ht).2, h2, h3⟩
          · rw [ht2 t fun j p h1 _ h2 h3 => hx ⟨j, p, h1, h2, h3⟩, other t fun j p h1 h2 h3 => hx ⟨j, p, h1, h2, h3⟩]
        have next : ∀ v, (∀ d, o'.dst = some d → E.tmps d = v) → VAny P G ops Q f (listed.setIfInBounds i true) (sL.put o'.dst v sL.H) := by
          intro v hv
          have hset : ∀ j, j ≠ i → (listed.setIfInBounds i true).getD j false = listed.getD j false := fun j hj => getD_set_ne false (Ne.symm hj)
          have hseti : (listed.setIfInBounds i true).getD i false = true := by
            have : i < listed.size := by omega
            simp [this]
          refine ih _ _ (by simp [hsz]) ?_ ?_ ?_ hH hD ?_ ?_
          · have := unl_set (L := fun i => listed.getD i false) (L' := fun j => (listed.setIfInBounds i true).getD j false) hil' hseti hset k hik
            omega
          · intro j hj
            rw [hset j (by omega)]; exact hlt j hj
          · intro j p hp hj e he hb
            by_cases hji : j = i
            · subst hji
              rw [hio] at hp; cases hp
              exact getD_set_true (hie e he hb)
            · rw [hset j hji] at hj
              exact getD_set_true (hcl j p hp hj e he hb)
          · rintro t ⟨j, p, h1, h2, h3, h4⟩
            by_cases hd : o'.dst = some t
            · rw [hd, put_tmps_same, hv t hd]
            · rw [put_tmps_ne hd]
              have hji : j ≠ i := by rintro rfl; rw [hio] at h3; cases h3; exact hd h4
              rw [hset j hji] at h2
              exact ht1 t ⟨j, p, h1, h2, h3, h4⟩
          · intro t ht
            have hd : o'.dst ≠ some t := ht i o' hik hseti hio
            rw [put_tmps_ne hd]
            refine ht2 t fun j p h1 h2 h3 => ht j p h1 ?_ h3
            exact getD_set_true h2
        unfold VOp
        rw [wantA_congr agree]
        rcases yld i o' hik hio with ⟨hw, v, hv, hd⟩ | ⟨hw, hd⟩
        · rw [if_pos hw]
          have hv' : VQuiet P G (sL.eval G) sL.H o' v := by rw [hH, ← e2]; exact hv.congr agree
          exact hv' _ (next v hd)
        · rw [hw]
          exact next _ hd
  refine key ops.size _ s (by simp) ?_ ?_ ?_ rfl rfl ?_ ?_
  · have hle : ∀ k, unl (fun i => (Array.replicate ops.size false).getD i false) k ≤ k := by
      intro k
      induction k with
      | zero => exact Nat.le_refl _
      | succ k ih => simp only [unl]; split <;> omega
    have := hle k
    have := hf.le
    omega
  · intro i _; simp [Array.getD_eq_getD_getElem?, Array.getElem?_replicate]; split <;> rfl
  · intro i o _ h; simp [Array.getD_eq_getD_getElem?, Array.getElem?_replicate] at h; split at h <;> simp at h
  · rintro t ⟨j, o, _, h, _⟩; simp [Array.getD_eq_getD_getElem?, Array.getElem?_replicate] at h; split at h <;> simp at h
  · intro t _; rfl

/-- The tail is taken in the order of the text. -/
def tailOk (ops : Array Oper) (k : Nat) : Bool :=
  (List.range (ops.size + 1)).all fun m => decide (m < k) || Region.ready .any ops (firstK ops.size m) == (if m < ops.size then [m] else [])
theorem firstK_set {m k : Nat} (h : k < m) : (firstK m k).setIfInBounds k true = firstK m (k + 1) := by
  have e : ∀ c i, (firstK m c)[i]? = if i < m then some (decide (i < c)) else none := by
    intro c i
    simp only [firstK, Array.getElem?_map, Array.getElem?_range]
    split <;> rfl
  refine Array.ext_getElem? fun i => ?_
  rw [Array.getElem?_setIfInBounds, e, e]
  by_cases hk : k = i
  · subst hk; simp [firstK, h]
  · rw [if_neg hk]
    split
    · exact congrArg some (decide_eq_decide.2 (by omega))
    · rfl
theorem VAny_tail {ops : Array Oper} {k : Nat} (hk : tailOk ops k = true) : ∀ (f m : Nat) (s : AS), k ≤ m → m + f = ops.size → VOps P G ops Q (ops.toList.drop m) s → VAny P G ops Q f (firstK ops.size m) s
  | f, m, s, h1, h2, h => by
    have hr : Region.ready .any ops (firstK ops.size m) = (if m < ops.size then [m] else []) := by
      have := List.all_eq_true.1 hk m (List.mem_range.2 (by omega))
      simp only [Bool.or_eq_true, decide_eq_true_eq, beq_iff_eq] at this
      exact this.resolve_left (by omega)
    cases f with
    | zero =>
      rw [if_neg (by omega)] at hr
      rw [List.drop_eq_nil_of_le (by simp; omega)] at h
      exact ⟨hr, h⟩
    | succ f =>
      have hm : m < ops.size := by omega
      rw [if_pos hm] at hr
      refine ⟨(fun e => by rw [hr] at e; cases e), fun i hi o ho => ?_⟩
      rw [hr] at hi
      obtain rfl : i = m := by simpa using hi
      rw [firstK_set hm]
      have ho' : o = ops[i] := by simpa [hm] using ho.symm
      rw [List.drop_eq_getElem_cons (by simpa using hm)] at h
      subst ho'
      exact VOp.mono (show VOp P G ops Q ops[i] (VOps P G ops Q (List.drop (i + 1) ops.toList)) s by simpa [VOps] using h) fun s' hs' => VAny_tail hk f (i + 1) s' (by omega) (by omega) hs'
/-- **A region that draws its order: a quiet head, then the rest in the order of the text.** -/
theorem VW_draw {id : Nat} {ops : Array Oper} (k : Nat) (hm : P.follows .mixedOrders = true) (hk : headOk ops k = true) (ht : tailOk ops k = true)
    (h : VQ P G ops (ops.toList.take k) s (fun s1 => VOps P G ops Q (ops.toList.drop k) s1)) : VW P G n r (.region id ops true) Q s := by
  have hle := (headFacts hk).le
  refine VW_region_any hm (VAny_head k hk ?_)
  have mono : ∀ (l : List Oper) (s : AS) (K K' : AS → Prop), (∀ s, K s → K' s) → VQ P G ops l s K → VQ P G ops l s K' := by
    intro l
    induction l with
    | nil => exact fun s K K' hk h => hk _ h
    | cons o l ih =>
      intro s K K' hk h
      simp only [VQ] at h ⊢
      split
      · rw [if_pos ‹_›] at h; obtain ⟨v, h1, h2⟩ := h; exact ⟨v, h1, ih _ _ _ hk h2⟩
      · rw [if_neg ‹_›] at h; exact ih _ _ _ hk h
  exact mono _ _ _ _ (fun s1 h1 => VAny_tail ht _ k s1 (Nat.le_refl _) (by omega) h1) h
end
end Go.V
