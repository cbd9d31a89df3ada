/- Walking by rewriting: regions that draw their order; control. No condition. -/
import Derived.Test.YtjeiboididfgmaaGreatDoorVg
set_option linter.unusedVariables false
set_option linter.unusedSimpArgs false
set_option linter.defProp false
namespace Go.V
open Go
section
variable {P : Program} {G : GT} {M : List Nat} {ops : Array Oper} {N : AS → Prop} {E : AV → AS → Prop} {n : Nat} {r : Option Nat} {Q : AX → AS → Prop} {s : AS} {tl : List Oper}

def wqs (P : Program) (G : GT) (M : List Nat) (ops : Array Oper) (N : AS → Prop) (E : AV → AS → Prop) (tl l : List Oper) (tm : Nat → AV) (H : HM) (ds : List ADef) : Prop :=
  vqs P G ops l ⟨tm, H, ds⟩ fun s1 => vops P G M ops (onN N E) tl s1
def stQ (P : Program) (G : GT) (M : List Nat) (ops : Array Oper) (N : AS → Prop) (E : AV → AS → Prop) (tl : List Oper) (x : Option AV) (d : Option Nat) (rest : List Oper) (tm : Nat → AV) (H : HM) (ds : List ADef) : Prop :=
  match x with
  | some v => wqs P G M ops N E tl rest (putT d v tm) H ds
  | none => False
def qgd (P : Program) (G : GT) (M : List Nat) (ops : Array Oper) (N : AS → Prop) (E : AV → AS → Prop) (tl : List Oper) (b : Option Bool) (want : Bool) (o : Oper) (rest : List Oper) (tm : Nat → AV) (H : HM) (ds : List ADef) : Prop :=
  if b == some want then wqs P G M ops N E tl (o :: rest) tm H ds else wqs P G M ops N E tl rest (putT o.dst .unit tm) H ds
def qcall (P : Program) (G : GT) (M : List Nat) (ops : Array Oper) (N : AS → Prop) (E : AV → AS → Prop) (tl : List Oper) (f : AV) (as : List AV) (d : Option Nat) (rest : List Oper) (tm : Nat → AV) (H : HM) (ds : List ADef) : Prop :=
  ∃ v, PureV P G f as H v ∧ wqs P G M ops N E tl rest (putT d v tm) H ds

theorem vqs_kont (o : Oper) (rest : List Oper) (tm : Nat → AV) (H : HM) (ds : List ADef) (h : o.guard = none) :
    wqs P G M ops N E tl (o :: rest) tm H ds = vqx P G (ev G tm) H o fun v => wqs P G M ops N E tl rest (putT o.dst v tm) H ds := by
  have : wantA ops o tm = true := by simp [wantA, h]
  simp only [wqs, vqs, this, if_true, eval_ev]
  refine congrArg _ ?_
  funext v
  obtain ⟨d, _, _, _, _, _⟩ := o; cases d <;> rfl
theorem q_nil (tm : Nat → AV) (H : HM) (ds : List ADef) : wqs P G M ops N E tl [] tm H ds = wops P G M ops N E tl tm H ds := rfl
theorem q_guard (d : Option Nat) (op : Op) (ty : Nat) (pos : String) (af : Array Edge) (j : Nat) (want : Bool) (rest : List Oper) (tm : Nat → AV) (H : HM) (ds : List ADef) :
    wqs P G M ops N E tl (⟨d, op, ty, pos, af, some (j, want)⟩ :: rest) tm H ds = qgd P G M ops N E tl (gval tm ops[j]?) want ⟨d, op, ty, pos, af, none⟩ rest tm H ds := by
  have hy : yieldA ops tm j = gval tm ops[j]? := by
    unfold yieldA gval
    cases ops[j]? with
    | none => rfl
    | some o => simp only [Option.bind_some]; cases o.dst <;> rfl
  unfold qgd
  rw [← hy, vqs_kont ⟨d, op, ty, pos, af, none⟩ rest tm H ds rfl]
  simp only [wqs, vqs, wantA]
  by_cases hc : (yieldA ops tm j == some want) = true
  · simp only [hc, if_true]
    rw [eval_ev]
    have e : ∀ K, vqx P G (ev G tm) H ⟨d, op, ty, pos, af, some (j, want)⟩ K = vqx P G (ev G tm) H ⟨d, op, ty, pos, af, none⟩ K := fun K => rfl
    rw [e]
    refine congrArg _ ?_
    funext v
    cases d <;> rfl
  · simp only [hc]
    cases d <;> rfl
theorem qgd_yes (b : Bool) (o : Oper) (rest : List Oper) (tm : Nat → AV) (H : HM) (ds : List ADef) : qgd P G M ops N E tl (some b) b o rest tm H ds = wqs P G M ops N E tl (o :: rest) tm H ds := by
  simp [qgd]
theorem qgd_tf (o : Oper) (rest : List Oper) (tm : Nat → AV) (H : HM) (ds : List ADef) : qgd P G M ops N E tl (some true) false o rest tm H ds = wqs P G M ops N E tl rest (putT o.dst .unit tm) H ds := by
  simp [qgd]
theorem qgd_ft (o : Oper) (rest : List Oper) (tm : Nat → AV) (H : HM) (ds : List ADef) : qgd P G M ops N E tl (some false) true o rest tm H ds = wqs P G M ops N E tl rest (putT o.dst .unit tm) H ds := by
  simp [qgd]
theorem qgd_none (want : Bool) (o : Oper) (rest : List Oper) (tm : Nat → AV) (H : HM) (ds : List ADef) : qgd P G M ops N E tl none want o rest tm H ds = wqs P G M ops N E tl rest (putT o.dst .unit tm) H ds := by
  simp [qgd]
theorem q_move (d : Option Nat) (x : Operand) (ty : Nat) (pos : String) (af : Array Edge) (rest : List Oper) (tm : Nat → AV) (H : HM) (ds : List ADef) :
    wqs P G M ops N E tl (⟨d, .move x, ty, pos, af, none⟩ :: rest) tm H ds = wqs P G M ops N E tl rest (putT d (ev G tm x) tm) H ds := by
  rw [vqs_kont _ _ _ _ _ rfl]; rfl
theorem q_assign (d : Option Nat) (x : Operand) (ty : Nat) (pos : String) (af : Array Edge) (rest : List Oper) (tm : Nat → AV) (H : HM) (ds : List ADef) :
    wqs P G M ops N E tl (⟨d, .assign x, ty, pos, af, none⟩ :: rest) tm H ds = wqs P G M ops N E tl rest (putT d (ev G tm x) tm) H ds := by
  rw [vqs_kont _ _ _ _ _ rfl]; rfl
theorem stQ_some (v : AV) (d : Option Nat) (rest : List Oper) (tm : Nat → AV) (H : HM) (ds : List ADef) : stQ P G M ops N E tl (some v) d rest tm H ds = wqs P G M ops N E tl rest (putT d v tm) H ds := rfl
theorem stQ_none (d : Option Nat) (rest : List Oper) (tm : Nat → AV) (H : HM) (ds : List ADef) : stQ P G M ops N E tl none d rest tm H ds = False := rfl
theorem q_val (o : Oper) (h : o.guard = none) (hv : byVal o.op = true) (rest : List Oper) (tm : Nat → AV) (H : HM) (ds : List ADef) :
    wqs P G M ops N E tl (o :: rest) tm H ds = stQ P G M ops N E tl (vval P (ev G tm) H o) o.dst rest tm H ds := by
  rw [vqs_kont _ _ _ _ _ h]
  obtain ⟨d, op, ty, pos, af, g⟩ := o
  cases op with
  | call c =>
    obtain ⟨ce, as, ats⟩ := c
    cases ce with
    | builtin b => cases b <;> first | (cases hv; done) | (unfold stQ vqx; simp only []; split <;> (rename_i hx; rw [hx]; try rfl))
    | _ => cases hv
  | _ => first | (cases hv; done) | (unfold stQ vqx; simp only []; split <;> (rename_i hx; rw [hx]; try rfl))
theorem q_pick (d : Option Nat) (c a b : Operand) (ty : Nat) (pos : String) (af : Array Edge) (rest : List Oper) (tm : Nat → AV) (H : HM) (ds : List ADef) :
    wqs P G M ops N E tl (⟨d, .pick c a b, ty, pos, af, none⟩ :: rest) tm H ds = stQ P G M ops N E tl (vpick (ev G tm c) (ev G tm a) (ev G tm b)) d rest tm H ds := by
  rw [q_val _ rfl rfl]
  refine congrArg (fun v => stQ P G M ops N E tl v d rest tm H ds) ?_
  unfold vval vpick
  simp only [Array.toList, List.map_cons, List.map_nil]
  generalize ev G tm c = x
  cases x with
  | val v => cases v <;> rfl
  | _ => rfl
theorem q_load (d : Option Nat) (t : Nat) (x : Operand) (ty : Nat) (pos : String) (af : Array Edge) (rest : List Oper) (tm : Nat → AV) (H : HM) (ds : List ADef) :
    wqs P G M ops N E tl (⟨d, .load t x, ty, pos, af, none⟩ :: rest) tm H ds = stQ P G M ops N E tl (vload (tiOf P t) (cellsAt H (ev G tm x))) d rest tm H ds := by
  exact q_val _ rfl rfl _ _ _ _
theorem q_nilCheck (d : Option Nat) (x : Operand) (ty : Nat) (pos : String) (af : Array Edge) (rest : List Oper) (tm : Nat → AV) (H : HM) (ds : List ADef) :
    wqs P G M ops N E tl (⟨d, .nilCheck x, ty, pos, af, none⟩ :: rest) tm H ds = stQ P G M ops N E tl (vnilc (ev G tm x)) d rest tm H ds := by
  exact q_val _ rfl rfl _ _ _ _
theorem q_binOp (d : Option Nat) (op : BinOp) (t : Nat) (x y : Operand) (yt : Nat) (ty : Nat) (pos : String) (af : Array Edge) (rest : List Oper) (tm : Nat → AV) (H : HM) (ds : List ADef) :
    wqs P G M ops N E tl (⟨d, .binOp op t x y yt, ty, pos, af, none⟩ :: rest) tm H ds = stQ P G M ops N E tl (vbin P op t (ev G tm x) (ev G tm y)) d rest tm H ds := by
  exact q_val _ rfl rfl _ _ _ _
theorem q_unOp (d : Option Nat) (op : UnOp) (t : Nat) (x : Operand) (ty : Nat) (pos : String) (af : Array Edge) (rest : List Oper) (tm : Nat → AV) (H : HM) (ds : List ADef) :
    wqs P G M ops N E tl (⟨d, .unOp op t x, ty, pos, af, none⟩ :: rest) tm H ds = stQ P G M ops N E tl (vun op (ev G tm x)) d rest tm H ds := by
  exact q_val _ rfl rfl _ _ _ _
theorem q_convert (d : Option Nat) (a b : Nat) (x : Operand) (ty : Nat) (pos : String) (af : Array Edge) (rest : List Oper) (tm : Nat → AV) (H : HM) (ds : List ADef) :
    wqs P G M ops N E tl (⟨d, .convert a b x, ty, pos, af, none⟩ :: rest) tm H ds = stQ P G M ops N E tl (vconv (tdAt P a) (tdAt P b) (ev G tm x)) d rest tm H ds := by
  exact q_val _ rfl rfl _ _ _ _
theorem q_fieldAddr (d : Option Nat) (t : Nat) (x : Operand) (i : Nat) (ty : Nat) (pos : String) (af : Array Edge) (rest : List Oper) (tm : Nat → AV) (H : HM) (ds : List ADef) :
    wqs P G M ops N E tl (⟨d, .fieldAddr t x i, ty, pos, af, none⟩ :: rest) tm H ds = stQ P G M ops N E tl (vfad ((tiOf P t).bind (fieldOf · i)) (ev G tm x)) d rest tm H ds := by
  exact q_val _ rfl rfl _ _ _ _
theorem q_field (d : Option Nat) (t : Nat) (x : Operand) (i : Nat) (ty : Nat) (pos : String) (af : Array Edge) (rest : List Oper) (tm : Nat → AV) (H : HM) (ds : List ADef) :
    wqs P G M ops N E tl (⟨d, .field t x i, ty, pos, af, none⟩ :: rest) tm H ds = stQ P G M ops N E tl (vfld ((tiOf P t).bind (fieldOf · i)) (ev G tm x)) d rest tm H ds := by
  exact q_val _ rfl rfl _ _ _ _
theorem q_indexAddr (d : Option Nat) (t : Nat) (x i : Operand) (ty : Nat) (pos : String) (af : Array Edge) (rest : List Oper) (tm : Nat → AV) (H : HM) (ds : List ADef) :
    wqs P G M ops N E tl (⟨d, .indexAddr t x i, ty, pos, af, none⟩ :: rest) tm H ds = stQ P G M ops N E tl (vixa (tdAt P t) (ev G tm x) (ev G tm i)) d rest tm H ds := by
  exact q_val _ rfl rfl _ _ _ _
theorem q_index (d : Option Nat) (t : Nat) (x i : Operand) (ty : Nat) (pos : String) (af : Array Edge) (rest : List Oper) (tm : Nat → AV) (H : HM) (ds : List ADef) :
    wqs P G M ops N E tl (⟨d, .index t x i, ty, pos, af, none⟩ :: rest) tm H ds = stQ P G M ops N E tl (vix (tdAt P t) (ev G tm x) (ev G tm i)) d rest tm H ds := by
  exact q_val _ rfl rfl _ _ _ _
theorem q_slice (d : Option Nat) (t : Nat) (x : Operand) (lo hi mx : Option Operand) (ty : Nat) (pos : String) (af : Array Edge) (rest : List Oper) (tm : Nat → AV) (H : HM) (ds : List ADef) :
    wqs P G M ops N E tl (⟨d, .slice t x lo hi mx, ty, pos, af, none⟩ :: rest) tm H ds = stQ P G M ops N E tl (vslc (tdAt P t) (ev G tm x) (lo.map (ev G tm)) (hi.map (ev G tm)) (mx.map (ev G tm))) d rest tm H ds := by
  rw [q_val _ rfl rfl]
  refine congrArg (fun v => stQ P G M ops N E tl v d rest tm H ds) ?_
  unfold vval vslc
  simp only [Array.toList, List.map_cons, List.map_nil]
  generalize tdAt P t = q
  generalize ev G tm x = x
  cases q with
  | none => rfl
  | some q =>
    cases q <;> first | rfl | (cases x with
      | val v => cases v <;> rfl
      | _ => rfl)
theorem q_lookup (d : Option Nat) (t : Nat) (x k : Operand) (ok : Bool) (ty : Nat) (pos : String) (af : Array Edge) (rest : List Oper) (tm : Nat → AV) (H : HM) (ds : List ADef) :
    wqs P G M ops N E tl (⟨d, .lookup t x k ok, ty, pos, af, none⟩ :: rest) tm H ds = stQ P G M ops N E tl (vlook P (tdAt P t) (entriesOf H (ev G tm x)) (keyOf (ev G tm k)) ok) d rest tm H ds := by
  rw [q_val _ rfl rfl]
  refine congrArg (fun v => stQ P G M ops N E tl v d rest tm H ds) ?_
  unfold vval vlook
  simp only [Array.toList, List.map_cons, List.map_nil]
  generalize tdAt P t = q
  generalize entriesOf H (ev G tm x) = e
  generalize keyOf (ev G tm k) = k
  cases q with
  | none => rfl
  | some q =>
    cases q <;> first | rfl | (cases e <;> cases k <;> rfl)
theorem q_extract (d : Option Nat) (x : Operand) (i : Nat) (ty : Nat) (pos : String) (af : Array Edge) (rest : List Oper) (tm : Nat → AV) (H : HM) (ds : List ADef) :
    wqs P G M ops N E tl (⟨d, .extract x i, ty, pos, af, none⟩ :: rest) tm H ds = stQ P G M ops N E tl (vext (ev G tm x) i) d rest tm H ds := by
  rw [q_val _ rfl rfl]
  refine congrArg (fun v => stQ P G M ops N E tl v d rest tm H ds) ?_
  unfold vval vext
  simp only [Array.toList, List.map_cons, List.map_nil]
  generalize ev G tm x = x
  cases x <;> rfl
theorem q_build (d : Option Nat) (t : Nat) (parts : Array (Nat × Operand)) (ty : Nat) (pos : String) (af : Array Edge) (rest : List Oper) (tm : Nat → AV) (H : HM) (ds : List ADef) :
    wqs P G M ops N E tl (⟨d, .build t parts, ty, pos, af, none⟩ :: rest) tm H ds = stQ P G M ops N E tl (vbld (tiOf P t) (parts.toList.map fun p => (p.1, ev G tm p.2))) d rest tm H ds := by
  rw [q_val _ rfl rfl]
  refine congrArg (fun v => stQ P G M ops N E tl v d rest tm H ds) ?_
  unfold vval vbld
  simp only [Array.toList, List.map_cons, List.map_nil]
  generalize tiOf P t = q
  cases q <;> rfl
theorem q_makeFunc (d : Option Nat) (fn : Fn) (first cap : Array Operand) (ty : Nat) (pos : String) (af : Array Edge) (rest : List Oper) (tm : Nat → AV) (H : HM) (ds : List ADef) :
    wqs P G M ops N E tl (⟨d, .makeFunc fn first cap, ty, pos, af, none⟩ :: rest) tm H ds = stQ P G M ops N E tl (some (.func fn (first.toList.map (ev G tm)) (cap.toList.map (ev G tm)))) d rest tm H ds := by
  exact q_val _ rfl rfl _ _ _ _
theorem q_makeInterface (d : Option Nat) (t : Nat) (x : Operand) (ty : Nat) (pos : String) (af : Array Edge) (rest : List Oper) (tm : Nat → AV) (H : HM) (ds : List ADef) :
    wqs P G M ops N E tl (⟨d, .makeInterface t x, ty, pos, af, none⟩ :: rest) tm H ds = stQ P G M ops N E tl (vmif (tdAt P t) t (ev G tm x)) d rest tm H ds := by
  rw [q_val _ rfl rfl]
  refine congrArg (fun v => stQ P G M ops N E tl v d rest tm H ds) ?_
  unfold vval vmif
  simp only [Array.toList, List.map_cons, List.map_nil]
  generalize tdAt P t = q
  cases q with
  | none => rfl
  | some q => cases q <;> rfl
theorem q_len (d : Option Nat) (x : Operand) (t : Nat) (ty : Nat) (pos : String) (af : Array Edge) (rest : List Oper) (tm : Nat → AV) (H : HM) (ds : List ADef) :
    wqs P G M ops N E tl (⟨d, .call ⟨.builtin .len, #[x], #[t]⟩, ty, pos, af, none⟩ :: rest) tm H ds = stQ P G M ops N E tl (vlenb H (tdAt P t) (ev G tm x)) d rest tm H ds := by
  exact q_val _ rfl rfl _ _ _ _
theorem q_min (d : Option Nat) (x y : Operand) (ts : Array Nat) (ty : Nat) (pos : String) (af : Array Edge) (rest : List Oper) (tm : Nat → AV) (H : HM) (ds : List ADef) :
    wqs P G M ops N E tl (⟨d, .call ⟨.builtin .min, #[x, y], ts⟩, ty, pos, af, none⟩ :: rest) tm H ds = stQ P G M ops N E tl (vmin (ev G tm x) (ev G tm y)) d rest tm H ds := by
  rw [q_val _ rfl rfl]
  refine congrArg (fun v => stQ P G M ops N E tl v d rest tm H ds) ?_
  unfold vval vmin
  simp only [Array.toList, List.map_cons, List.map_nil]
  generalize ev G tm x = x
  generalize ev G tm y = y
  cases x with
  | val v => cases v with
    | int k a => cases y with
      | val u => cases u <;> rfl
      | _ => rfl
    | _ => rfl
  | _ => rfl
theorem q_max (d : Option Nat) (x y : Operand) (ts : Array Nat) (ty : Nat) (pos : String) (af : Array Edge) (rest : List Oper) (tm : Nat → AV) (H : HM) (ds : List ADef) :
    wqs P G M ops N E tl (⟨d, .call ⟨.builtin .max, #[x, y], ts⟩, ty, pos, af, none⟩ :: rest) tm H ds = stQ P G M ops N E tl (vmax (ev G tm x) (ev G tm y)) d rest tm H ds := by
  rw [q_val _ rfl rfl]
  refine congrArg (fun v => stQ P G M ops N E tl v d rest tm H ds) ?_
  unfold vval vmax
  simp only [Array.toList, List.map_cons, List.map_nil]
  generalize ev G tm x = x
  generalize ev G tm y = y
  cases x with
  | val v => cases v with
    | int k a => cases y with
      | val u => cases u <;> rfl
      | _ => rfl
    | _ => rfl
  | _ => rfl
theorem q_call (d : Option Nat) (f : Operand) (as : Array Operand) (ats : Array Nat) (ty : Nat) (pos : String) (af : Array Edge) (rest : List Oper) (tm : Nat → AV) (H : HM) (ds : List ADef) :
    wqs P G M ops N E tl (⟨d, .call ⟨.value f, as, ats⟩, ty, pos, af, none⟩ :: rest) tm H ds = qcall P G M ops N E tl (ev G tm f) (as.toList.map (ev G tm)) d rest tm H ds := by
  rw [vqs_kont _ _ _ _ _ rfl]; rfl
theorem q_box (d : Option Nat) (t : Nat) (x : Operand) (ty : Nat) (pos : String) (af : Array Edge) (rest : List Oper) (tm : Nat → AV) (H : HM) (ds : List ADef) :
    wqs P G M ops N E tl (⟨d, .box t x, ty, pos, af, none⟩ :: rest) tm H ds = ((ev G tm x).one = true ∧ wqs P G M ops N E tl rest (putT d (.ref (ev G tm x).cells) tm) H ds) := by
  rw [vqs_kont _ _ _ _ _ rfl]; rfl
def qbs (P : Program) (G : GT) (M : List Nat) (ops : Array Oper) (N : AS → Prop) (E : AV → AS → Prop) (tl : List Oper) (td : Option TD) (len : Nat) (is : List Nat) (xs : List AV) (d : Option Nat) (rest : List Oper) (tm : Nat → AV) (H : HM) (ds : List ADef) : Prop :=
  match td with
  | some (.slice e sz) => if len = 0 then is = [] ∧ wqs P G M ops N E tl rest (putT d .nil0 tm) H ds else
      bsOk P e sz len is xs ∧ wqs P G M ops N E tl rest (putT d (.list xs) tm) H ds
  | _ => False
theorem q_buildSlice (d : Option Nat) (t len : Nat) (parts : Array (Nat × Operand)) (ty : Nat) (pos : String) (af : Array Edge) (rest : List Oper) (tm : Nat → AV) (H : HM) (ds : List ADef) :
    wqs P G M ops N E tl (⟨d, .buildSlice t len parts, ty, pos, af, none⟩ :: rest) tm H ds = qbs P G M ops N E tl (tdAt P t) len (parts.toList.map (·.1)) (parts.toList.map fun p => ev G tm p.2) d rest tm H ds := by
  rw [vqs_kont _ _ _ _ _ rfl]
  unfold qbs vqx bsOk
  simp only []
  cases tdAt P t with
  | none => rfl
  | some td =>
    cases td with
    | slice e sz =>
      simp only []
      split
      · simp only [List.map_eq_nil_iff]
      · simp only [List.mem_map, forall_exists_index, and_imp, forall_apply_eq_imp_iff₂, and_assoc]
    | _ => rfl
theorem qbs_some (e sz len : Nat) (is : List Nat) (xs : List AV) (d : Option Nat) (rest : List Oper) (tm : Nat → AV) (H : HM) (ds : List ADef) :
    qbs P G M ops N E tl (some (.slice e sz)) len is xs d rest tm H ds = if len = 0 then (is = [] ∧ wqs P G M ops N E tl rest (putT d .nil0 tm) H ds) else (bsOk P e sz len is xs ∧ wqs P G M ops N E tl rest (putT d (.list xs) tm) H ds) := rfl

/-! ### Pure functions -/
/-- The function yields v at these arguments; nothing is touched. -/
def PureF (P : Program) (G : GT) (f : FuncId) (args : List AV) (H : HM) (v : AV) : Prop := Plain P f = true ∧ ∀ K : ARes → HM → Prop, K (.ret v) H → CallF P G f args H K
theorem PureF.pureV {f : FuncId} {args : List AV} {H : HM} {v : AV} (h : PureF P G f args H v) : PureV P G (.fn f) args H v := fun K hk => CallF.callV h.1 (by simpa using h.2 K hk)
theorem wcall_pure {f : FuncId} {args : List AV} {v : AV} {d : Option Nat} {rest : List Oper} {tm : Nat → AV} {H : HM} {ds : List ADef} (h : PureF P G f args H v) (hk : wops P G M ops N E rest (putT d v tm) H ds) :
    wcall P G M ops N E (.func (.func f) [] []) args d rest tm H ds := h.pureV _ hk
theorem wcall_of {f : FuncId} {args : List AV} {d : Option Nat} {rest : List Oper} {tm : Nat → AV} {H : HM} {ds : List ADef} (hp : Plain P f = true) (h : CallF P G f args H (kont P G M ops N E d rest tm ds)) :
    wcall P G M ops N E (.func (.func f) [] []) args d rest tm H ds := CallF.callV hp (by simpa using h)
theorem qcall_pure {f : FuncId} {args : List AV} {v : AV} {d : Option Nat} {rest : List Oper} {tm : Nat → AV} {H : HM} {ds : List ADef} (h : PureF P G f args H v) (hk : wqs P G M ops N E tl rest (putT d v tm) H ds) :
    qcall P G M ops N E tl (.func (.func f) [] []) args d rest tm H ds := ⟨v, h.pureV, hk⟩

/-! ### Control -/
theorem VW_regE (M : List Nat) {id : Nat} {tm : Nat → AV} {H : HM} {ds : List ADef} (h : ∀ (N : AS → Prop) (E : AV → AS → Prop), (∀ s', Q .normal s' → N s') → (∀ v s', Q (.pan v) s' → E v s') → wops P G M ops N E ops.toList tm H ds) :
    VW P G n r (.region id ops false) Q ⟨tm, H, ds⟩ :=
  (VW_ops M (h _ _ (fun _ h => h) (fun _ _ h => h))).mono fun x s hx => by cases x <;> first | exact hx | exact hx.elim
theorem VW_reg (M : List Nat) {id : Nat} {y : Code} {tm : Nat → AV} {H : HM} {ds : List ADef} (h : ∀ (N : AS → Prop) (E : AV → AS → Prop), (∀ s', VW P G n r y Q s' → N s') → (∀ v s', Q (.pan v) s' → E v s') → wops P G M ops N E ops.toList tm H ds) :
    VW P G n r (.seq (.region id ops false) y) Q ⟨tm, H, ds⟩ :=
  VW_seq (VW_regE M h)
theorem VW_regqE (M : List Nat) {id : Nat} {tm : Nat → AV} {H : HM} {ds : List ADef} (k : Nat) (hm : P.follows .mixedOrders = true) (hk : headOk ops k = true) (ht : tailOk ops k = true)
    (h : ∀ (N : AS → Prop) (E : AV → AS → Prop), (∀ s', Q .normal s' → N s') → (∀ v s', Q (.pan v) s' → E v s') → wqs P G M ops N E (ops.toList.drop k) (ops.toList.take k) tm H ds) :
    VW P G n r (.region id ops true) Q ⟨tm, H, ds⟩ :=
  VW.mono (Q := onN (fun s' => Q .normal s') (fun v s' => Q (.pan v) s')) (VW_quiet M k hm hk ht (h _ _ (fun _ h => h) (fun _ _ h => h))) fun x s hx => by cases x <;> first | exact hx | exact hx.elim
theorem VW_regq (M : List Nat) {id : Nat} {y : Code} {tm : Nat → AV} {H : HM} {ds : List ADef} (k : Nat) (hm : P.follows .mixedOrders = true) (hk : headOk ops k = true) (ht : tailOk ops k = true)
    (h : ∀ (N : AS → Prop) (E : AV → AS → Prop), (∀ s', VW P G n r y Q s' → N s') → (∀ v s', Q (.pan v) s' → E v s') → wqs P G M ops N E (ops.toList.drop k) (ops.toList.take k) tm H ds) :
    VW P G n r (.seq (.region id ops true) y) Q ⟨tm, H, ds⟩ :=
  VW_seq (VW_regqE M k hm hk ht h)

theorem VW_if {c : Operand} {x y : Code} {t : Bool} {tm : Nat → AV} {H : HM} {ds : List ADef} (hc : ev G tm c = .val (.bool t)) (h1 : t = true → VW P G n r x Q ⟨tm, H, ds⟩) (h2 : t = false → VW P G n r y Q ⟨tm, H, ds⟩) :
    VW P G n r (.cond c x y) Q ⟨tm, H, ds⟩ := VW_cond (t := t) (by rw [eval_ev]; exact hc) h1 h2

theorem least {p : Nat → Prop} : ∀ n, p n → ∃ k, p k ∧ ∀ m, p m → k ≤ m := by
  intro n
  induction n using Nat.strongRecOn with
  | _ n ih =>
    intro hn
    by_cases h : ∃ m, m < n ∧ p m
    · obtain ⟨m, h1, h2⟩ := h; exact ih m h1 h2
    · exact ⟨n, hn, fun m hm => Nat.le_of_not_lt fun hl => h ⟨m, hl, hm⟩⟩
open Classical in
/-- A loop whose invariant bears an index that falls. -/
theorem VW_loopI {ι : Type} {c : Code} (Inv : ι → AS → Prop) (μ : ι → Nat) (i : ι) (h0 : Inv i s) (round : ∀ i s, Inv i s → VW P G n r c (AX.then (fun s' => ∃ j, Inv j s' ∧ μ j < μ i) Q) s) : VW P G n r (.loop c) Q s := by
  have hl : ∀ s, (∃ i, Inv i s) → ∃ k, (∃ i, Inv i s ∧ μ i = k) ∧ ∀ m, (∃ i, Inv i s ∧ μ i = m) → k ≤ m := fun s ⟨i, hi⟩ => least (p := fun k => ∃ i, Inv i s ∧ μ i = k) (μ i) ⟨i, hi, rfl⟩
  let m : AS → Nat := fun s => if h : ∃ i, Inv i s then Classical.choose (hl s h) else 0
  have hm : ∀ s, (h : ∃ i, Inv i s) → (∃ i, Inv i s ∧ μ i = m s) ∧ ∀ k, (∃ i, Inv i s ∧ μ i = k) → m s ≤ k := by
    intro s h
    have : m s = Classical.choose (hl s h) := dif_pos h
    rw [this]; exact Classical.choose_spec (hl s h)
  refine VW_loop (fun s => ∃ i, Inv i s) m ⟨i, h0⟩ ?_
  intro s hs
  obtain ⟨⟨i1, hi1, e1⟩, _⟩ := hm s hs
  refine (round i1 s hi1).mono ?_
  intro x s' hx
  cases x with
  | normal =>
    obtain ⟨j, hj, hlt⟩ := hx
    refine ⟨⟨j, hj⟩, ?_⟩
    have := (hm s' ⟨j, hj⟩).2 _ ⟨j, hj, rfl⟩
    omega
  | _ => exact hx

def gvalA : AV → Option Bool
  | .val (.bool b) => some b
  | _ => none
theorem upd_self {tm : Nat → AV} {i : Nat} {v : AV} (h : tm i = v) : upd tm i v = tm := by
  funext k; unfold upd; split
  · rename_i e; rw [e, h]
  · rfl
/-- What is known of a temporary. -/
theorem VW_know {c : Code} {tm : Nat → AV} {H : HM} {ds : List ADef} (i : Nat) (v : AV) (h : tm i = v) (hw : VW P G n r c Q ⟨upd tm i v, H, ds⟩) : VW P G n r c Q ⟨tm, H, ds⟩ := by
  rw [upd_self h] at hw; exact hw
theorem upd_eq (tm : Nat → AV) (i : Nat) (v : AV) (k : Nat) : upd tm i v k = if k = i then v else tm k := rfl
theorem putT_some (i : Nat) (v : AV) (tm : Nat → AV) : putT (some i) v tm = upd tm i v := rfl
theorem putT_none (v : AV) (tm : Nat → AV) : putT none v tm = tm := rfl
theorem ev_tmp (G : GT) (tm : Nat → AV) (t : Nat) : ev G tm (.tmp t) = tm t := rfl
theorem ev_func (G : GT) (tm : Nat → AV) (f : Nat) : ev G tm (.func f) = .func (.func f) [] [] := rfl
theorem ev_int (G : GT) (tm : Nat → AV) (k : IntKind) (i : Int) : ev G tm (.const (.int k i)) = .val (.int k i) := rfl
theorem ev_bool (G : GT) (tm : Nat → AV) (b : Bool) : ev G tm (.const (.bool b)) = .val (.bool b) := rfl
theorem ev_str (G : GT) (tm : Nat → AV) (b : ByteArray) : ev G tm (.const (.string b)) = .val (.string b) := rfl
theorem ev_slice (G : GT) (tm : Nat → AV) : ev G tm (.const (.slice none 0 0)) = .nil0 := rfl
theorem ev_map (G : GT) (tm : Nat → AV) : ev G tm (.const (.map none)) = .val (.map none) := rfl
theorem ev_ptr (G : GT) (tm : Nat → AV) : ev G tm (.const (.pointer none)) = .val (.pointer none) := rfl
theorem ev_agg (G : GT) (tm : Nat → AV) (cs : Array Value) : ev G tm (.const (.agg cs)) = .agg (cs.toList.map cst1) := rfl
theorem ev_tup (G : GT) (tm : Nat → AV) (cs : Array Value) : ev G tm (.const (.tuple cs)) = .val (.tuple cs) := rfl
theorem gval_some (tm : Nat → AV) (d : Nat) (op : Op) (ty : Nat) (pos : String) (af : Array Edge) (g : Option (Nat × Bool)) : gval tm (some ⟨some d, op, ty, pos, af, g⟩) = gvalA (tm d) := by
  unfold gval gvalA; rfl
theorem gvalA_unit (x : Array Value) : gvalA (.val (.tuple x)) = none := rfl
theorem gvalA_bool (b : Bool) : gvalA (.val (.bool b)) = some b := rfl
theorem isMut_some (M : List Nat) (d : Nat) : isMut M (some d) = M.contains d := rfl
theorem isImm_some (M : List Nat) (d : Nat) : isImm M (some d) = M.contains (d + 1000000) := rfl
theorem cont_nil (d : Nat) : ([] : List Nat).contains d = false := rfl
theorem cont_cons (a d : Nat) (l : List Nat) : (a :: l).contains d = if d = a then true else l.contains d := by
  by_cases h : d = a <;> simp [h]
theorem isMut_none (M : List Nat) : isMut M none = false := rfl
end
def VS := And.intro @w_range <| And.intro @wrg_str <| And.intro @wrg_map <| And.intro @w_next <| And.intro @wnxt_addr <| And.intro @wnx_str <| And.intro @wnx_map <| And.intro @w_entry <| And.intro @w_copy <| And.intro @w_nil <| And.intro @w_guard <| And.intro @wgd_yes <| And.intro @wgd_tf <| And.intro @wgd_ft <| And.intro @wgd_none <| And.intro @w_move <| And.intro @w_assign <| And.intro @stV_some <| And.intro @stV_none <| And.intro @w_pick <| And.intro @w_load <| And.intro @w_nilCheck <| And.intro @w_binOp <| And.intro @w_unOp <| And.intro @w_convert <| And.intro @w_fieldAddr <| And.intro @w_field <| And.intro @w_indexAddr <| And.intro @w_index <| And.intro @w_slice <| And.intro @w_lookup <| And.intro @w_extract <| And.intro @w_build <| And.intro @w_makeFunc <| And.intro @w_makeInterface <| And.intro @w_len <| And.intro @w_min <| And.intro @w_max <| And.intro @w_call <| And.intro @w_append <| And.intro @wapp_f <| And.intro @wapp_t <| And.intro @isImm_some <| And.intro @w_box <| And.intro @wbox_t <| And.intro @wbox_f <| And.intro @w_alloc <| And.intro @walloc_some <| And.intro @w_makeMap <| And.intro @w_store <| And.intro @wst_addr <| And.intro @wstA_cells <| And.intro @wstE_some <| And.intro @w_mapUpdate <| And.intro @w_insert <| And.intro @wput_map <| And.intro @wput1_map <| And.intro @w_buildSlice <| And.intro @wbs_some <| And.intro @upd_eq <| And.intro @putT_some <| And.intro @putT_none <| And.intro @ev_tmp <| And.intro @ev_func <| And.intro @ev_int <| And.intro @ev_bool <| And.intro @ev_str <| And.intro @ev_slice <| And.intro @ev_map <| And.intro @ev_ptr <| And.intro @ev_agg <| And.intro @ev_tup <| And.intro @gval_some <| And.intro @gvalA_bool <| And.intro @gvalA_unit <| And.intro @cont_nil <| And.intro @cont_cons <| And.intro @isMut_some @isMut_none
def QS := And.intro @q_nil <| And.intro @q_guard <| And.intro @qgd_yes <| And.intro @qgd_tf <| And.intro @qgd_ft <| And.intro @qgd_none <| And.intro @q_move <| And.intro @q_assign <| And.intro @stQ_some <| And.intro @stQ_none <| And.intro @q_pick <| And.intro @q_load <| And.intro @q_nilCheck <| And.intro @q_binOp <| And.intro @q_unOp <| And.intro @q_convert <| And.intro @q_fieldAddr <| And.intro @q_field <| And.intro @q_indexAddr <| And.intro @q_index <| And.intro @q_slice <| And.intro @q_lookup <| And.intro @q_extract <| And.intro @q_build <| And.intro @q_makeFunc <| And.intro @q_makeInterface <| And.intro @q_len <| And.intro @q_min <| And.intro @q_max <| And.intro @q_call <| And.intro @q_box <| And.intro @q_buildSlice @qbs_some
end Go.V
